/- Functions of the program, as functions of values. -/
import Derived.Test.YtgjklpadcmedkaaDoorAm28
import Derived.Test.YtgjklpadcmedkaaDoorShelf
import Derived.Test.YtgjklpadcmedkaaDoorAm36
import Derived.Lib.ItoaNum
import Derived.Test.YtgjklpadcmedkaaDoorAm30
import Derived.Test.YtgjklpadcmedkaaDoorChecked
namespace Go.Proofs.YtgjklpadcmedkaaDoor
open Go Go.RowKit
set_option linter.unusedVariables false
set_option maxRecDepth 100000

/-! plugtree/route.Check -/
def F9_l2 (n : Nat) (path : List Int) (k9_2 : Int → Option Int) : Int → Option Int
 | x => (bif (decide (x < ((path.length : Nat) : Int))) then (bif inb x path.length then (bif (decide ((path.getD x.toNat (0 : Int)) < (1 : Int))) then (some (1 : Int)) else (bif (decide ((path.getD x.toNat (0 : Int)) > (15 : Int))) then (some (1 : Int)) else (k9_2 (IntKind.wrap .i64 (x + (1 : Int)))))) else none) else (some (0 : Int)))
def F9 (n : Nat) (path : List Int) : Option Int := (bif (((path.length : Nat) : Int) == (0 : Int)) then (some (1 : Int)) else (bif (decide (((path.length : Nat) : Int) > (6 : Int))) then (some (2 : Int)) else (loopF (F9_l2 n path) n (0 : Int))))
theorem F9_ok (n : Nat) (path : List Int) (r : Int) (h : F9 n path = some r) : PureC Tryd.prog 9 [(.sl (.int .i64) path)] (.int .i64 r) [] := by
 refine PureC.mkS Tryd.func9 rfl rfl ?_;intro w0 fz0 hfz;rw [F9] at h;refine TS.sq [] (tn 1) (by kernel_rfl) ?_;refine TS.seq (TS.block (TS.sq [] (tn 4) (by kernel_rfl) ?_));rcases bif_some h with ⟨c1, h⟩ | ⟨c2, h⟩
 ·refine TS.ct c1 (by kernel_rfl) ?_;refine TS.sq [] (tn 1) (by kernel_rfl) ?_;refine TS.ret (XS.blockRet (XS.passR ?_));cases h;exact XS.fn [] (tn 1) (by kernel_rfl)
 refine TS.cf c2 (by kernel_rfl) ?_;refine TS.sq [] (tn 4) (by kernel_rfl) ?_;rcases bif_some h with ⟨c3, h⟩ | ⟨c4, h⟩
 ·refine TS.ct c3 (by kernel_rfl) ?_;refine TS.sq [] (tn 1) (by kernel_rfl) ?_;refine TS.ret (XS.blockRet (XS.passR ?_));cases h;exact XS.fn [] (tn 1) (by kernel_rfl)
 refine TS.cf c4 (by kernel_rfl) ?_;refine TS.skip (XS.blockEnd (XS.then (TS.seq (TS.sq [] (tn 3) (by kernel_rfl) ?_))));refine TS.block (TS.lp (F := F9_l2 n path) [] (mkMask 26 [13, 14, 15]) (fun x => (mkTs 26 [(13, (.sl (.int .i64) path)), (14, (.int .i64 ((path.length : Nat) : Int))), (15, (.int .i64 x))], [])) h (by kernel_rfl) ?_);rintro n2 x h;rw [F9_l2] at h;refine TS.sq [] (tn 1) (by kernel_rfl) ?_;refine TS.seq ?_;rcases bif_some h with ⟨c5, h⟩ | ⟨c6, h⟩
 ·refine TS.ct c5 (by kernel_rfl) ?_;refine TS.skip (XS.then (TS.seq (TS.block (TS.seq ?_))));obtain ⟨t7, h⟩ := test_some h;refine TS.rg [] (ai (inb_ok t7) (tn 2)) (by kernel_rfl) ?_;refine XS.then (TS.seq ?_);rcases bif_some h with ⟨c8, h⟩ | ⟨c9, h⟩
  ·refine TS.rg [.none, .none, .dec true] (an 2 (ai (ai tv c8) (tn 1))) (by kernel_rfl) ?_;refine XS.then (TS.yes (by kernel_rfl) ?_);refine TS.sq [] (tn 1) (by kernel_rfl) ?_;refine TS.ret (XS.blockRet (XS.passR (XS.passR (XS.blockRet (XS.passR ?_)))));cases h;exact XS.fn [] (tn 1) (by kernel_rfl)
  refine TS.rg [.none, .none, .dec false] (an 2 (ai (ai tv c9) (tn 3))) (by kernel_rfl) ?_;refine XS.then ?_;rcases bif_some h with ⟨c10, h⟩ | ⟨c11, h⟩
  ·refine TS.ct c10 (by kernel_rfl) ?_;refine TS.sq [] (tn 1) (by kernel_rfl) ?_;refine TS.ret (XS.blockRet (XS.passR (XS.passR (XS.blockRet (XS.passR ?_)))));cases h;exact XS.fn [] (tn 1) (by kernel_rfl)
  refine TS.cf c11 (by kernel_rfl) ?_;refine TS.skip (XS.blockEnd (XS.then (TS.rg [] (tn 2) (by kernel_rfl) ?_)));exact XS.ra [] (mkMask 26 [13, 14, 15]) h (by kernel_rfl)
 refine TS.cf c6 (by kernel_rfl) ?_;refine TS.exit (XS.passE (XS.passE (XS.out (XS.then (TS.sq [] (tn 1) (by kernel_rfl) ?_)))));refine TS.ret ?_;cases h;exact XS.fn [] (tn 1) (by kernel_rfl)

/-! strconv.Itoa -/
def F10 (n : Nat) (i : Int) : Option (List UInt8) := bif decide (0 ≤ i ∧ i < 100) then some (Lib.decDigits (i).toNat) else none
theorem F10_ok (n : Nat) (i : Int) (r : (List UInt8)) (h : F10 n i = some r) : PureC Tryd.prog 10 [(.int .i64 i)] (.str r) [] := by
  unfold F10 at h
  obtain ⟨c, h⟩ := test_some h
  obtain rfl := Option.some.inj h
  exact PureC.itoa i (of_decide_eq_true c) (fun i hi w => Tryd.strconv_Itoa_small i hi w)

/-! strings.Join -/
def F11 (n : Nat) (elems : List (List UInt8)) (sep : List UInt8) : Option (List UInt8) := bif decide ((Lib.join elems sep).length ≤ 140737488355328 ∧ elems.length ≤ 140737488355328) then some (Lib.join elems sep) else none
theorem F11_ok (n : Nat) (elems : List (List UInt8)) (sep : List UInt8) (r : (List UInt8)) (h : F11 n elems sep = some r) : PureC Tryd.prog 11 [(.sl .str elems), (.str sep)] (.str r) [] := by
  unfold F11 at h
  obtain ⟨c, h⟩ := test_some h
  obtain rfl := Option.some.inj h
  exact PureC.join elems sep (of_decide_eq_true c) Tryd.strings_Join_none Tryd.strings_Join

/-! plugtree/route.Show -/
def F4_l2 (n : Nat) (path : List Int) (k4_2 : (Int × (List (List UInt8))) → Option ((List UInt8) × Int)) : (Int × (List (List UInt8))) → Option ((List UInt8) × Int)
 | (x, m0) => (bif (decide (x < ((path.length : Nat) : Int))) then (bif inb x path.length then ((F10 n (path.getD x.toNat (0 : Int))).bind fun y_4 => (bif (decide (m0.length + [y_4].length ≤ 8796093022208)) then (k4_2 ((IntKind.wrap .i64 (x + (1 : Int))), (m0 ++ [y_4]))) else none)) else none) else ((F11 n m0 ([46] : List UInt8)).bind fun y_5 => (some (y_5, (0 : Int)))))
def F4 (n : Nat) (path : List Int) : Option ((List UInt8) × Int) := ((F9 n path).bind fun y_3 => (bif (y_3 != (0 : Int)) then (some (([] : List UInt8), y_3)) else (loopF (F4_l2 n path) n ((0 : Int), ([] : List (List UInt8))))))
theorem F4_ok (n : Nat) (path : List Int) (r : (List UInt8) × Int) (h : F4 n path = some r) : PureC Tryd.prog 4 [(.sl (.int .i64) path)] (.tup (.cons (.str r.1) (.cons (.int .i64 r.2) .nil))) [] := by
 refine PureC.mkS Tryd.func4 rfl rfl ?_;intro w0 fz0 hfz;rw [F4] at h;refine TS.sq [] (tn 2) (by kernel_rfl) ?_;refine TS.seq (TS.seq ?_);obtain ⟨y_3, hx1, h⟩ := bind_some' h;refine TS.rg [.none, (.call (.int .i64 y_3) [])] (ai tv (ai (F9_ok n path y_3 hx1) (tn 1))) (by kernel_rfl) ?_;refine XS.then (TS.sq [] (tn 2) (by kernel_rfl) ?_);rcases bif_some h with ⟨c2, h⟩ | ⟨c3, h⟩
 ·refine TS.ct c2 (by kernel_rfl) ?_;refine TS.sq [] (tn 3) (by kernel_rfl) ?_;refine TS.ret (XS.passR ?_);cases h;exact XS.fn [] (tn 2) (by kernel_rfl)
 refine TS.cf c3 (by kernel_rfl) ?_;refine TS.skip (XS.then (TS.sq [] (tn 1) (by kernel_rfl) ?_));refine TS.seq (TS.sq [] (tn 3) (by kernel_rfl) ?_);refine TS.block (TS.wk (.row false 5 [] 9 .str) ?_);refine TS.lp (F := F4_l2 n path) [0] (mkMask 27 [5, 13, 14, 15]) (fun (x, m0) => (mkTs 27 [(5, (.row 0)), (13, (.sl (.int .i64) path)), (14, (.int .i64 ((path.length : Nat) : Int))), (15, (.int .i64 x))], [(.row 9 .str m0)])) h (by kernel_rfl) ?_;rintro n2 ⟨x, m0⟩ h;rw [F4_l2] at h;refine TS.sq [] (tn 1) (by kernel_rfl) ?_;refine TS.seq ?_;rcases bif_some h with ⟨c4, h⟩ | ⟨c5, h⟩
 ·refine TS.ct c4 (by kernel_rfl) ?_;refine TS.skip (XS.then (TS.seq (TS.block (TS.seq ?_))));obtain ⟨t6, h⟩ := test_some h;refine TS.rg [] (ai (inb_ok t6) (tn 2)) (by kernel_rfl) ?_;refine XS.then ?_;obtain ⟨y_4, hx7, h⟩ := bind_some' h;obtain ⟨t8, h⟩ := test_some h;refine TS.rg (C := (True) ∧ ((True) ∧ ((PureC Tryd.prog 10 [(.int .i64 (path.getD x.toNat (0 : Int)))] (.str y_4) []) ∧ (((0 < 1 ∧ True) ∧ (True)) ∧ ((m0.length + [y_4].length ≤ 8796093022208) ∧ ((True) ∧ (True))))))) [.none, .none, (.call (.str y_4) [])] ⟨trivial, ⟨trivial, ⟨F10_ok n (path.getD x.toNat (0 : Int)) y_4 hx7, ⟨⟨⟨by decide, trivial⟩, trivial⟩, ⟨of_decide_eq_true t8, ⟨trivial, trivial⟩⟩⟩⟩⟩⟩ (by kernel_rfl) ?_;refine XS.blockEnd (XS.then (TS.rg [] (tn 2) (by kernel_rfl) ?_));exact XS.ra [2] (mkMask 27 [5, 13, 14, 15]) h (by kernel_rfl)
 refine TS.cf c5 (by kernel_rfl) ?_;refine TS.exit (XS.passE (XS.passE (XS.out (XS.then (TS.seq ?_)))));obtain ⟨y_5, hx9, h⟩ := bind_some' h;refine TS.rg [.none, (.call (.str y_5) [])] (ai tv (ai (ai (tn 2) (F11_ok n m0 ([46] : List UInt8) y_5 hx9)) (tn 2))) (by kernel_rfl) ?_;refine XS.then (TS.ret ?_);cases h;exact XS.fn [] (tn 2) (by kernel_rfl)
end Go.Proofs.YtgjklpadcmedkaaDoor
