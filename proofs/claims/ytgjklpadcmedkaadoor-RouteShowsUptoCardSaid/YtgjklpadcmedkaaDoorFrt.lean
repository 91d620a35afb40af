/- Functions of the program, as functions of values. -/
import Derived.Test.YtgjklpadcmedkaaDoorAm28
import Derived.Test.YtgjklpadcmedkaaDoorShelf
import Derived.Test.YtgjklpadcmedkaaDoorAm32
import Derived.Test.YtgjklpadcmedkaaDoorRtReadC
import Derived.Test.YtgjklpadcmedkaaDoorFrs
import Derived.Test.YtgjklpadcmedkaaDoorAm30
import Derived.Test.YtgjklpadcmedkaaDoorChecked
namespace Go.Proofs.YtgjklpadcmedkaaDoor
open Go Go.RowKit
set_option linter.unusedVariables false
set_option maxRecDepth 100000

/-! slices.Min[[]int,int] -/
def F21_l4 (n : Nat) (x : List Int) (k21_4 : (Int × Int) → Option Int) : (Int × Int) → Option Int
 | (m, i) => (bif (decide (i < ((x.length : Nat) : Int))) then (bif inb i x.length then (k21_4 ((if (x.getD i.toNat (0 : Int)) < m then (x.getD i.toNat (0 : Int)) else m), (IntKind.wrap .i64 (i + (1 : Int))))) else none) else (some m))
def F21_j3 (n : Nat) (x : List Int) : Unit → Option Int
 | () => (bif inb (0 : Int) x.length then (loopF (F21_l4 n x) n ((x.getD 0 (0 : Int)), (1 : Int))) else none)
def F21 (n : Nat) (x : List Int) : Option Int := (bif (decide (((x.length : Nat) : Int) < (1 : Int))) then none else (F21_j3 n x ()))
theorem F21_ok (n : Nat) (x : List Int) (r : Int) (h : F21 n x = some r) : PureC Tryd.prog 21 [(.sl (.int .i64) x)] (.int .i64 r) [] := by
 refine PureC.mkS Tryd.func21 rfl rfl ?_;intro w0 fz0 hfz;rw [F21] at h;refine TS.sq [] (tn 1) (by kernel_rfl) ?_;refine TS.seq (TS.sq [] (tn 3) (by kernel_rfl) ?_);refine TS.cu (F21_j3 n x) r (fun () => (mkTs 25 [(0, (.sl (.int .i64) x))], [])) ?_ ?_
 ·rintro ⟨⟩ h;rw [F21_j3] at h;refine XS.then (TS.seq ?_);obtain ⟨t1, h⟩ := test_some h;refine TS.rg [] (ai tv (ai (inb_ok t1) (tn 2))) (by kernel_rfl) ?_;refine XS.then (TS.seq (TS.sq [] (tn 1) (by kernel_rfl) ?_));refine TS.block (TS.lp (F := F21_l4 n x) [] (mkMask 25 [0, 3, 4]) (fun (m, i) => (mkTs 25 [(0, (.sl (.int .i64) x)), (3, (.int .i64 m)), (4, (.int .i64 i))], [])) h (by kernel_rfl) ?_);rintro n4 ⟨m, i⟩ h;rw [F21_l4] at h;refine TS.seq (TS.sq [] (tn 4) (by kernel_rfl) ?_);rcases bif_some h with ⟨c2, h⟩ | ⟨c3, h⟩
  ·refine TS.ct c2 (by kernel_rfl) ?_;refine TS.skip (XS.then (TS.seq (TS.block ?_)));obtain ⟨t4, h⟩ := test_some h;refine TS.rg [] (an 3 (ai (inb_ok t4) (tn 3))) (by kernel_rfl) ?_;refine XS.blockEnd (XS.then (TS.rg [] (tn 3) (by kernel_rfl) ?_));exact XS.ra [] (mkMask 25 [0, 3, 4]) h (by kernel_rfl)
  refine TS.cf c3 (by kernel_rfl) ?_;refine TS.exit (XS.passE (XS.passE (XS.out (XS.then (TS.sq [] (tn 2) (by kernel_rfl) ?_)))));refine TS.ret ?_;cases h;exact XS.fn [] (tn 1) (by kernel_rfl)
 rcases bif_some h with ⟨c5, h⟩ | ⟨c6, h⟩
 ·refine TS.ct c5 (by kernel_rfl) ?_;cases h
 refine TS.cf c6 (by kernel_rfl) ?_;exact TS.skip (XS.ra [] (mkMask 25 [0]) h (by kernel_rfl))

/-! slices.Max[[]int,int] -/
def F22_l4 (n : Nat) (x : List Int) (k22_4 : (Int × Int) → Option Int) : (Int × Int) → Option Int
 | (m, i) => (bif (decide (i < ((x.length : Nat) : Int))) then (bif inb i x.length then (k22_4 ((if (x.getD i.toNat (0 : Int)) > m then (x.getD i.toNat (0 : Int)) else m), (IntKind.wrap .i64 (i + (1 : Int))))) else none) else (some m))
def F22_j3 (n : Nat) (x : List Int) : Unit → Option Int
 | () => (bif inb (0 : Int) x.length then (loopF (F22_l4 n x) n ((x.getD 0 (0 : Int)), (1 : Int))) else none)
def F22 (n : Nat) (x : List Int) : Option Int := (bif (decide (((x.length : Nat) : Int) < (1 : Int))) then none else (F22_j3 n x ()))
theorem F22_ok (n : Nat) (x : List Int) (r : Int) (h : F22 n x = some r) : PureC Tryd.prog 22 [(.sl (.int .i64) x)] (.int .i64 r) [] := by
 refine PureC.mkS Tryd.func22 rfl rfl ?_;intro w0 fz0 hfz;rw [F22] at h;refine TS.sq [] (tn 1) (by kernel_rfl) ?_;refine TS.seq (TS.sq [] (tn 3) (by kernel_rfl) ?_);refine TS.cu (F22_j3 n x) r (fun () => (mkTs 25 [(0, (.sl (.int .i64) x))], [])) ?_ ?_
 ·rintro ⟨⟩ h;rw [F22_j3] at h;refine XS.then (TS.seq ?_);obtain ⟨t1, h⟩ := test_some h;refine TS.rg [] (ai tv (ai (inb_ok t1) (tn 2))) (by kernel_rfl) ?_;refine XS.then (TS.seq (TS.sq [] (tn 1) (by kernel_rfl) ?_));refine TS.block (TS.lp (F := F22_l4 n x) [] (mkMask 25 [0, 3, 4]) (fun (m, i) => (mkTs 25 [(0, (.sl (.int .i64) x)), (3, (.int .i64 m)), (4, (.int .i64 i))], [])) h (by kernel_rfl) ?_);rintro n4 ⟨m, i⟩ h;rw [F22_l4] at h;refine TS.seq (TS.sq [] (tn 4) (by kernel_rfl) ?_);rcases bif_some h with ⟨c2, h⟩ | ⟨c3, h⟩
  ·refine TS.ct c2 (by kernel_rfl) ?_;refine TS.skip (XS.then (TS.seq (TS.block ?_)));obtain ⟨t4, h⟩ := test_some h;refine TS.rg [] (an 3 (ai (inb_ok t4) (tn 3))) (by kernel_rfl) ?_;refine XS.blockEnd (XS.then (TS.rg [] (tn 3) (by kernel_rfl) ?_));exact XS.ra [] (mkMask 25 [0, 3, 4]) h (by kernel_rfl)
  refine TS.cf c3 (by kernel_rfl) ?_;refine TS.exit (XS.passE (XS.passE (XS.out (XS.then (TS.sq [] (tn 2) (by kernel_rfl) ?_)))));refine TS.ret ?_;cases h;exact XS.fn [] (tn 1) (by kernel_rfl)
 rcases bif_some h with ⟨c5, h⟩ | ⟨c6, h⟩
 ·refine TS.ct c5 (by kernel_rfl) ?_;cases h
 refine TS.cf c6 (by kernel_rfl) ?_;exact TS.skip (XS.ra [] (mkMask 25 [0]) h (by kernel_rfl))

/-! plugtree/plugref.Path -/
def F12 (n : Nat) (path : List Int) : Option Int := (bif (decide (((path.length : Nat) : Int) > (6 : Int))) then (some (2 : Int)) else (bif (((path.length : Nat) : Int) == (0 : Int)) then (some (1 : Int)) else ((F21 n path).bind fun y_2 => (bif (decide (y_2 < (1 : Int))) then (some (1 : Int)) else ((F22 n path).bind fun y_3 => (bif (decide (y_3 > (15 : Int))) then (some (1 : Int)) else (some (0 : Int))))))))
theorem F12_ok (n : Nat) (path : List Int) (r : Int) (h : F12 n path = some r) : PureC Tryd.prog 12 [(.sl (.int .i64) path)] (.int .i64 r) [] := by
 refine PureC.mkS Tryd.func12 rfl rfl ?_;intro w0 fz0 hfz;rw [F12] at h;refine TS.sq [] (tn 1) (by kernel_rfl) ?_;refine TS.seq (TS.sq [] (tn 3) (by kernel_rfl) ?_);rcases bif_some h with ⟨c1, h⟩ | ⟨c2, h⟩
 ·refine TS.ct c1 (by kernel_rfl) ?_;refine TS.sq [] (tn 1) (by kernel_rfl) ?_;refine TS.ret (XS.passR ?_);cases h;exact XS.fn [] (tn 1) (by kernel_rfl)
 refine TS.cf c2 (by kernel_rfl) ?_;refine TS.skip (XS.then (TS.seq (TS.seq ?_)));rcases bif_some h with ⟨c3, h⟩ | ⟨c4, h⟩
 ·refine TS.rg [.none, .none, .none, .dec true] (an 3 (ai (ai tv c3) (tn 3))) (by kernel_rfl) ?_;refine XS.then (TS.yes (by kernel_rfl) ?_);refine TS.sq [] (tn 1) (by kernel_rfl) ?_;refine TS.ret (XS.passR ?_);cases h;exact XS.fn [] (tn 1) (by kernel_rfl)
 obtain ⟨y_2, hx5, h⟩ := bind_some' h;rcases bif_some h with ⟨c6, h⟩ | ⟨c7, h⟩
 ·refine TS.rg [.none, .none, .none, .dec false, .none, (.call (.int .i64 y_2) []), .none, .none, .dec true] (an 3 (ai (ai tv c4) (ai tv (ai (F21_ok n path y_2 hx5) (an 2 (ai (ai tv c6) (tn 1))))))) (by kernel_rfl) ?_;refine XS.then (TS.yes (by kernel_rfl) ?_);refine TS.sq [] (tn 1) (by kernel_rfl) ?_;refine TS.ret (XS.passR ?_);cases h;exact XS.fn [] (tn 1) (by kernel_rfl)
 obtain ⟨y_3, hx8, h⟩ := bind_some' h;refine TS.rg [.none, .none, .none, .dec false, .none, (.call (.int .i64 y_2) []), .none, .none, .dec false, .none, (.call (.int .i64 y_3) [])] (an 3 (ai (ai tv c4) (ai tv (ai (F21_ok n path y_2 hx5) (an 2 (ai (ai tv c7) (ai tv (ai (F22_ok n path y_3 hx8) (tn 2))))))))) (by kernel_rfl) ?_;refine XS.then ?_;rcases bif_some h with ⟨c9, h⟩ | ⟨c10, h⟩
 ·refine TS.ct c9 (by kernel_rfl) ?_;refine TS.sq [] (tn 1) (by kernel_rfl) ?_;refine TS.ret (XS.passR ?_);cases h;exact XS.fn [] (tn 1) (by kernel_rfl)
 refine TS.cf c10 (by kernel_rfl) ?_;refine TS.skip (XS.then (TS.sq [] (tn 1) (by kernel_rfl) ?_));refine TS.ret ?_;cases h;exact XS.fn [] (tn 1) (by kernel_rfl)

/-! plugtree/plugref.portText -/
def F13 (n : Nat) (vn : Int) : Option (List UInt8) := (bif (decide (vn > (9 : Int))) then (bif subB (([48, 49, 50, 51, 52, 53, 54, 55, 56, 57] : List UInt8).length) (some (IntKind.wrap .i64 (vn - (10 : Int)))) (some (IntKind.wrap .i64 (vn - (9 : Int)))) then (bif (decide (([49] : List UInt8).length + ((([48, 49, 50, 51, 52, 53, 54, 55, 56, 57] : List UInt8).take (IntKind.wrap .i64 (vn - (9 : Int))).toNat).drop (IntKind.wrap .i64 (vn - (10 : Int))).toNat).length ≤ 9223372036854775807)) then (some (([49] : List UInt8) ++ ((([48, 49, 50, 51, 52, 53, 54, 55, 56, 57] : List UInt8).take (IntKind.wrap .i64 (vn - (9 : Int))).toNat).drop (IntKind.wrap .i64 (vn - (10 : Int))).toNat))) else none) else none) else (bif subB (([48, 49, 50, 51, 52, 53, 54, 55, 56, 57] : List UInt8).length) (some vn) (some (IntKind.wrap .i64 (vn + (1 : Int)))) then (some ((([48, 49, 50, 51, 52, 53, 54, 55, 56, 57] : List UInt8).take (IntKind.wrap .i64 (vn + (1 : Int))).toNat).drop vn.toNat)) else none))
theorem F13_ok (n : Nat) (vn : Int) (r : List UInt8) (h : F13 n vn = some r) : PureC Tryd.prog 13 [(.int .i64 vn)] (.str r) [] := by
 refine PureC.mkS Tryd.func13 rfl rfl ?_;intro w0 fz0 hfz;rw [F13] at h;refine TS.sq [] (tn 1) (by kernel_rfl) ?_;refine TS.seq (TS.sq [] (tn 2) (by kernel_rfl) ?_);rcases bif_some h with ⟨c1, h⟩ | ⟨c2, h⟩
 ·refine TS.ct c1 (by kernel_rfl) ?_;refine TS.seq ?_;obtain ⟨t3, h⟩ := test_some h;obtain ⟨t4, h⟩ := test_some h;refine TS.rg [] (an 4 (ai (subB_ok t3) (ai (of_decide_eq_true t4) (tn 1)))) (by kernel_rfl) ?_;refine XS.then (TS.ret (XS.passR ?_));cases h;exact XS.fn [] (tn 1) (by kernel_rfl)
 refine TS.cf c2 (by kernel_rfl) ?_;refine TS.skip (XS.then (TS.seq ?_));obtain ⟨t5, h⟩ := test_some h;refine TS.rg [] (an 3 (ai (subB_ok t5) (tn 1))) (by kernel_rfl) ?_;refine XS.then (TS.ret ?_);cases h;exact XS.fn [] (tn 1) (by kernel_rfl)

/-! plugtree/plugref.PathText -/
def F5_l2 (n : Nat) (path : List Int) (k5_2 : (Int × (List (List UInt8))) → Option ((List UInt8) × Int)) : (Int × (List (List UInt8))) → Option ((List UInt8) × Int)
 | (x, m0) => (bif (decide (x < ((path.length : Nat) : Int))) then (bif inb x path.length then ((F13 n (path.getD x.toNat (0 : Int))).bind fun y_4 => (bif (decide (m0.length + [y_4].length ≤ 8796093022208)) then (k5_2 ((IntKind.wrap .i64 (x + (1 : Int))), (m0 ++ [y_4]))) else none)) else none) else ((F11 n m0 ([46] : List UInt8)).bind fun y_5 => (some (y_5, (0 : Int)))))
def F5 (n : Nat) (path : List Int) : Option ((List UInt8) × Int) := ((F12 n path).bind fun y_3 => (bif (y_3 != (0 : Int)) then (some (([] : List UInt8), y_3)) else (loopF (F5_l2 n path) n ((0 : Int), ([] : List (List UInt8))))))
theorem F5_ok (n : Nat) (path : List Int) (r : (List UInt8) × Int) (h : F5 n path = some r) : PureC Tryd.prog 5 [(.sl (.int .i64) path)] (.tup (.cons (.str r.1) (.cons (.int .i64 r.2) .nil))) [] := by
 refine PureC.mkS Tryd.func5 rfl rfl ?_;intro w0 fz0 hfz;rw [F5] at h;refine TS.sq [] (tn 2) (by kernel_rfl) ?_;refine TS.seq (TS.seq ?_);obtain ⟨y_3, hx1, h⟩ := bind_some' h;refine TS.rg [.none, (.call (.int .i64 y_3) [])] (ai tv (ai (F12_ok n path y_3 hx1) (tn 1))) (by kernel_rfl) ?_;refine XS.then (TS.sq [] (tn 2) (by kernel_rfl) ?_);rcases bif_some h with ⟨c2, h⟩ | ⟨c3, h⟩
 ·refine TS.ct c2 (by kernel_rfl) ?_;refine TS.sq [] (tn 3) (by kernel_rfl) ?_;refine TS.ret (XS.passR ?_);cases h;exact XS.fn [] (tn 2) (by kernel_rfl)
 refine TS.cf c3 (by kernel_rfl) ?_;refine TS.skip (XS.then (TS.sq [] (tn 1) (by kernel_rfl) ?_));refine TS.seq (TS.sq [] (tn 3) (by kernel_rfl) ?_);refine TS.block (TS.wk (.row false 5 [] 9 .str) ?_);refine TS.lp (F := F5_l2 n path) [0] (mkMask 27 [5, 13, 14, 15]) (fun (x, m0) => (mkTs 27 [(5, (.row 0)), (13, (.sl (.int .i64) path)), (14, (.int .i64 ((path.length : Nat) : Int))), (15, (.int .i64 x))], [(.row 9 .str m0)])) h (by kernel_rfl) ?_;rintro n2 ⟨x, m0⟩ h;rw [F5_l2] at h;refine TS.sq [] (tn 1) (by kernel_rfl) ?_;refine TS.seq ?_;rcases bif_some h with ⟨c4, h⟩ | ⟨c5, h⟩
 ·refine TS.ct c4 (by kernel_rfl) ?_;refine TS.skip (XS.then (TS.seq (TS.block (TS.seq ?_))));obtain ⟨t6, h⟩ := test_some h;refine TS.rg [] (ai (inb_ok t6) (tn 2)) (by kernel_rfl) ?_;refine XS.then ?_;obtain ⟨y_4, hx7, h⟩ := bind_some' h;obtain ⟨t8, h⟩ := test_some h;refine TS.rg (C := (True) ∧ ((True) ∧ ((PureC Tryd.prog 13 [(.int .i64 (path.getD x.toNat (0 : Int)))] (.str y_4) []) ∧ (((0 < 1 ∧ True) ∧ (True)) ∧ ((m0.length + [y_4].length ≤ 8796093022208) ∧ ((True) ∧ (True))))))) [.none, .none, (.call (.str y_4) [])] ⟨trivial, ⟨trivial, ⟨F13_ok n (path.getD x.toNat (0 : Int)) y_4 hx7, ⟨⟨⟨by decide, trivial⟩, trivial⟩, ⟨of_decide_eq_true t8, ⟨trivial, trivial⟩⟩⟩⟩⟩⟩ (by kernel_rfl) ?_;refine XS.blockEnd (XS.then (TS.rg [] (tn 2) (by kernel_rfl) ?_));exact XS.ra [2] (mkMask 27 [5, 13, 14, 15]) h (by kernel_rfl)
 refine TS.cf c5 (by kernel_rfl) ?_;refine TS.exit (XS.passE (XS.passE (XS.out (XS.then (TS.seq ?_)))));obtain ⟨y_5, hx9, h⟩ := bind_some' h;refine TS.rg [.none, (.call (.str y_5) [])] (ai tv (ai (ai (tn 2) (F11_ok n m0 ([46] : List UInt8) y_5 hx9)) (tn 2))) (by kernel_rfl) ?_;refine XS.then (TS.ret ?_);cases h;exact XS.fn [] (tn 2) (by kernel_rfl)

/-! plugtree/route.Read -/
def F6 (n : Nat) (s : List UInt8) : Option ((List Int) × Int) := bif decide (s.length ≤ 1099511627776 ∧ readC n s = true) then some (readV n s) else none
theorem F6_ok (n : Nat) (s : List UInt8) (r : ((List Int) × Int)) (h : F6 n s = some r) : PureC Tryd.prog 6 [(.str s)] (.tup (.cons (.row 0) (.cons (.int .i64 r.2) .nil))) [(.row 3 (.int .i64) r.1)] := by
  unfold F6 at h
  obtain ⟨c, h⟩ := test_some h
  obtain rfl := Option.some.inj h
  exact read_ok n s (of_decide_eq_true c)

/-! strings.Split -/
def F16 (n : Nat) (s : List UInt8) (sep : List UInt8) : Option (List (List UInt8)) := bif decide (s.length < 4294967281 ∧ 1 ≤ sep.length) then some (Lib.split s sep) else none
theorem F16_ok (n : Nat) (s : List UInt8) (sep : List UInt8) (r : (List (List UInt8))) (h : F16 n s sep = some r) : PureC Tryd.prog 16 [(.str s), (.str sep)] (.row 0) [(.row 9 .str r)] := by
  unfold F16 at h
  obtain ⟨c, h⟩ := test_some h
  obtain rfl := Option.some.inj h
  exact PureC.split 9 rfl s sep (of_decide_eq_true c) Tryd.strings_Split

/-! plugtree/plugref.TextPath -/
def F7_l8 (n : Nat) (k7_7 : (Int × (List Int)) → Option (Int × (List Int))) (y_3 : List (List UInt8)) (x : Int) (k7_8 : (Int × (List Int)) → Option (Int × (List Int))) : (Int × (List Int)) → Option (Int × (List Int))
 | (vn, m0_2) => (bif (decide (vn ≤ (15 : Int))) then ((F13 n vn).bind fun y_4 => (bif (y_4 == (y_3.getD x.toNat ([] : List UInt8))) then (bif (decide (m0_2.length + [vn].length ≤ 17592186044416)) then (k7_8 ((IntKind.wrap .i64 (vn + (1 : Int))), (m0_2 ++ [vn]))) else none) else (k7_8 ((IntKind.wrap .i64 (vn + (1 : Int))), m0_2)))) else (k7_7 ((IntKind.wrap .i64 (x + (1 : Int))), m0_2)))
def F7_l7 (n : Nat) (s : List UInt8) (y_3 : List (List UInt8)) (k7_7 : (Int × (List Int)) → Option (Int × (List Int))) : (Int × (List Int)) → Option (Int × (List Int))
 | (x, m0) => (bif (decide (x < ((y_3.length : Nat) : Int))) then (bif inb x y_3.length then (loopF (F7_l8 n k7_7 y_3 x) n ((1 : Int), m0)) else none) else ((F5 n m0).bind fun y_5 => (bif (y_5.2 != (0 : Int)) then (some ((4 : Int), ([] : List Int))) else (bif (!(y_5.1 == s)) then (some ((4 : Int), ([] : List Int))) else (some ((0 : Int), m0))))))
def F7 (n : Nat) (s : List UInt8) : Option (Int × (List Int)) := (bif (decide (((s.length : Nat) : Int) > (20 : Int))) then (some ((4 : Int), ([] : List Int))) else ((F16 n s ([46] : List UInt8)).bind fun y_3 => (loopF (F7_l7 n s y_3) n ((0 : Int), ([] : List Int)))))
theorem F7_ok (n : Nat) (s : List UInt8) (r : Int × (List Int)) (h : F7 n s = some r) : PureC Tryd.prog 7 [(.str s)] (.tup (.cons (.row 0) (.cons (.int .i64 r.1) .nil))) [(.row 3 (.int .i64) r.2)] := by
 refine PureC.mkS Tryd.func7 rfl rfl ?_;intro w0 fz0 hfz;rw [F7] at h;refine TS.sq [] (tn 2) (by kernel_rfl) ?_;refine TS.seq (TS.sq [] (tn 3) (by kernel_rfl) ?_);rcases bif_some h with ⟨c1, h⟩ | ⟨c2, h⟩
 ·refine TS.ct c1 (by kernel_rfl) ?_;refine TS.sq [] (tn 2) (by kernel_rfl) ?_;refine TS.ret (XS.passR ?_);cases h;refine XS.wk (.row false 2 [] 3 (.int .i64)) ?_;exact XS.fn [0] (tn 2) (by kernel_rfl)
 refine TS.cf c2 (by kernel_rfl) ?_;refine TS.skip (XS.then (TS.sq [] (tn 1) (by kernel_rfl) ?_));refine TS.seq (TS.seq ?_);obtain ⟨y_3, hx3, h⟩ := bind_some' h;refine TS.rg [.none, (.call (.row 0) [(.row 9 .str y_3)])] (ai tv (ai (F16_ok n s ([46] : List UInt8) y_3 hx3) (tn 2))) (by kernel_rfl) ?_;refine XS.then (TS.block (TS.wk (.row false 4 [] 3 (.int .i64)) ?_));refine TS.lp (F := F7_l7 n s y_3) [1, 0] (mkMask 46 [0, 4, 14, 15, 16]) (fun (x, m0) => (mkTs 46 [(0, (.str s)), (4, (.row 0)), (14, (.row 1)), (15, (.int .i64 ((y_3.length : Nat) : Int))), (16, (.int .i64 x))], [(.row 3 (.int .i64) m0), (.row 9 .str y_3)])) h (by kernel_rfl) ?_;rintro n7 ⟨x, m0⟩ h;rw [F7_l7] at h;refine TS.sq [] (tn 1) (by kernel_rfl) ?_;refine TS.seq ?_;rcases bif_some h with ⟨c4, h⟩ | ⟨c5, h⟩
 ·refine TS.ct c4 (by kernel_rfl) ?_;refine TS.skip (XS.then (TS.seq (TS.block (TS.seq ?_))));obtain ⟨t6, h⟩ := test_some h;refine TS.rg [] (ai (inb_ok t6) (ai (ai (inR_lt (inb_ok t6)) tv) (tn 1))) (by kernel_rfl) ?_;refine XS.then (TS.sq [] (tn 1) (by kernel_rfl) ?_);refine TS.block (TS.lp (F := F7_l8 n (loopF (F7_l7 n s y_3) n7) y_3 x) [0, 1] (mkMask 46 [0, 4, 6, 7, 14, 15, 16]) (fun (vn, m0_2) => (mkTs 46 [(0, (.str s)), (4, (.row 0)), (6, (.str (y_3.getD x.toNat ([] : List UInt8)))), (7, (.int .i64 vn)), (14, (.row 1)), (15, (.int .i64 ((y_3.length : Nat) : Int))), (16, (.int .i64 x))], [(.row 3 (.int .i64) m0_2), (.row 9 .str y_3)])) h (by kernel_rfl) ?_);rintro n8 ⟨vn, m0_2⟩ h;rw [F7_l8] at h;refine TS.seq (TS.sq [] (tn 2) (by kernel_rfl) ?_);rcases bif_some h with ⟨c7, h⟩ | ⟨c8, h⟩
  ·refine TS.ct c7 (by kernel_rfl) ?_;refine TS.skip (XS.then (TS.seq (TS.block (TS.seq ?_))));obtain ⟨y_4, hx9, h⟩ := bind_some' h;refine TS.rg [.none, (.call (.str y_4) [])] (ai tv (ai (F13_ok n vn y_4 hx9) (tn 2))) (by kernel_rfl) ?_;refine XS.then ?_;rcases bif_some h with ⟨c10, h⟩ | ⟨c11, h⟩
   ·refine TS.ct c10 (by kernel_rfl) ?_;obtain ⟨t12, h⟩ := test_some h;refine TS.rg (C := (True) ∧ ((True) ∧ (((0 < 1 ∧ True) ∧ (True)) ∧ ((m0_2.length + [vn].length ≤ 17592186044416) ∧ ((True) ∧ (True)))))) [] ⟨trivial, ⟨trivial, ⟨⟨⟨by decide, trivial⟩, trivial⟩, ⟨of_decide_eq_true t12, ⟨trivial, trivial⟩⟩⟩⟩⟩ (by kernel_rfl) ?_;refine XS.blockEnd (XS.then (TS.rg [] (tn 3) (by kernel_rfl) ?_));exact XS.ra [3, 1] (mkMask 46 [0, 4, 6, 7, 14, 15, 16]) h (by kernel_rfl)
   refine TS.cf c11 (by kernel_rfl) ?_;refine TS.skip (XS.blockEnd (XS.then (TS.rg [] (tn 3) (by kernel_rfl) ?_)));exact XS.ra [0, 1] (mkMask 46 [0, 4, 6, 7, 14, 15, 16]) h (by kernel_rfl)
  refine TS.cf c8 (by kernel_rfl) ?_;refine TS.exit (XS.passE (XS.passE (XS.out (XS.blockEnd (XS.then (TS.rg [] (tn 2) (by kernel_rfl) ?_))))));exact XS.ra [0, 1] (mkMask 46 [0, 4, 14, 15, 16]) h (by kernel_rfl)
 refine TS.cf c5 (by kernel_rfl) ?_;refine TS.exit (XS.passE (XS.passE (XS.out (XS.then (TS.seq (TS.seq ?_))))));obtain ⟨y_5, hx13, h⟩ := bind_some' h;refine TS.rg [.none, (.call (.tup (.cons (.str y_5.1) (.cons (.int .i64 y_5.2) .nil))) [])] (ai tv (ai (ai (tn 1) (F5_ok n m0 y_5 hx13)) (tn 5))) (by kernel_rfl) ?_;refine XS.then (TS.seq ?_);rcases bif_some h with ⟨c14, h⟩ | ⟨c15, h⟩
 ·refine TS.rg [.none, .none, .dec true] (an 2 (ai (ai tv c14) (tn 1))) (by kernel_rfl) ?_;refine XS.then (TS.yes (by kernel_rfl) ?_);refine TS.sq [] (tn 2) (by kernel_rfl) ?_;refine TS.ret (XS.passR ?_);cases h;refine XS.wk (.row false 2 [] 3 (.int .i64)) ?_;exact XS.fn [2] (tn 2) (by kernel_rfl)
 refine TS.rg [.none, .none, .dec false] (an 2 (ai (ai tv c15) (tn 4))) (by kernel_rfl) ?_;refine XS.then ?_;rcases bif_some h with ⟨c16, h⟩ | ⟨c17, h⟩
 ·refine TS.ct c16 (by kernel_rfl) ?_;refine TS.sq [] (tn 2) (by kernel_rfl) ?_;refine TS.ret (XS.passR ?_);cases h;refine XS.wk (.row false 2 [] 3 (.int .i64)) ?_;exact XS.fn [2] (tn 2) (by kernel_rfl)
 refine TS.cf c17 (by kernel_rfl) ?_;refine TS.skip (XS.then (TS.sq [] (tn 3) (by kernel_rfl) ?_));refine TS.ret ?_;cases h;exact XS.fn [0] (tn 2) (by kernel_rfl)

/-! slices.Equal[[]int,int] -/
def F8_l2 (n : Nat) (s1 : List Int) (s2 : List Int) (k8_2 : Int → Option Bool) : Int → Option Bool
 | x => (bif (decide (x < ((s1.length : Nat) : Int))) then (bif inb x s1.length then (bif inb x s2.length then (bif ((s1.getD x.toNat (0 : Int)) != (s2.getD x.toNat (0 : Int))) then (some false) else (k8_2 (IntKind.wrap .i64 (x + (1 : Int))))) else none) else none) else (some true))
def F8 (n : Nat) (s1 : List Int) (s2 : List Int) : Option Bool := (bif (((s1.length : Nat) : Int) != ((s2.length : Nat) : Int)) then (some false) else (loopF (F8_l2 n s1 s2) n (0 : Int)))
theorem F8_ok (n : Nat) (s1 : List Int) (s2 : List Int) (r : Bool) (h : F8 n s1 s2 = some r) : PureC Tryd.prog 8 [(.sl (.int .i64) s1), (.sl (.int .i64) s2)] (.bool r) [] := by
 refine PureC.mkS Tryd.func8 rfl rfl ?_;intro w0 fz0 hfz;rw [F8] at h;refine TS.sq [] (tn 1) (by kernel_rfl) ?_;refine TS.seq (TS.sq [] (tn 5) (by kernel_rfl) ?_);rcases bif_some h with ⟨c1, h⟩ | ⟨c2, h⟩
 ·refine TS.ct c1 (by kernel_rfl) ?_;refine TS.sq [] (tn 1) (by kernel_rfl) ?_;refine TS.ret (XS.passR ?_);cases h;exact XS.fn [] (tn 1) (by kernel_rfl)
 refine TS.cf c2 (by kernel_rfl) ?_;refine TS.skip (XS.then (TS.seq (TS.sq [] (tn 3) (by kernel_rfl) ?_)));refine TS.block (TS.lp (F := F8_l2 n s1 s2) [] (mkMask 26 [0, 1, 12, 13]) (fun x => (mkTs 26 [(0, (.sl (.int .i64) s1)), (1, (.sl (.int .i64) s2)), (12, (.int .i64 ((s1.length : Nat) : Int))), (13, (.int .i64 x))], [])) h (by kernel_rfl) ?_);rintro n2 x h;rw [F8_l2] at h;refine TS.sq [] (tn 1) (by kernel_rfl) ?_;refine TS.seq ?_;rcases bif_some h with ⟨c3, h⟩ | ⟨c4, h⟩
 ·refine TS.ct c3 (by kernel_rfl) ?_;refine TS.skip (XS.then (TS.seq (TS.block (TS.sq [] (tn 2) (by kernel_rfl) ?_))));refine TS.seq ?_;obtain ⟨t5, h⟩ := test_some h;obtain ⟨t6, h⟩ := test_some h;refine TS.dw 9 [] [] (by kernel_rfl) (ai (an 2 (ai (inb_ok t5) (an 3 (ai (inb_ok t6) (tn 2))))) tv) (by kernel_rfl) ?_;refine XS.then ?_;rcases bif_some h with ⟨c7, h⟩ | ⟨c8, h⟩
  ·refine TS.ct c7 (by kernel_rfl) ?_;refine TS.sq [] (tn 1) (by kernel_rfl) ?_;refine TS.ret (XS.blockRet (XS.passR (XS.passR (XS.blockRet (XS.passR ?_)))));cases h;exact XS.fn [] (tn 1) (by kernel_rfl)
  refine TS.cf c8 (by kernel_rfl) ?_;refine TS.skip (XS.blockEnd (XS.then (TS.rg [] (tn 2) (by kernel_rfl) ?_)));exact XS.ra [] (mkMask 26 [0, 1, 12, 13]) h (by kernel_rfl)
 refine TS.cf c4 (by kernel_rfl) ?_;refine TS.exit (XS.passE (XS.passE (XS.out (XS.then (TS.sq [] (tn 1) (by kernel_rfl) ?_)))));refine TS.ret ?_;cases h;exact XS.fn [] (tn 1) (by kernel_rfl)

/-! plugtree/pluglaw.RouteShows -/
def F3 (n : Nat) (path : List Int) (s : List UInt8) : Option Bool := ((F4 n path).bind fun y_2 => ((F5 n path).bind fun y_3 => ((F6 n s).bind fun y_4 => ((F7 n s).bind fun y_5 => (bif (y_2.1 == y_3.1) then (bif (y_2.2 == y_3.2) then ((F8 n y_4.1 y_5.2).bind fun y_6 => (bif y_6 then (some (y_4.2 == y_5.1)) else (some false))) else (some false)) else (some false))))))
theorem F3_ok (n : Nat) (path : List Int) (s : List UInt8) (r : Bool) (h : F3 n path s = some r) : PureC Tryd.prog 3 [(.sl (.int .i64) path), (.str s)] (.bool r) [] := by
 refine PureC.mkS Tryd.func3 rfl rfl ?_;intro w0 fz0 hfz;rw [F3] at h;refine TS.sq [] (tn 1) (by kernel_rfl) ?_;refine TS.seq ?_;obtain ⟨y_2, hx1, h⟩ := bind_some' h;refine TS.rg [.none, (.call (.tup (.cons (.str y_2.1) (.cons (.int .i64 y_2.2) .nil))) [])] (ai tv (ai (F4_ok n path y_2 hx1) (tn 5))) (by kernel_rfl) ?_;refine XS.then (TS.seq ?_);obtain ⟨y_3, hx2, h⟩ := bind_some' h;refine TS.rg [.none, (.call (.tup (.cons (.str y_3.1) (.cons (.int .i64 y_3.2) .nil))) [])] (ai tv (ai (F5_ok n path y_3 hx2) (tn 5))) (by kernel_rfl) ?_;refine XS.then (TS.seq ?_);obtain ⟨y_4, hx3, h⟩ := bind_some' h;refine TS.rg [.none, (.call (.tup (.cons (.row 0) (.cons (.int .i64 y_4.2) .nil))) [(.row 3 (.int .i64) y_4.1)])] (ai tv (ai (F6_ok n s y_4 hx3) (tn 5))) (by kernel_rfl) ?_;refine XS.then (TS.seq ?_);obtain ⟨y_5, hx4, h⟩ := bind_some' h
 refine TS.rg [.none, (.call (.tup (.cons (.row 0) (.cons (.int .i64 y_5.1) .nil))) [(.row 3 (.int .i64) y_5.2)])] (ai tv (ai (F7_ok n s y_5 hx4) (tn 5))) (by kernel_rfl) ?_;refine XS.then (TS.seq ?_);rcases bif_some h with ⟨c5, h⟩ | ⟨c6, h⟩
 ·rcases bif_some h with ⟨c7, h⟩ | ⟨c8, h⟩
  ·obtain ⟨y_6, hx9, h⟩ := bind_some' h;rcases bif_some h with ⟨c10, h⟩ | ⟨c11, h⟩
   ·refine TS.rg [.none, .none, .none, .dec true, .none, .none, .none, .none, .dec true, .none, .none, (.call (.bool y_6) []), .none, .dec true] (an 3 (ai (ai tv c5) (an 4 (ai (ai tv c7) (an 2 (ai (ai (tn 2) (F8_ok n y_4.1 y_5.2 y_6 hx9)) (ai tv (ai (ai tv c10) (tn 5))))))))) (by kernel_rfl) ?_;refine XS.then (TS.ret ?_);cases h;exact XS.fn [] (tn 1) (by kernel_rfl)
   refine TS.rg [.none, .none, .none, .dec true, .none, .none, .none, .none, .dec true, .none, .none, (.call (.bool y_6) []), .none, .dec false] (an 3 (ai (ai tv c5) (an 4 (ai (ai tv c7) (an 2 (ai (ai (tn 2) (F8_ok n y_4.1 y_5.2 y_6 hx9)) (ai tv (ai (ai tv c11) (tn 2))))))))) (by kernel_rfl) ?_;refine XS.then (TS.ret ?_);cases h;exact XS.fn [] (tn 1) (by kernel_rfl)
  refine TS.rg [.none, .none, .none, .dec true, .none, .none, .none, .none, .dec false] (an 3 (ai (ai tv c5) (an 4 (ai (ai tv c8) (tn 4))))) (by kernel_rfl) ?_;refine XS.then (TS.ret ?_);cases h;exact XS.fn [] (tn 1) (by kernel_rfl)
 refine TS.rg [.none, .none, .none, .dec false] (an 3 (ai (ai tv c6) (tn 6))) (by kernel_rfl) ?_;refine XS.then (TS.ret ?_);cases h;exact XS.fn [] (tn 1) (by kernel_rfl)
end Go.Proofs.YtgjklpadcmedkaaDoor
