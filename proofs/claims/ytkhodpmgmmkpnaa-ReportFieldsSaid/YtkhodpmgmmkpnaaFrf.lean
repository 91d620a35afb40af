/- Functions of the program, as functions of values. -/
import Derived.Test.YtkhodpmgmmkpnaaAm27
import Derived.Test.YtkhodpmgmmkpnaaChecked
namespace Go.Proofs.Ytkhodpmgmmkpnaa
open Go Go.RowKit
set_option linter.unusedVariables false
set_option maxRecDepth 100000

/-! plugtree/report.Fields -/
def F6_j223 (n : Nat) (k6_203 : (Int × Int × Int × Int × Int × Int × Int × Int × (List (Int × Int × Int × Int × Int)) × (List Int) × (List (Int × Int × Int × Int × Int × Int × Bool))) → Option (Int × (List (Int × Int × Int × Int × Int × Int × Bool)))) (x : Int) : (Int × Int × Int × Int × Int × Int × Int × Int × (List (Int × Int × Int × Int × Int)) × (List Int) × (List (Int × Int × Int × Int × Int × Int × Bool))) → Option (Int × (List (Int × Int × Int × Int × Int × Int × Bool)))
 | (x_2, m0_8, m0_9, m0_10, m0_11, m0_12, m0_13, m0_14, m1_2, m2_2, m3_2) => (bif (x_2 != (0 : Int)) then (some (x_2, ([] : List (Int × Int × Int × Int × Int × Int × Bool)))) else (k6_203 ((IntKind.wrap .i64 (x + (1 : Int))), m0_8, m0_9, m0_10, m0_11, m0_12, m0_13, m0_14, m1_2, m2_2, m3_2)))
def F6_j233 (n : Nat) (k6_203 : (Int × Int × Int × Int × Int × Int × Int × Int × (List (Int × Int × Int × Int × Int)) × (List Int) × (List (Int × Int × Int × Int × Int × Int × Bool))) → Option (Int × (List (Int × Int × Int × Int × Int × Int × Bool)))) (x : Int) (m0 : Int) (m0_2 : Int) (m0_3 : Int) (m0_4 : Int) (m0_5 : Int) (m1 : List (Int × Int × Int × Int × Int)) : (Int × Int × (List (Int × Int × Int × Int × Int × Int × Bool))) → Option (Int × (List (Int × Int × Int × Int × Int × Int × Bool)))
 | (m1_3, m1_4, m4) => (F6_j223 n k6_203 x ((0 : Int), m0, m0_2, m0_3, m0_4, m0_5, m1_3, m1_4, m1, ([] : List Int), m4))
def F6_j238 (n : Nat) (k6_203 : (Int × Int × Int × Int × Int × Int × Int × Int × (List (Int × Int × Int × Int × Int)) × (List Int) × (List (Int × Int × Int × Int × Int × Int × Bool))) → Option (Int × (List (Int × Int × Int × Int × Int × Int × Bool)))) (x : Int) (m0 : Int) (m0_2 : Int) (m0_3 : Int) (m0_4 : Int) (m0_5 : Int) (m0_6 : Int) (m1 : List (Int × Int × Int × Int × Int)) (m2 : List Int) : (Int × Int × (List (Int × Int × Int × Int × Int × Int × Bool))) → Option (Int × (List (Int × Int × Int × Int × Int × Int × Bool)))
 | (x_3, m1_5, m4_2) => (bif (x_3 != (0 : Int)) then (F6_j223 n k6_203 x (x_3, m0, m0_2, m0_3, m0_4, m0_5, m0_6, m1_5, m1, m2, m4_2)) else (F6_j233 n k6_203 x m0 m0_2 m0_3 m0_4 m0_5 m1 (m0_6, m1_5, m4_2)))
def F6_j242 (n : Nat) (k6_241 : (Int × Int × (List (Int × Int × Int × Int × Int × Int × Bool))) → Option (Int × (List (Int × Int × Int × Int × Int × Int × Bool)))) (l : List (Int × Int)) (x : Int) (m0 : Int) (m0_2 : Int) (m0_3 : Int) (m0_4 : Int) (x_4 : Int) (m2_3 : Int) (m5 : List (Int × Int × Int × Int × Int × Int × Bool)) : Int → Option (Int × (List (Int × Int × Int × Int × Int × Int × Bool)))
 | x_5 => (bif (decide (m5.length + [(m2_3, (m0_4, (m0, (x_5, (m0_2, (m0_3, ((bitsI .and .i64 ((l.getD x.toNat ((0 : Int), (0 : Int))).2) (1 : Int)) == (1 : Int))))))))].length ≤ 2513169434916)) then (k6_241 ((IntKind.wrap .i64 (x_4 + (1 : Int))), (IntKind.wrap .i64 (m2_3 + m0_4)), (m5 ++ [(m2_3, (m0_4, (m0, (x_5, (m0_2, (m0_3, ((bitsI .and .i64 ((l.getD x.toNat ((0 : Int), (0 : Int))).2) (1 : Int)) == (1 : Int))))))))]))) else none)
def F6_l241 (n : Nat) (k6_203 : (Int × Int × Int × Int × Int × Int × Int × Int × (List (Int × Int × Int × Int × Int)) × (List Int) × (List (Int × Int × Int × Int × Int × Int × Bool))) → Option (Int × (List (Int × Int × Int × Int × Int × Int × Bool)))) (l : List (Int × Int)) (x : Int) (m0 : Int) (m0_2 : Int) (m0_3 : Int) (m0_4 : Int) (m0_5 : Int) (m0_6 : Int) (m1 : List (Int × Int × Int × Int × Int)) (m2 : List Int) (k6_241 : (Int × Int × (List (Int × Int × Int × Int × Int × Int × Bool))) → Option (Int × (List (Int × Int × Int × Int × Int × Int × Bool)))) : (Int × Int × (List (Int × Int × Int × Int × Int × Int × Bool))) → Option (Int × (List (Int × Int × Int × Int × Int × Int × Bool)))
 | (x_4, m2_3, m5) => (bif (decide (x_4 < m0_5)) then (bif (decide (((m2.length : Nat) : Int) > (0 : Int))) then (bif inb (if (IntKind.wrap .i64 (((m2.length : Nat) : Int) - (1 : Int))) < x_4 then (IntKind.wrap .i64 (((m2.length : Nat) : Int) - (1 : Int))) else x_4) m2.length then (F6_j242 n k6_241 l x m0 m0_2 m0_3 m0_4 x_4 m2_3 m5 (m2.getD ((if (IntKind.wrap .i64 (((m2.length : Nat) : Int) - (1 : Int))) < x_4 then (IntKind.wrap .i64 (((m2.length : Nat) : Int) - (1 : Int))) else x_4).toNat) (0 : Int))) else none) else (F6_j242 n k6_241 l x m0 m0_2 m0_3 m0_4 x_4 m2_3 m5 (0 : Int))) else (F6_j238 n k6_203 x m0 m0_2 m0_3 m0_4 m0_5 m0_6 m1 m2 ((0 : Int), m2_3, m5)))
def F6_l203 (n : Nat) (l : List (Int × Int)) (k6_203 : (Int × Int × Int × Int × Int × Int × Int × Int × (List (Int × Int × Int × Int × Int)) × (List Int) × (List (Int × Int × Int × Int × Int × Int × Bool))) → Option (Int × (List (Int × Int × Int × Int × Int × Int × Bool)))) : (Int × Int × Int × Int × Int × Int × Int × Int × (List (Int × Int × Int × Int × Int)) × (List Int) × (List (Int × Int × Int × Int × Int × Int × Bool))) → Option (Int × (List (Int × Int × Int × Int × Int × Int × Bool)))
 | (x, m0, m0_2, m0_3, m0_4, m0_5, m0_6, m0_7, m1, m2, m3) => (bif (decide (x < ((l.length : Nat) : Int))) then (bif inb x l.length then (bif ((l.getD x.toNat ((0 : Int), (0 : Int))).1 == (2 : Int)) then (bif (((m2.length : Nat) : Int) == (256 : Int)) then (F6_j223 n k6_203 x ((2 : Int), m0, m0_2, m0_3, m0_4, m0_5, m0_6, m0_7, m1, m2, m3)) else (bif (decide (m2.length + [(l.getD x.toNat ((0 : Int), (0 : Int))).2].length ≤ 17592186044416)) then (F6_j223 n k6_203 x ((0 : Int), m0, m0_2, m0_3, m0_4, m0_5, m0_6, m0_7, m1, (m2 ++ [(l.getD x.toNat ((0 : Int), (0 : Int))).2]), m3)) else none)) else (bif ((l.getD x.toNat ((0 : Int), (0 : Int))).1 == (40 : Int)) then (bif (m0_6 == (8 : Int)) then (F6_j223 n k6_203 x ((11 : Int), m0, m0_2, m0_3, m0_4, m0_5, m0_6, m0_7, m1, m2, m3)) else (F6_j233 n k6_203 x m0 m0_2 m0_3 m0_4 m0_5 m1 ((IntKind.wrap .i64 (m0_6 + (1 : Int))), m0_7, m3))) else (bif ((l.getD x.toNat ((0 : Int), (0 : Int))).1 == (48 : Int)) then (bif (m0_6 == (0 : Int)) then (F6_j223 n k6_203 x ((12 : Int), m0, m0_2, m0_3, m0_4, m0_5, m0_6, m0_7, m1, m2, m3)) else (F6_j233 n k6_203 x m0 m0_2 m0_3 m0_4 m0_5 m1 ((IntKind.wrap .i64 (m0_6 - (1 : Int))), m0_7, m3))) else (bif ((l.getD x.toNat ((0 : Int), (0 : Int))).1 == (32 : Int)) then (bif (m0_4 == (0 : Int)) then (F6_j238 n k6_203 x m0 m0_2 m0_3 m0_4 m0_5 m0_6 m1 m2 ((1 : Int), m0_7, m3)) else (bif (decide (m0_2 > m0_3)) then (F6_j238 n k6_203 x m0 m0_2 m0_3 m0_4 m0_5 m0_6 m1 m2 ((1 : Int), m0_7, m3)) else (bif (decide ((IntKind.wrap .i64 (((m3.length : Nat) : Int) + m0_5)) > (256 : Int))) then (F6_j238 n k6_203 x m0 m0_2 m0_3 m0_4 m0_5 m0_6 m1 m2 ((2 : Int), m0_7, m3)) else (bif (decide ((IntKind.wrap .i64 (m0_7 + (IntKind.wrap .i64 (m0_5 * m0_4)))) > (512 : Int))) then (F6_j238 n k6_203 x m0 m0_2 m0_3 m0_4 m0_5 m0_6 m1 m2 ((2 : Int), m0_7, m3)) else (loopF (F6_l241 n k6_203 l x m0 m0_2 m0_3 m0_4 m0_5 m0_6 m1 m2) n ((0 : Int), m0_7, m3)))))) else (bif ((l.getD x.toNat ((0 : Int), (0 : Int))).1 == (1 : Int)) then (F6_j223 n k6_203 x ((0 : Int), (l.getD x.toNat ((0 : Int), (0 : Int))).2, m0_2, m0_3, m0_4, m0_5, m0_6, m0_7, m1, m2, m3)) else (bif ((l.getD x.toNat ((0 : Int), (0 : Int))).1 == (5 : Int)) then (F6_j223 n k6_203 x ((0 : Int), m0, (l.getD x.toNat ((0 : Int), (0 : Int))).2, m0_3, m0_4, m0_5, m0_6, m0_7, m1, m2, m3)) else (bif ((l.getD x.toNat ((0 : Int), (0 : Int))).1 == (9 : Int)) then (F6_j223 n k6_203 x ((0 : Int), m0, m0_2, (l.getD x.toNat ((0 : Int), (0 : Int))).2, m0_4, m0_5, m0_6, m0_7, m1, m2, m3)) else (bif ((l.getD x.toNat ((0 : Int), (0 : Int))).1 == (29 : Int)) then (bif (decide ((l.getD x.toNat ((0 : Int), (0 : Int))).2 < (1 : Int))) then (F6_j223 n k6_203 x ((1 : Int), m0, m0_2, m0_3, m0_4, m0_5, m0_6, m0_7, m1, m2, m3)) else (bif (decide ((l.getD x.toNat ((0 : Int), (0 : Int))).2 > (32 : Int))) then (F6_j223 n k6_203 x ((1 : Int), m0, m0_2, m0_3, m0_4, m0_5, m0_6, m0_7, m1, m2, m3)) else (F6_j223 n k6_203 x ((0 : Int), m0, m0_2, m0_3, (l.getD x.toNat ((0 : Int), (0 : Int))).2, m0_5, m0_6, m0_7, m1, m2, m3)))) else (bif ((l.getD x.toNat ((0 : Int), (0 : Int))).1 == (37 : Int)) then (bif (decide ((l.getD x.toNat ((0 : Int), (0 : Int))).2 < (0 : Int))) then (F6_j223 n k6_203 x ((1 : Int), m0, m0_2, m0_3, m0_4, m0_5, m0_6, m0_7, m1, m2, m3)) else (bif (decide ((l.getD x.toNat ((0 : Int), (0 : Int))).2 > (256 : Int))) then (F6_j223 n k6_203 x ((1 : Int), m0, m0_2, m0_3, m0_4, m0_5, m0_6, m0_7, m1, m2, m3)) else (F6_j223 n k6_203 x ((0 : Int), m0, m0_2, m0_3, m0_4, (l.getD x.toNat ((0 : Int), (0 : Int))).2, m0_6, m0_7, m1, m2, m3)))) else (bif ((l.getD x.toNat ((0 : Int), (0 : Int))).1 == (41 : Int)) then (bif (((m1.length : Nat) : Int) == (4 : Int)) then (F6_j223 n k6_203 x ((11 : Int), m0, m0_2, m0_3, m0_4, m0_5, m0_6, m0_7, m1, m2, m3)) else (bif (decide (m1.length + [(m0, (m0_2, (m0_3, (m0_4, m0_5))))].length ≤ 3518437208883)) then (F6_j223 n k6_203 x ((0 : Int), m0, m0_2, m0_3, m0_4, m0_5, m0_6, m0_7, (m1 ++ [(m0, (m0_2, (m0_3, (m0_4, m0_5))))]), m2, m3)) else none)) else (bif ((l.getD x.toNat ((0 : Int), (0 : Int))).1 == (45 : Int)) then (bif (((m1.length : Nat) : Int) == (0 : Int)) then (F6_j223 n k6_203 x ((12 : Int), m0, m0_2, m0_3, m0_4, m0_5, m0_6, m0_7, m1, m2, m3)) else (bif inb (IntKind.wrap .i64 (((m1.length : Nat) : Int) - (1 : Int))) m1.length then (bif subB m1.length none (some (IntKind.wrap .i64 (((m1.length : Nat) : Int) - (1 : Int)))) then (F6_j223 n k6_203 x ((0 : Int), (m1.getD ((IntKind.wrap .i64 (((m1.length : Nat) : Int) - (1 : Int))).toNat) ((0 : Int), ((0 : Int), ((0 : Int), ((0 : Int), (0 : Int)))))).1, (m1.getD ((IntKind.wrap .i64 (((m1.length : Nat) : Int) - (1 : Int))).toNat) ((0 : Int), ((0 : Int), ((0 : Int), ((0 : Int), (0 : Int)))))).2.1, (m1.getD ((IntKind.wrap .i64 (((m1.length : Nat) : Int) - (1 : Int))).toNat) ((0 : Int), ((0 : Int), ((0 : Int), ((0 : Int), (0 : Int)))))).2.2.1, (m1.getD ((IntKind.wrap .i64 (((m1.length : Nat) : Int) - (1 : Int))).toNat) ((0 : Int), ((0 : Int), ((0 : Int), ((0 : Int), (0 : Int)))))).2.2.2.1, (m1.getD ((IntKind.wrap .i64 (((m1.length : Nat) : Int) - (1 : Int))).toNat) ((0 : Int), ((0 : Int), ((0 : Int), ((0 : Int), (0 : Int)))))).2.2.2.2, m0_6, m0_7, (m1.take ((IntKind.wrap .i64 (((m1.length : Nat) : Int) - (1 : Int))).toNat)), m2, m3)) else none) else none)) else (F6_j223 n k6_203 x ((0 : Int), m0, m0_2, m0_3, m0_4, m0_5, m0_6, m0_7, m1, m2, m3))))))))))))) else none) else (bif (m0_6 != (0 : Int)) then (some ((4 : Int), ([] : List (Int × Int × Int × Int × Int × Int × Bool)))) else (some ((0 : Int), m3))))
def F6 (n : Nat) (l : List (Int × Int)) : Option (Int × (List (Int × Int × Int × Int × Int × Int × Bool))) := (bif (decide (((l.length : Nat) : Int) > (200 : Int))) then (some ((2 : Int), ([] : List (Int × Int × Int × Int × Int × Int × Bool)))) else (loopF (F6_l203 n l) n ((0 : Int), (0 : Int), (0 : Int), (0 : Int), (0 : Int), (0 : Int), (0 : Int), (0 : Int), ([] : List (Int × Int × Int × Int × Int)), ([] : List Int), ([] : List (Int × Int × Int × Int × Int × Int × Bool)))))
theorem F6_ok (n : Nat) (l : List (Int × Int)) (r : Int × (List (Int × Int × Int × Int × Int × Int × Bool))) (h : F6 n l = some r) : PureC Try.prog 6 [(.sl (.st (.pair (.int .i64) (.int .i64))) l)] (.tup (.cons (.row 0) (.cons (.int .i64 r.1) .nil))) [(.row 29 (.st (.pair (.int .i64) (.pair (.int .i64) (.pair (.int .i64) (.pair (.int .i64) (.pair (.int .i64) (.pair (.int .i64) .bool))))))) r.2)] := by
 refine PureC.mkS Try.func6 rfl rfl ?_
 intro w0 fz0 hfz
 replace h : (bif (decide (((l.length : Nat) : Int) > (200 : Int))) then (some ((2 : Int), ([] : List (Int × Int × Int × Int × Int × Int × Bool)))) else (loopF (F6_l203 n l) n ((0 : Int), (0 : Int), (0 : Int), (0 : Int), (0 : Int), (0 : Int), (0 : Int), (0 : Int), ([] : List (Int × Int × Int × Int × Int)), ([] : List Int), ([] : List (Int × Int × Int × Int × Int × Int × Bool))))) = some r := h
 refine TS.seq ?_
 have hq := (ai tv (ai tv tv))
 refine TS.reg [] ?_ ?_
 ·apply prop_of ?_ hq
  kernel_rfl
 refine XS.then ?_
 refine TS.seq ?_
 refine TS.seq ?_
 have hq := (ai tv (ai tv (ai tv tv)))
 refine TS.reg [] ?_ ?_
 ·apply prop_of ?_ hq
  kernel_rfl
 refine XS.then ?_
 rcases bif_some h with ⟨c1, h⟩ | ⟨c2, h⟩
 ·refine TS.cond (decide (((l.length : Nat) : Int) > (200 : Int))) ?_ (fun hcz => ?_) (fun hcz => by rw [c1] at hcz; cases hcz)
  ·kernel_rfl
  refine TS.seq ?_
  have hq := (ai tv (ai tv tv))
  refine TS.reg [] ?_ ?_
  ·apply prop_of ?_ hq
   kernel_rfl
  refine XS.then ?_
  refine TS.ret ?_
  refine XS.passR ?_
  obtain rfl : ((2 : Int), ([] : List (Int × Int × Int × Int × Int × Int × Bool))) = r := Option.some.inj h
  refine XS.wk (.row false 2 [] 29 (.st (.pair (.int .i64) (.pair (.int .i64) (.pair (.int .i64) (.pair (.int .i64) (.pair (.int .i64) (.pair (.int .i64) .bool)))))))) ?_
  exact XS.fin [0] ((True) ∧ ((True) ∧ (True))) (by kernel_rfl) ⟨trivial, ⟨trivial, trivial⟩⟩
 ·refine TS.cond (decide (((l.length : Nat) : Int) > (200 : Int))) ?_ (fun hcz => by rw [c2] at hcz; cases hcz) (fun hcz => ?_)
  ·kernel_rfl
  refine TS.skip ?_
  refine XS.then ?_
  refine TS.seq ?_
  have hq := (ai tv (ai tv (ai tv tv)))
  refine TS.reg [] ?_ ?_
  ·apply prop_of ?_ hq
   kernel_rfl
  refine XS.then ?_
  refine TS.seq ?_
  refine TS.seq ?_
  have hq := (ai tv (ai tv (ai tv tv)))
  refine TS.reg [] ?_ ?_
  ·apply prop_of ?_ hq
   kernel_rfl
  refine XS.then ?_
  refine TS.block ?_
  refine TS.wk (.row true 0 [true, false] 49 (.st (.pair (.int .i64) (.pair (.int .i64) (.pair (.int .i64) (.pair (.int .i64) (.int .i64))))))) ?_
  refine TS.wk (.row true 0 [true, true, false] 3 (.int .i64)) ?_
  refine TS.wk (.row true 0 [true, true, true, true, true] 29 (.st (.pair (.int .i64) (.pair (.int .i64) (.pair (.int .i64) (.pair (.int .i64) (.pair (.int .i64) (.pair (.int .i64) .bool)))))))) ?_
  refine TS.reLoop [0, 1, 2, 3] (mkMask 35 [4, 13, 14, 15]) (D := Int × Int × Int × Int × Int × Int × Int × Int × (List (Int × Int × Int × Int × Int)) × (List Int) × (List (Int × Int × Int × Int × Int × Int × Bool))) (fun d => match d with | (x, m0, m0_2, m0_3, m0_4, m0_5, m0_6, m0_7, m1, m2, m3) => (mkTs 35 [(4, (.ptr 0 [])), (13, (.sl (.st (.pair (.int .i64) (.int .i64))) l)), (14, (.int .i64 ((l.length : Nat) : Int))), (15, (.int .i64 x))], [(.box 53 (.st (.cons (.st (.cons (.int .i64 m0) (.cons (.int .i64 m0_2) (.cons (.int .i64 m0_3) (.cons (.int .i64 m0_4) (.int .i64 m0_5)))))) (.cons (.row 1) (.cons (.row 2) (.cons (.int .i64 m0_6) (.cons (.int .i64 m0_7) (.row 3)))))))), (.row 49 (.st (.pair (.int .i64) (.pair (.int .i64) (.pair (.int .i64) (.pair (.int .i64) (.int .i64)))))) m1), (.row 3 (.int .i64) m2), (.row 29 (.st (.pair (.int .i64) (.pair (.int .i64) (.pair (.int .i64) (.pair (.int .i64) (.pair (.int .i64) (.pair (.int .i64) .bool))))))) m3)])) (fun n' d => loopF (F6_l203 n l) n' d = some r) n ((0 : Int), (0 : Int), (0 : Int), (0 : Int), (0 : Int), (0 : Int), (0 : Int), (0 : Int), ([] : List (Int × Int × Int × Int × Int)), ([] : List Int), ([] : List (Int × Int × Int × Int × Int × Int × Bool))) h ?_ (fun d => loopF_zero _ d r) ?_
  ·kernel_rfl
  ·rintro n203 ⟨x, m0, m0_2, m0_3, m0_4, m0_5, m0_6, m0_7, m1, m2, m3⟩ h
   replace h : (bif (decide (x < ((l.length : Nat) : Int))) then (bif inb x l.length then (bif ((l.getD x.toNat ((0 : Int), (0 : Int))).1 == (2 : Int)) then (bif (((m2.length : Nat) : Int) == (256 : Int)) then (F6_j223 n (loopF (F6_l203 n l) n203) x ((2 : Int), m0, m0_2, m0_3, m0_4, m0_5, m0_6, m0_7, m1, m2, m3)) else (bif (decide (m2.length + [(l.getD x.toNat ((0 : Int), (0 : Int))).2].length ≤ 17592186044416)) then (F6_j223 n (loopF (F6_l203 n l) n203) x ((0 : Int), m0, m0_2, m0_3, m0_4, m0_5, m0_6, m0_7, m1, (m2 ++ [(l.getD x.toNat ((0 : Int), (0 : Int))).2]), m3)) else none)) else (bif ((l.getD x.toNat ((0 : Int), (0 : Int))).1 == (40 : Int)) then (bif (m0_6 == (8 : Int)) then (F6_j223 n (loopF (F6_l203 n l) n203) x ((11 : Int), m0, m0_2, m0_3, m0_4, m0_5, m0_6, m0_7, m1, m2, m3)) else (F6_j233 n (loopF (F6_l203 n l) n203) x m0 m0_2 m0_3 m0_4 m0_5 m1 ((IntKind.wrap .i64 (m0_6 + (1 : Int))), m0_7, m3))) else (bif ((l.getD x.toNat ((0 : Int), (0 : Int))).1 == (48 : Int)) then (bif (m0_6 == (0 : Int)) then (F6_j223 n (loopF (F6_l203 n l) n203) x ((12 : Int), m0, m0_2, m0_3, m0_4, m0_5, m0_6, m0_7, m1, m2, m3)) else (F6_j233 n (loopF (F6_l203 n l) n203) x m0 m0_2 m0_3 m0_4 m0_5 m1 ((IntKind.wrap .i64 (m0_6 - (1 : Int))), m0_7, m3))) else (bif ((l.getD x.toNat ((0 : Int), (0 : Int))).1 == (32 : Int)) then (bif (m0_4 == (0 : Int)) then (F6_j238 n (loopF (F6_l203 n l) n203) x m0 m0_2 m0_3 m0_4 m0_5 m0_6 m1 m2 ((1 : Int), m0_7, m3)) else (bif (decide (m0_2 > m0_3)) then (F6_j238 n (loopF (F6_l203 n l) n203) x m0 m0_2 m0_3 m0_4 m0_5 m0_6 m1 m2 ((1 : Int), m0_7, m3)) else (bif (decide ((IntKind.wrap .i64 (((m3.length : Nat) : Int) + m0_5)) > (256 : Int))) then (F6_j238 n (loopF (F6_l203 n l) n203) x m0 m0_2 m0_3 m0_4 m0_5 m0_6 m1 m2 ((2 : Int), m0_7, m3)) else (bif (decide ((IntKind.wrap .i64 (m0_7 + (IntKind.wrap .i64 (m0_5 * m0_4)))) > (512 : Int))) then (F6_j238 n (loopF (F6_l203 n l) n203) x m0 m0_2 m0_3 m0_4 m0_5 m0_6 m1 m2 ((2 : Int), m0_7, m3)) else (loopF (F6_l241 n (loopF (F6_l203 n l) n203) l x m0 m0_2 m0_3 m0_4 m0_5 m0_6 m1 m2) n ((0 : Int), m0_7, m3)))))) else (bif ((l.getD x.toNat ((0 : Int), (0 : Int))).1 == (1 : Int)) then (F6_j223 n (loopF (F6_l203 n l) n203) x ((0 : Int), (l.getD x.toNat ((0 : Int), (0 : Int))).2, m0_2, m0_3, m0_4, m0_5, m0_6, m0_7, m1, m2, m3)) else (bif ((l.getD x.toNat ((0 : Int), (0 : Int))).1 == (5 : Int)) then (F6_j223 n (loopF (F6_l203 n l) n203) x ((0 : Int), m0, (l.getD x.toNat ((0 : Int), (0 : Int))).2, m0_3, m0_4, m0_5, m0_6, m0_7, m1, m2, m3)) else (bif ((l.getD x.toNat ((0 : Int), (0 : Int))).1 == (9 : Int)) then (F6_j223 n (loopF (F6_l203 n l) n203) x ((0 : Int), m0, m0_2, (l.getD x.toNat ((0 : Int), (0 : Int))).2, m0_4, m0_5, m0_6, m0_7, m1, m2, m3)) else (bif ((l.getD x.toNat ((0 : Int), (0 : Int))).1 == (29 : Int)) then (bif (decide ((l.getD x.toNat ((0 : Int), (0 : Int))).2 < (1 : Int))) then (F6_j223 n (loopF (F6_l203 n l) n203) x ((1 : Int), m0, m0_2, m0_3, m0_4, m0_5, m0_6, m0_7, m1, m2, m3)) else (bif (decide ((l.getD x.toNat ((0 : Int), (0 : Int))).2 > (32 : Int))) then (F6_j223 n (loopF (F6_l203 n l) n203) x ((1 : Int), m0, m0_2, m0_3, m0_4, m0_5, m0_6, m0_7, m1, m2, m3)) else (F6_j223 n (loopF (F6_l203 n l) n203) x ((0 : Int), m0, m0_2, m0_3, (l.getD x.toNat ((0 : Int), (0 : Int))).2, m0_5, m0_6, m0_7, m1, m2, m3)))) else (bif ((l.getD x.toNat ((0 : Int), (0 : Int))).1 == (37 : Int)) then (bif (decide ((l.getD x.toNat ((0 : Int), (0 : Int))).2 < (0 : Int))) then (F6_j223 n (loopF (F6_l203 n l) n203) x ((1 : Int), m0, m0_2, m0_3, m0_4, m0_5, m0_6, m0_7, m1, m2, m3)) else (bif (decide ((l.getD x.toNat ((0 : Int), (0 : Int))).2 > (256 : Int))) then (F6_j223 n (loopF (F6_l203 n l) n203) x ((1 : Int), m0, m0_2, m0_3, m0_4, m0_5, m0_6, m0_7, m1, m2, m3)) else (F6_j223 n (loopF (F6_l203 n l) n203) x ((0 : Int), m0, m0_2, m0_3, m0_4, (l.getD x.toNat ((0 : Int), (0 : Int))).2, m0_6, m0_7, m1, m2, m3)))) else (bif ((l.getD x.toNat ((0 : Int), (0 : Int))).1 == (41 : Int)) then (bif (((m1.length : Nat) : Int) == (4 : Int)) then (F6_j223 n (loopF (F6_l203 n l) n203) x ((11 : Int), m0, m0_2, m0_3, m0_4, m0_5, m0_6, m0_7, m1, m2, m3)) else (bif (decide (m1.length + [(m0, (m0_2, (m0_3, (m0_4, m0_5))))].length ≤ 3518437208883)) then (F6_j223 n (loopF (F6_l203 n l) n203) x ((0 : Int), m0, m0_2, m0_3, m0_4, m0_5, m0_6, m0_7, (m1 ++ [(m0, (m0_2, (m0_3, (m0_4, m0_5))))]), m2, m3)) else none)) else (bif ((l.getD x.toNat ((0 : Int), (0 : Int))).1 == (45 : Int)) then (bif (((m1.length : Nat) : Int) == (0 : Int)) then (F6_j223 n (loopF (F6_l203 n l) n203) x ((12 : Int), m0, m0_2, m0_3, m0_4, m0_5, m0_6, m0_7, m1, m2, m3)) else (bif inb (IntKind.wrap .i64 (((m1.length : Nat) : Int) - (1 : Int))) m1.length then (bif subB m1.length none (some (IntKind.wrap .i64 (((m1.length : Nat) : Int) - (1 : Int)))) then (F6_j223 n (loopF (F6_l203 n l) n203) x ((0 : Int), (m1.getD ((IntKind.wrap .i64 (((m1.length : Nat) : Int) - (1 : Int))).toNat) ((0 : Int), ((0 : Int), ((0 : Int), ((0 : Int), (0 : Int)))))).1, (m1.getD ((IntKind.wrap .i64 (((m1.length : Nat) : Int) - (1 : Int))).toNat) ((0 : Int), ((0 : Int), ((0 : Int), ((0 : Int), (0 : Int)))))).2.1, (m1.getD ((IntKind.wrap .i64 (((m1.length : Nat) : Int) - (1 : Int))).toNat) ((0 : Int), ((0 : Int), ((0 : Int), ((0 : Int), (0 : Int)))))).2.2.1, (m1.getD ((IntKind.wrap .i64 (((m1.length : Nat) : Int) - (1 : Int))).toNat) ((0 : Int), ((0 : Int), ((0 : Int), ((0 : Int), (0 : Int)))))).2.2.2.1, (m1.getD ((IntKind.wrap .i64 (((m1.length : Nat) : Int) - (1 : Int))).toNat) ((0 : Int), ((0 : Int), ((0 : Int), ((0 : Int), (0 : Int)))))).2.2.2.2, m0_6, m0_7, (m1.take ((IntKind.wrap .i64 (((m1.length : Nat) : Int) - (1 : Int))).toNat)), m2, m3)) else none) else none)) else (F6_j223 n (loopF (F6_l203 n l) n203) x ((0 : Int), m0, m0_2, m0_3, m0_4, m0_5, m0_6, m0_7, m1, m2, m3))))))))))))) else none) else (bif (m0_6 != (0 : Int)) then (some ((4 : Int), ([] : List (Int × Int × Int × Int × Int × Int × Bool)))) else (some ((0 : Int), m3)))) = some r := h
   refine TS.seq ?_
   have hq := (ai tv tv)
   refine TS.reg [] ?_ ?_
   ·apply prop_of ?_ hq
    kernel_rfl
   refine XS.then ?_
   refine TS.seq ?_
   rcases bif_some h with ⟨c3, h⟩ | ⟨c4, h⟩
   ·refine TS.cond (decide (x < ((l.length : Nat) : Int))) ?_ (fun hcz => ?_) (fun hcz => by rw [c3] at hcz; cases hcz)
    ·kernel_rfl
    refine TS.skip ?_
    refine XS.then ?_
    refine TS.seq ?_
    refine TS.block ?_
    refine TS.seq ?_
    obtain ⟨t5, h⟩ := test_some h
    have hq := (ai (inb_ok t5) (ai tv (ai tv (ai tv tv))))
    refine TS.reg [] ?_ ?_
    ·apply prop_of ?_ hq
     kernel_rfl
    refine XS.then ?_
    refine TS.seq ?_
    refine TS.opsOf ?_
    have hq := (ai tv (ai tv tv))
    refine TOS.run 2 [] (by kernel_rfl) ?_ ?_
    ·apply prop_of ?_ hq
     kernel_rfl
    refine TOS.callJ (D := Int × Int × Int × Int × Int × Int × Int × Int × (List (Int × Int × Int × Int × Int)) × (List Int) × (List (Int × Int × Int × Int × Int × Int × Bool))) (fun d => match d with | (x_2, m0_8, m0_9, m0_10, m0_11, m0_12, m0_13, m0_14, m1_2, m2_2, m3_2) => (mkTs 35 [(4, (.ptr 0 [])), (13, (.sl (.st (.pair (.int .i64) (.int .i64))) l)), (14, (.int .i64 ((l.length : Nat) : Int))), (15, (.int .i64 x)), (21, (.int .i64 x_2))], [(.box 53 (.st (.cons (.st (.cons (.int .i64 m0_8) (.cons (.int .i64 m0_9) (.cons (.int .i64 m0_10) (.cons (.int .i64 m0_11) (.int .i64 m0_12)))))) (.cons (.row 1) (.cons (.row 2) (.cons (.int .i64 m0_13) (.cons (.int .i64 m0_14) (.row 3)))))))), (.row 49 (.st (.pair (.int .i64) (.pair (.int .i64) (.pair (.int .i64) (.pair (.int .i64) (.int .i64)))))) m1_2), (.row 3 (.int .i64) m2_2), (.row 29 (.st (.pair (.int .i64) (.pair (.int .i64) (.pair (.int .i64) (.pair (.int .i64) (.pair (.int .i64) (.pair (.int .i64) .bool))))))) m3_2)])) (fun d => F6_j223 n (loopF (F6_l203 n l) n203) x d = some r) 16 (mkMask 35 [4, 13, 14, 15]) Try.func16 rfl ?_ ?_
    ·rintro ⟨x_2, m0_8, m0_9, m0_10, m0_11, m0_12, m0_13, m0_14, m1_2, m2_2, m3_2⟩ h
     replace h : (bif (x_2 != (0 : Int)) then (some (x_2, ([] : List (Int × Int × Int × Int × Int × Int × Bool)))) else ((loopF (F6_l203 n l) n203) ((IntKind.wrap .i64 (x + (1 : Int))), m0_8, m0_9, m0_10, m0_11, m0_12, m0_13, m0_14, m1_2, m2_2, m3_2))) = some r := h
     have hq := (ai tv tv)
     refine TOS.run 1 [] (by kernel_rfl) ?_ ?_
     ·apply prop_of ?_ hq
      kernel_rfl
     refine TOS.nil (by kernel_rfl) ?_
     refine XS.then ?_
     refine TS.seq ?_
     have hq := (ai tv (ai tv tv))
     refine TS.reg [] ?_ ?_
     ·apply prop_of ?_ hq
      kernel_rfl
     refine XS.then ?_
     rcases bif_some h with ⟨c6, h⟩ | ⟨c7, h⟩
     ·refine TS.cond (x_2 != (0 : Int)) ?_ (fun hcz => ?_) (fun hcz => by rw [c6] at hcz; cases hcz)
      ·kernel_rfl
      refine TS.seq ?_
      have hq := (ai tv (ai tv (ai tv tv)))
      refine TS.reg [] ?_ ?_
      ·apply prop_of ?_ hq
       kernel_rfl
      refine XS.then ?_
      refine TS.ret ?_
      refine XS.blockRet ?_
      refine XS.passR ?_
      refine XS.passR ?_
      refine XS.blockRet ?_
      refine XS.passR ?_
      obtain rfl : (x_2, ([] : List (Int × Int × Int × Int × Int × Int × Bool))) = r := Option.some.inj h
      refine XS.wk (.row false 2 [] 29 (.st (.pair (.int .i64) (.pair (.int .i64) (.pair (.int .i64) (.pair (.int .i64) (.pair (.int .i64) (.pair (.int .i64) .bool)))))))) ?_
      exact XS.fin [4] ((True) ∧ ((True) ∧ (True))) (by kernel_rfl) ⟨trivial, ⟨trivial, trivial⟩⟩
     ·refine TS.cond (x_2 != (0 : Int)) ?_ (fun hcz => by rw [c7] at hcz; cases hcz) (fun hcz => ?_)
      ·kernel_rfl
      refine TS.skip ?_
      refine XS.blockEnd ?_
      refine XS.then ?_
      have hq := (ai tv (ai tv tv))
      refine TS.reg [] ?_ ?_
      ·apply prop_of ?_ hq
       kernel_rfl
      refine XS.reAny [0, 1, 2, 3] (mkMask 35 [4, 13, 14, 15]) ((IntKind.wrap .i64 (x + (1 : Int))), m0_8, m0_9, m0_10, m0_11, m0_12, m0_13, m0_14, m1_2, m2_2, m3_2) h ?_
      kernel_rfl
    ·intro fv64
     refine ⟨(mkTs 70 [(0, (.ptr 0 [])), (1, (.st (.cons (.int .i64 (l.getD x.toNat ((0 : Int), (0 : Int))).1) (.int .i64 (l.getD x.toNat ((0 : Int), (0 : Int))).2))))], [(.box 53 (.st (.cons (.st (.cons (.int .i64 m0) (.cons (.int .i64 m0_2) (.cons (.int .i64 m0_3) (.cons (.int .i64 m0_4) (.int .i64 m0_5)))))) (.cons (.row 1) (.cons (.row 2) (.cons (.int .i64 m0_6) (.cons (.int .i64 m0_7) (.row 3)))))))), (.row 49 (.st (.pair (.int .i64) (.pair (.int .i64) (.pair (.int .i64) (.pair (.int .i64) (.int .i64)))))) m1), (.row 3 (.int .i64) m2), (.row 29 (.st (.pair (.int .i64) (.pair (.int .i64) (.pair (.int .i64) (.pair (.int .i64) (.pair (.int .i64) (.pair (.int .i64) .bool))))))) m3), (.box 55 (.st (.cons (.int .i64 (l.getD x.toNat ((0 : Int), (0 : Int))).1) (.int .i64 (l.getD x.toNat ((0 : Int), (0 : Int))).2)))), (.sav (mkTs 35 [(4, (.ptr 0 [])), (13, (.sl (.st (.pair (.int .i64) (.int .i64))) l)), (14, (.int .i64 ((l.length : Nat) : Int))), (15, (.int .i64 x))]) fv64)]), by kernel_rfl, ?_⟩
     refine TS.seq ?_
     have hq := (ai tv (ai tv tv))
     refine TS.reg [] ?_ ?_
     ·apply prop_of ?_ hq
      kernel_rfl
     refine XS.then ?_
     refine TS.seq ?_
     refine TS.seq ?_
     have hq := (ai tv (ai tv tv))
     refine TS.reg [] ?_ ?_
     ·apply prop_of ?_ hq
      kernel_rfl
     refine XS.then ?_
     refine TS.cut (D := Int × Int × (List (Int × Int × Int × Int × Int × Int × Bool))) (fun d => match d with | (m1_3, m1_4, m4) => (mkTs 70 [(0, (.ptr 1 []))], [(.sav (mkTs 35 [(4, (.ptr 1 [])), (13, (.sl (.st (.pair (.int .i64) (.int .i64))) l)), (14, (.int .i64 ((l.length : Nat) : Int))), (15, (.int .i64 x))]) fv64), (.box 53 (.st (.cons (.st (.cons (.int .i64 m0) (.cons (.int .i64 m0_2) (.cons (.int .i64 m0_3) (.cons (.int .i64 m0_4) (.int .i64 m0_5)))))) (.cons (.row 2) (.cons (.row 3) (.cons (.int .i64 m1_3) (.cons (.int .i64 m1_4) (.row 4)))))))), (.row 49 (.st (.pair (.int .i64) (.pair (.int .i64) (.pair (.int .i64) (.pair (.int .i64) (.int .i64)))))) m1), (.row 3 (.int .i64) m2), (.row 29 (.st (.pair (.int .i64) (.pair (.int .i64) (.pair (.int .i64) (.pair (.int .i64) (.pair (.int .i64) (.pair (.int .i64) .bool))))))) m4)])) (fun d => F6_j233 n (loopF (F6_l203 n l) n203) x m0 m0_2 m0_3 m0_4 m0_5 m1 d = some r) ?_ ?_
     ·rintro ⟨m1_3, m1_4, m4⟩ h
      replace h : (F6_j223 n (loopF (F6_l203 n l) n203) x ((0 : Int), m0, m0_2, m0_3, m0_4, m0_5, m1_3, m1_4, m1, ([] : List Int), m4)) = some r := h
      refine XS.then ?_
      refine TS.seq ?_
      have hq := (ai tv (ai tv (ai tv (ai tv tv))))
      refine TS.reg [] ?_ ?_
      ·apply prop_of ?_ hq
       kernel_rfl
      refine XS.then ?_
      refine TS.seq ?_
      have hq := (ai tv tv)
      refine TS.reg [] ?_ ?_
      ·apply prop_of ?_ hq
       kernel_rfl
      refine XS.then ?_
      refine TS.ret ?_
      refine XS.backR 0 (mkTs 35 [(4, (.ptr 1 [])), (13, (.sl (.st (.pair (.int .i64) (.int .i64))) l)), (14, (.int .i64 ((l.length : Nat) : Int))), (15, (.int .i64 x))]) (mkTs 35 [(4, (.ptr 1 [])), (13, (.sl (.st (.pair (.int .i64) (.int .i64))) l)), (14, (.int .i64 ((l.length : Nat) : Int))), (15, (.int .i64 x)), (21, (.int .i64 (0 : Int)))], [.dead, (.box 53 (.st (.cons (.st (.cons (.int .i64 m0) (.cons (.int .i64 m0_2) (.cons (.int .i64 m0_3) (.cons (.int .i64 m0_4) (.int .i64 m0_5)))))) (.cons (.row 2) (.cons .nilS (.cons (.int .i64 m1_3) (.cons (.int .i64 m1_4) (.row 4)))))))), (.row 49 (.st (.pair (.int .i64) (.pair (.int .i64) (.pair (.int .i64) (.pair (.int .i64) (.int .i64)))))) m1), (.row 3 (.int .i64) m2), (.row 29 (.st (.pair (.int .i64) (.pair (.int .i64) (.pair (.int .i64) (.pair (.int .i64) (.pair (.int .i64) (.pair (.int .i64) .bool))))))) m4)]) ((True) ∧ (True)) (by kernel_rfl) (by kernel_rfl) ⟨trivial, trivial⟩ ?_
      refine KS.ofX ?_
      refine XS.wk (.row true 1 [true, true, false] 3 (.int .i64)) ?_
      refine XS.reAny [1, 2, 5, 4] (mkMask 35 [4, 13, 14, 15, 21]) ((0 : Int), m0, m0_2, m0_3, m0_4, m0_5, m1_3, m1_4, m1, ([] : List Int), m4) h ?_
      kernel_rfl
     ·refine TS.block ?_
      refine TS.seq ?_
      have hq := (ai tv (ai tv tv))
      refine TS.reg [] ?_ ?_
      ·apply prop_of ?_ hq
       kernel_rfl
      refine XS.then ?_
      rcases bif_some h with ⟨c8, h⟩ | ⟨c9, h⟩
      ·refine TS.cond ((l.getD x.toNat ((0 : Int), (0 : Int))).1 == (2 : Int)) ?_ (fun hcz => ?_) (fun hcz => by rw [c8] at hcz; cases hcz)
       ·kernel_rfl
       refine TS.seq ?_
       refine TS.seq ?_
       have hq := (ai tv (ai tv (ai tv (ai tv (ai tv (ai tv tv))))))
       refine TS.reg [] ?_ ?_
       ·apply prop_of ?_ hq
        kernel_rfl
       refine XS.then ?_
       rcases bif_some h with ⟨c10, h⟩ | ⟨c11, h⟩
       ·refine TS.cond (((m2.length : Nat) : Int) == (256 : Int)) ?_ (fun hcz => ?_) (fun hcz => by rw [c10] at hcz; cases hcz)
        ·kernel_rfl
        refine TS.seq ?_
        have hq := (ai tv tv)
        refine TS.reg [] ?_ ?_
        ·apply prop_of ?_ hq
         kernel_rfl
        refine XS.then ?_
        refine TS.ret ?_
        refine XS.passR ?_
        refine XS.blockRet ?_
        refine XS.passR ?_
        refine XS.passR ?_
        refine XS.backR 5 (mkTs 35 [(4, (.ptr 0 [])), (13, (.sl (.st (.pair (.int .i64) (.int .i64))) l)), (14, (.int .i64 ((l.length : Nat) : Int))), (15, (.int .i64 x))]) (mkTs 35 [(4, (.ptr 0 [])), (13, (.sl (.st (.pair (.int .i64) (.int .i64))) l)), (14, (.int .i64 ((l.length : Nat) : Int))), (15, (.int .i64 x)), (21, (.int .i64 (2 : Int)))], [(.box 53 (.st (.cons (.st (.cons (.int .i64 m0) (.cons (.int .i64 m0_2) (.cons (.int .i64 m0_3) (.cons (.int .i64 m0_4) (.int .i64 m0_5)))))) (.cons (.row 1) (.cons (.row 2) (.cons (.int .i64 m0_6) (.cons (.int .i64 m0_7) (.row 3)))))))), (.row 49 (.st (.pair (.int .i64) (.pair (.int .i64) (.pair (.int .i64) (.pair (.int .i64) (.int .i64)))))) m1), (.row 3 (.int .i64) m2), (.row 29 (.st (.pair (.int .i64) (.pair (.int .i64) (.pair (.int .i64) (.pair (.int .i64) (.pair (.int .i64) (.pair (.int .i64) .bool))))))) m3), (.box 55 (.st (.cons (.int .i64 (l.getD x.toNat ((0 : Int), (0 : Int))).1) (.int .i64 (l.getD x.toNat ((0 : Int), (0 : Int))).2)))), .dead, (.box 55 (.st (.cons (.int .i64 (l.getD x.toNat ((0 : Int), (0 : Int))).1) (.int .i64 (l.getD x.toNat ((0 : Int), (0 : Int))).2))))]) ((True) ∧ (True)) (by kernel_rfl) (by kernel_rfl) ⟨trivial, trivial⟩ ?_
        refine KS.ofX ?_
        refine XS.reAny [0, 1, 2, 3] (mkMask 35 [4, 13, 14, 15, 21]) ((2 : Int), m0, m0_2, m0_3, m0_4, m0_5, m0_6, m0_7, m1, m2, m3) h ?_
        kernel_rfl
       ·refine TS.cond (((m2.length : Nat) : Int) == (256 : Int)) ?_ (fun hcz => by rw [c11] at hcz; cases hcz) (fun hcz => ?_)
        ·kernel_rfl
        refine TS.skip ?_
        refine XS.then ?_
        refine TS.seq ?_
        obtain ⟨t12, h⟩ := test_some h
        have hq : ((True) ∧ ((True) ∧ ((True) ∧ ((True) ∧ ((True) ∧ ((True) ∧ ((True) ∧ (((0 < 1 ∧ True) ∧ (True)) ∧ ((m2.length + [(l.getD x.toNat ((0 : Int), (0 : Int))).2].length ≤ 17592186044416) ∧ ((True) ∧ ((True) ∧ (True)))))))))))) ∧ ((True) ∧ (True)) := ⟨⟨trivial, ⟨trivial, ⟨trivial, ⟨trivial, ⟨trivial, ⟨trivial, ⟨trivial, ⟨⟨⟨by decide, trivial⟩, trivial⟩, ⟨of_decide_eq_true t12, ⟨trivial, ⟨trivial, trivial⟩⟩⟩⟩⟩⟩⟩⟩⟩⟩⟩, ⟨trivial, trivial⟩⟩
        refine TS.draw 11 [(8, 2)] [] (by kernel_rfl) ?_ ?_
        ·apply prop_of ?_ hq
         kernel_rfl
        refine XS.then ?_
        refine TS.seq ?_
        have hq := (ai tv tv)
        refine TS.reg [] ?_ ?_
        ·apply prop_of ?_ hq
         kernel_rfl
        refine XS.then ?_
        refine TS.ret ?_
        refine XS.blockRet ?_
        refine XS.passR ?_
        refine XS.passR ?_
        refine XS.backR 5 (mkTs 35 [(4, (.ptr 0 [])), (13, (.sl (.st (.pair (.int .i64) (.int .i64))) l)), (14, (.int .i64 ((l.length : Nat) : Int))), (15, (.int .i64 x))]) (mkTs 35 [(4, (.ptr 0 [])), (13, (.sl (.st (.pair (.int .i64) (.int .i64))) l)), (14, (.int .i64 ((l.length : Nat) : Int))), (15, (.int .i64 x)), (21, (.int .i64 (0 : Int)))], [(.box 53 (.st (.cons (.st (.cons (.int .i64 m0) (.cons (.int .i64 m0_2) (.cons (.int .i64 m0_3) (.cons (.int .i64 m0_4) (.int .i64 m0_5)))))) (.cons (.row 1) (.cons (.row 8) (.cons (.int .i64 m0_6) (.cons (.int .i64 m0_7) (.row 3)))))))), (.row 49 (.st (.pair (.int .i64) (.pair (.int .i64) (.pair (.int .i64) (.pair (.int .i64) (.int .i64)))))) m1), .dead, (.row 29 (.st (.pair (.int .i64) (.pair (.int .i64) (.pair (.int .i64) (.pair (.int .i64) (.pair (.int .i64) (.pair (.int .i64) .bool))))))) m3), (.box 55 (.st (.cons (.int .i64 (l.getD x.toNat ((0 : Int), (0 : Int))).1) (.int .i64 (l.getD x.toNat ((0 : Int), (0 : Int))).2)))), .dead, (.box 55 (.st (.cons (.int .i64 (l.getD x.toNat ((0 : Int), (0 : Int))).1) (.int .i64 (l.getD x.toNat ((0 : Int), (0 : Int))).2)))), (.row 3 (.int .i64) [(l.getD x.toNat ((0 : Int), (0 : Int))).2]), (.row 3 (.int .i64) (m2 ++ [(l.getD x.toNat ((0 : Int), (0 : Int))).2]))]) ((True) ∧ (True)) (by kernel_rfl) (by kernel_rfl) ⟨trivial, trivial⟩ ?_
        refine KS.ofX ?_
        refine XS.reAny [0, 1, 8, 3] (mkMask 35 [4, 13, 14, 15, 21]) ((0 : Int), m0, m0_2, m0_3, m0_4, m0_5, m0_6, m0_7, m1, (m2 ++ [(l.getD x.toNat ((0 : Int), (0 : Int))).2]), m3) h ?_
        kernel_rfl
      ·refine TS.cond ((l.getD x.toNat ((0 : Int), (0 : Int))).1 == (2 : Int)) ?_ (fun hcz => by rw [c9] at hcz; cases hcz) (fun hcz => ?_)
       ·kernel_rfl
       refine TS.seq ?_
       have hq := (ai tv (ai tv tv))
       refine TS.reg [] ?_ ?_
       ·apply prop_of ?_ hq
        kernel_rfl
       refine XS.then ?_
       rcases bif_some h with ⟨c13, h⟩ | ⟨c14, h⟩
       ·refine TS.cond ((l.getD x.toNat ((0 : Int), (0 : Int))).1 == (40 : Int)) ?_ (fun hcz => ?_) (fun hcz => by rw [c13] at hcz; cases hcz)
        ·kernel_rfl
        refine TS.seq ?_
        refine TS.seq ?_
        have hq := (ai tv (ai tv (ai tv (ai tv (ai tv tv)))))
        refine TS.reg [] ?_ ?_
        ·apply prop_of ?_ hq
         kernel_rfl
        refine XS.then ?_
        rcases bif_some h with ⟨c15, h⟩ | ⟨c16, h⟩
        ·refine TS.cond (m0_6 == (8 : Int)) ?_ (fun hcz => ?_) (fun hcz => by rw [c15] at hcz; cases hcz)
         ·kernel_rfl
         refine TS.seq ?_
         have hq := (ai tv tv)
         refine TS.reg [] ?_ ?_
         ·apply prop_of ?_ hq
          kernel_rfl
         refine XS.then ?_
         refine TS.ret ?_
         refine XS.passR ?_
         refine XS.blockRet ?_
         refine XS.passR ?_
         refine XS.passR ?_
         refine XS.backR 5 (mkTs 35 [(4, (.ptr 0 [])), (13, (.sl (.st (.pair (.int .i64) (.int .i64))) l)), (14, (.int .i64 ((l.length : Nat) : Int))), (15, (.int .i64 x))]) (mkTs 35 [(4, (.ptr 0 [])), (13, (.sl (.st (.pair (.int .i64) (.int .i64))) l)), (14, (.int .i64 ((l.length : Nat) : Int))), (15, (.int .i64 x)), (21, (.int .i64 (11 : Int)))], [(.box 53 (.st (.cons (.st (.cons (.int .i64 m0) (.cons (.int .i64 m0_2) (.cons (.int .i64 m0_3) (.cons (.int .i64 m0_4) (.int .i64 m0_5)))))) (.cons (.row 1) (.cons (.row 2) (.cons (.int .i64 m0_6) (.cons (.int .i64 m0_7) (.row 3)))))))), (.row 49 (.st (.pair (.int .i64) (.pair (.int .i64) (.pair (.int .i64) (.pair (.int .i64) (.int .i64)))))) m1), (.row 3 (.int .i64) m2), (.row 29 (.st (.pair (.int .i64) (.pair (.int .i64) (.pair (.int .i64) (.pair (.int .i64) (.pair (.int .i64) (.pair (.int .i64) .bool))))))) m3), (.box 55 (.st (.cons (.int .i64 (l.getD x.toNat ((0 : Int), (0 : Int))).1) (.int .i64 (l.getD x.toNat ((0 : Int), (0 : Int))).2)))), .dead, (.box 55 (.st (.cons (.int .i64 (l.getD x.toNat ((0 : Int), (0 : Int))).1) (.int .i64 (l.getD x.toNat ((0 : Int), (0 : Int))).2))))]) ((True) ∧ (True)) (by kernel_rfl) (by kernel_rfl) ⟨trivial, trivial⟩ ?_
         refine KS.ofX ?_
         refine XS.reAny [0, 1, 2, 3] (mkMask 35 [4, 13, 14, 15, 21]) ((11 : Int), m0, m0_2, m0_3, m0_4, m0_5, m0_6, m0_7, m1, m2, m3) h ?_
         kernel_rfl
        ·refine TS.cond (m0_6 == (8 : Int)) ?_ (fun hcz => by rw [c16] at hcz; cases hcz) (fun hcz => ?_)
         ·kernel_rfl
         refine TS.skip ?_
         refine XS.then ?_
         have hq := (ai tv (ai tv (ai tv (ai tv (ai tv (ai tv (ai tv (ai tv tv))))))))
         refine TS.reg [] ?_ ?_
         ·apply prop_of ?_ hq
          kernel_rfl
         refine XS.blockEnd ?_
         refine XS.reAny [5, 0, 1, 2, 3] (mkMask 70 [0]) ((IntKind.wrap .i64 (m0_6 + (1 : Int))), m0_7, m3) h ?_
         kernel_rfl
       ·refine TS.cond ((l.getD x.toNat ((0 : Int), (0 : Int))).1 == (40 : Int)) ?_ (fun hcz => by rw [c14] at hcz; cases hcz) (fun hcz => ?_)
        ·kernel_rfl
        refine TS.seq ?_
        have hq := (ai tv (ai tv tv))
        refine TS.reg [] ?_ ?_
        ·apply prop_of ?_ hq
         kernel_rfl
        refine XS.then ?_
        rcases bif_some h with ⟨c17, h⟩ | ⟨c18, h⟩
        ·refine TS.cond ((l.getD x.toNat ((0 : Int), (0 : Int))).1 == (48 : Int)) ?_ (fun hcz => ?_) (fun hcz => by rw [c17] at hcz; cases hcz)
         ·kernel_rfl
         refine TS.seq ?_
         refine TS.seq ?_
         have hq := (ai tv (ai tv (ai tv (ai tv (ai tv tv)))))
         refine TS.reg [] ?_ ?_
         ·apply prop_of ?_ hq
          kernel_rfl
         refine XS.then ?_
         rcases bif_some h with ⟨c19, h⟩ | ⟨c20, h⟩
         ·refine TS.cond (m0_6 == (0 : Int)) ?_ (fun hcz => ?_) (fun hcz => by rw [c19] at hcz; cases hcz)
          ·kernel_rfl
          refine TS.seq ?_
          have hq := (ai tv tv)
          refine TS.reg [] ?_ ?_
          ·apply prop_of ?_ hq
           kernel_rfl
          refine XS.then ?_
          refine TS.ret ?_
          refine XS.passR ?_
          refine XS.blockRet ?_
          refine XS.passR ?_
          refine XS.passR ?_
          refine XS.backR 5 (mkTs 35 [(4, (.ptr 0 [])), (13, (.sl (.st (.pair (.int .i64) (.int .i64))) l)), (14, (.int .i64 ((l.length : Nat) : Int))), (15, (.int .i64 x))]) (mkTs 35 [(4, (.ptr 0 [])), (13, (.sl (.st (.pair (.int .i64) (.int .i64))) l)), (14, (.int .i64 ((l.length : Nat) : Int))), (15, (.int .i64 x)), (21, (.int .i64 (12 : Int)))], [(.box 53 (.st (.cons (.st (.cons (.int .i64 m0) (.cons (.int .i64 m0_2) (.cons (.int .i64 m0_3) (.cons (.int .i64 m0_4) (.int .i64 m0_5)))))) (.cons (.row 1) (.cons (.row 2) (.cons (.int .i64 m0_6) (.cons (.int .i64 m0_7) (.row 3)))))))), (.row 49 (.st (.pair (.int .i64) (.pair (.int .i64) (.pair (.int .i64) (.pair (.int .i64) (.int .i64)))))) m1), (.row 3 (.int .i64) m2), (.row 29 (.st (.pair (.int .i64) (.pair (.int .i64) (.pair (.int .i64) (.pair (.int .i64) (.pair (.int .i64) (.pair (.int .i64) .bool))))))) m3), (.box 55 (.st (.cons (.int .i64 (l.getD x.toNat ((0 : Int), (0 : Int))).1) (.int .i64 (l.getD x.toNat ((0 : Int), (0 : Int))).2)))), .dead, (.box 55 (.st (.cons (.int .i64 (l.getD x.toNat ((0 : Int), (0 : Int))).1) (.int .i64 (l.getD x.toNat ((0 : Int), (0 : Int))).2))))]) ((True) ∧ (True)) (by kernel_rfl) (by kernel_rfl) ⟨trivial, trivial⟩ ?_
          refine KS.ofX ?_
          refine XS.reAny [0, 1, 2, 3] (mkMask 35 [4, 13, 14, 15, 21]) ((12 : Int), m0, m0_2, m0_3, m0_4, m0_5, m0_6, m0_7, m1, m2, m3) h ?_
          kernel_rfl
         ·refine TS.cond (m0_6 == (0 : Int)) ?_ (fun hcz => by rw [c20] at hcz; cases hcz) (fun hcz => ?_)
          ·kernel_rfl
          refine TS.skip ?_
          refine XS.then ?_
          have hq := (ai tv (ai tv (ai tv (ai tv (ai tv (ai tv (ai tv (ai tv tv))))))))
          refine TS.reg [] ?_ ?_
          ·apply prop_of ?_ hq
           kernel_rfl
          refine XS.blockEnd ?_
          refine XS.reAny [5, 0, 1, 2, 3] (mkMask 70 [0]) ((IntKind.wrap .i64 (m0_6 - (1 : Int))), m0_7, m3) h ?_
          kernel_rfl
        ·refine TS.cond ((l.getD x.toNat ((0 : Int), (0 : Int))).1 == (48 : Int)) ?_ (fun hcz => by rw [c18] at hcz; cases hcz) (fun hcz => ?_)
         ·kernel_rfl
         refine TS.seq ?_
         have hq := (ai tv (ai tv tv))
         refine TS.reg [] ?_ ?_
         ·apply prop_of ?_ hq
          kernel_rfl
         refine XS.then ?_
         rcases bif_some h with ⟨c21, h⟩ | ⟨c22, h⟩
         ·refine TS.cond ((l.getD x.toNat ((0 : Int), (0 : Int))).1 == (32 : Int)) ?_ (fun hcz => ?_) (fun hcz => by rw [c21] at hcz; cases hcz)
          ·kernel_rfl
          refine TS.seq ?_
          refine TS.opsOf ?_
          have hq := (ai tv (ai tv (ai tv tv)))
          refine TOS.run 3 [] (by kernel_rfl) ?_ ?_
          ·apply prop_of ?_ hq
           kernel_rfl
          refine TOS.callJ (D := Int × Int × (List (Int × Int × Int × Int × Int × Int × Bool))) (fun d => match d with | (x_3, m1_5, m4_2) => (mkTs 70 [(0, (.ptr 1 [])), (63, (.int .i64 x_3))], [(.sav (mkTs 35 [(4, (.ptr 1 [])), (13, (.sl (.st (.pair (.int .i64) (.int .i64))) l)), (14, (.int .i64 ((l.length : Nat) : Int))), (15, (.int .i64 x))]) fv64), (.box 53 (.st (.cons (.st (.cons (.int .i64 m0) (.cons (.int .i64 m0_2) (.cons (.int .i64 m0_3) (.cons (.int .i64 m0_4) (.int .i64 m0_5)))))) (.cons (.row 2) (.cons (.row 3) (.cons (.int .i64 m0_6) (.cons (.int .i64 m1_5) (.row 4)))))))), (.row 49 (.st (.pair (.int .i64) (.pair (.int .i64) (.pair (.int .i64) (.pair (.int .i64) (.int .i64)))))) m1), (.row 3 (.int .i64) m2), (.row 29 (.st (.pair (.int .i64) (.pair (.int .i64) (.pair (.int .i64) (.pair (.int .i64) (.pair (.int .i64) (.pair (.int .i64) .bool))))))) m4_2)])) (fun d => F6_j238 n (loopF (F6_l203 n l) n203) x m0 m0_2 m0_3 m0_4 m0_5 m0_6 m1 m2 d = some r) 29 (mkMask 70 [0]) Try.func29 rfl ?_ ?_
          ·rintro ⟨x_3, m1_5, m4_2⟩ h
           replace h : (bif (x_3 != (0 : Int)) then (F6_j223 n (loopF (F6_l203 n l) n203) x (x_3, m0, m0_2, m0_3, m0_4, m0_5, m0_6, m1_5, m1, m2, m4_2)) else (F6_j233 n (loopF (F6_l203 n l) n203) x m0 m0_2 m0_3 m0_4 m0_5 m1 (m0_6, m1_5, m4_2))) = some r := h
           have hq := (ai tv tv)
           refine TOS.run 1 [] (by kernel_rfl) ?_ ?_
           ·apply prop_of ?_ hq
            kernel_rfl
           refine TOS.nil (by kernel_rfl) ?_
           refine XS.then ?_
           refine TS.seq ?_
           have hq := (ai tv (ai tv tv))
           refine TS.reg [] ?_ ?_
           ·apply prop_of ?_ hq
            kernel_rfl
           refine XS.then ?_
           rcases bif_some h with ⟨c23, h⟩ | ⟨c24, h⟩
           ·refine TS.cond (x_3 != (0 : Int)) ?_ (fun hcz => ?_) (fun hcz => by rw [c23] at hcz; cases hcz)
            ·kernel_rfl
            refine TS.seq ?_
            have hq := (ai tv (ai tv tv))
            refine TS.reg [] ?_ ?_
            ·apply prop_of ?_ hq
             kernel_rfl
            refine XS.then ?_
            refine TS.ret ?_
            refine XS.blockRet ?_
            refine XS.passR ?_
            refine XS.passR ?_
            refine XS.backR 0 (mkTs 35 [(4, (.ptr 1 [])), (13, (.sl (.st (.pair (.int .i64) (.int .i64))) l)), (14, (.int .i64 ((l.length : Nat) : Int))), (15, (.int .i64 x))]) (mkTs 35 [(4, (.ptr 1 [])), (13, (.sl (.st (.pair (.int .i64) (.int .i64))) l)), (14, (.int .i64 ((l.length : Nat) : Int))), (15, (.int .i64 x)), (21, (.int .i64 x_3))], [.dead, (.box 53 (.st (.cons (.st (.cons (.int .i64 m0) (.cons (.int .i64 m0_2) (.cons (.int .i64 m0_3) (.cons (.int .i64 m0_4) (.int .i64 m0_5)))))) (.cons (.row 2) (.cons (.row 3) (.cons (.int .i64 m0_6) (.cons (.int .i64 m1_5) (.row 4)))))))), (.row 49 (.st (.pair (.int .i64) (.pair (.int .i64) (.pair (.int .i64) (.pair (.int .i64) (.int .i64)))))) m1), (.row 3 (.int .i64) m2), (.row 29 (.st (.pair (.int .i64) (.pair (.int .i64) (.pair (.int .i64) (.pair (.int .i64) (.pair (.int .i64) (.pair (.int .i64) .bool))))))) m4_2)]) ((True) ∧ (True)) (by kernel_rfl) (by kernel_rfl) ⟨trivial, trivial⟩ ?_
            refine KS.ofX ?_
            refine XS.reAny [1, 2, 3, 4] (mkMask 35 [4, 13, 14, 15, 21]) (x_3, m0, m0_2, m0_3, m0_4, m0_5, m0_6, m1_5, m1, m2, m4_2) h ?_
            kernel_rfl
           ·refine TS.cond (x_3 != (0 : Int)) ?_ (fun hcz => by rw [c24] at hcz; cases hcz) (fun hcz => ?_)
            ·kernel_rfl
            refine TS.skip ?_
            refine XS.blockEnd ?_
            refine XS.reAny [0, 1, 2, 3, 4] (mkMask 70 [0]) (m0_6, m1_5, m4_2) h ?_
            kernel_rfl
          ·intro fv71
           refine ⟨(mkTs 136 [(0, (.ptr 0 [])), (1, (.int .i64 (l.getD x.toNat ((0 : Int), (0 : Int))).2))], [(.box 53 (.st (.cons (.st (.cons (.int .i64 m0) (.cons (.int .i64 m0_2) (.cons (.int .i64 m0_3) (.cons (.int .i64 m0_4) (.int .i64 m0_5)))))) (.cons (.row 1) (.cons (.row 2) (.cons (.int .i64 m0_6) (.cons (.int .i64 m0_7) (.row 3)))))))), (.row 49 (.st (.pair (.int .i64) (.pair (.int .i64) (.pair (.int .i64) (.pair (.int .i64) (.int .i64)))))) m1), (.row 3 (.int .i64) m2), (.row 29 (.st (.pair (.int .i64) (.pair (.int .i64) (.pair (.int .i64) (.pair (.int .i64) (.pair (.int .i64) (.pair (.int .i64) .bool))))))) m3), (.box 55 (.st (.cons (.int .i64 (l.getD x.toNat ((0 : Int), (0 : Int))).1) (.int .i64 (l.getD x.toNat ((0 : Int), (0 : Int))).2)))), (.sav (mkTs 35 [(4, (.ptr 0 [])), (13, (.sl (.st (.pair (.int .i64) (.int .i64))) l)), (14, (.int .i64 ((l.length : Nat) : Int))), (15, (.int .i64 x))]) fv64), (.box 55 (.st (.cons (.int .i64 (l.getD x.toNat ((0 : Int), (0 : Int))).1) (.int .i64 (l.getD x.toNat ((0 : Int), (0 : Int))).2)))), (.sav (mkTs 70 [(0, (.ptr 0 []))]) fv71)]), by kernel_rfl, ?_⟩
           refine TS.seq ?_
           have hq := (ai tv tv)
           refine TS.reg [] ?_ ?_
           ·apply prop_of ?_ hq
            kernel_rfl
           refine XS.then ?_
           refine TS.seq ?_
           refine TS.block ?_
           refine TS.seq ?_
           rcases bif_some h with ⟨c25, h⟩ | ⟨c26, h⟩
           ·have hq := (ai (ai tv (ai tv (ai tv (ai tv (ai tv (ai tv (ai (ai tv c25) (ai tv tv)))))))) (ai tv tv))
            refine TS.draw 19 [] [.none, .none, .none, .none, .none, .none, .dec true] (by kernel_rfl) ?_ ?_
            ·apply prop_of ?_ hq
             kernel_rfl
            refine XS.then ?_
            refine TS.yes ?_ ?_
            ·kernel_rfl
            refine TS.seq ?_
            have hq := (ai tv tv)
            refine TS.reg [] ?_ ?_
            ·apply prop_of ?_ hq
             kernel_rfl
            refine XS.then ?_
            refine TS.ret ?_
            refine XS.blockRet ?_
            refine XS.passR ?_
            refine XS.backR 7 (mkTs 70 [(0, (.ptr 0 []))]) (mkTs 70 [(0, (.ptr 0 [])), (63, (.int .i64 (1 : Int)))], [(.box 53 (.st (.cons (.st (.cons (.int .i64 m0) (.cons (.int .i64 m0_2) (.cons (.int .i64 m0_3) (.cons (.int .i64 m0_4) (.int .i64 m0_5)))))) (.cons (.row 1) (.cons (.row 2) (.cons (.int .i64 m0_6) (.cons (.int .i64 m0_7) (.row 3)))))))), (.row 49 (.st (.pair (.int .i64) (.pair (.int .i64) (.pair (.int .i64) (.pair (.int .i64) (.int .i64)))))) m1), (.row 3 (.int .i64) m2), (.row 29 (.st (.pair (.int .i64) (.pair (.int .i64) (.pair (.int .i64) (.pair (.int .i64) (.pair (.int .i64) (.pair (.int .i64) .bool))))))) m3), (.box 55 (.st (.cons (.int .i64 (l.getD x.toNat ((0 : Int), (0 : Int))).1) (.int .i64 (l.getD x.toNat ((0 : Int), (0 : Int))).2)))), (.sav (mkTs 35 [(4, (.ptr 0 [])), (13, (.sl (.st (.pair (.int .i64) (.int .i64))) l)), (14, (.int .i64 ((l.length : Nat) : Int))), (15, (.int .i64 x))]) fv64), (.box 55 (.st (.cons (.int .i64 (l.getD x.toNat ((0 : Int), (0 : Int))).1) (.int .i64 (l.getD x.toNat ((0 : Int), (0 : Int))).2)))), .dead]) ((True) ∧ (True)) (by kernel_rfl) (by kernel_rfl) ⟨trivial, trivial⟩ ?_
            refine KS.ofX ?_
            refine XS.reAny [5, 0, 1, 2, 3] (mkMask 70 [0, 63]) ((1 : Int), m0_7, m3) h ?_
            kernel_rfl
           ·have hq := (ai (ai tv (ai tv (ai tv (ai tv (ai tv (ai tv (ai (ai tv c26) (ai tv (ai tv (ai tv (ai tv (ai tv (ai tv (ai tv (ai tv (ai tv (ai tv (ai tv (ai tv tv))))))))))))))))))) (ai tv tv))
            refine TS.draw 19 [] [.none, .none, .none, .none, .none, .none, .dec false] (by kernel_rfl) ?_ ?_
            ·apply prop_of ?_ hq
             kernel_rfl
            refine XS.then ?_
            rcases bif_some h with ⟨c27, h⟩ | ⟨c28, h⟩
            ·refine TS.cond (decide (m0_2 > m0_3)) ?_ (fun hcz => ?_) (fun hcz => by rw [c27] at hcz; cases hcz)
             ·kernel_rfl
             refine TS.seq ?_
             have hq := (ai tv tv)
             refine TS.reg [] ?_ ?_
             ·apply prop_of ?_ hq
              kernel_rfl
             refine XS.then ?_
             refine TS.ret ?_
             refine XS.blockRet ?_
             refine XS.passR ?_
             refine XS.backR 7 (mkTs 70 [(0, (.ptr 0 []))]) (mkTs 70 [(0, (.ptr 0 [])), (63, (.int .i64 (1 : Int)))], [(.box 53 (.st (.cons (.st (.cons (.int .i64 m0) (.cons (.int .i64 m0_2) (.cons (.int .i64 m0_3) (.cons (.int .i64 m0_4) (.int .i64 m0_5)))))) (.cons (.row 1) (.cons (.row 2) (.cons (.int .i64 m0_6) (.cons (.int .i64 m0_7) (.row 3)))))))), (.row 49 (.st (.pair (.int .i64) (.pair (.int .i64) (.pair (.int .i64) (.pair (.int .i64) (.int .i64)))))) m1), (.row 3 (.int .i64) m2), (.row 29 (.st (.pair (.int .i64) (.pair (.int .i64) (.pair (.int .i64) (.pair (.int .i64) (.pair (.int .i64) (.pair (.int .i64) .bool))))))) m3), (.box 55 (.st (.cons (.int .i64 (l.getD x.toNat ((0 : Int), (0 : Int))).1) (.int .i64 (l.getD x.toNat ((0 : Int), (0 : Int))).2)))), (.sav (mkTs 35 [(4, (.ptr 0 [])), (13, (.sl (.st (.pair (.int .i64) (.int .i64))) l)), (14, (.int .i64 ((l.length : Nat) : Int))), (15, (.int .i64 x))]) fv64), (.box 55 (.st (.cons (.int .i64 (l.getD x.toNat ((0 : Int), (0 : Int))).1) (.int .i64 (l.getD x.toNat ((0 : Int), (0 : Int))).2)))), .dead]) ((True) ∧ (True)) (by kernel_rfl) (by kernel_rfl) ⟨trivial, trivial⟩ ?_
             refine KS.ofX ?_
             refine XS.reAny [5, 0, 1, 2, 3] (mkMask 70 [0, 63]) ((1 : Int), m0_7, m3) h ?_
             kernel_rfl
            ·refine TS.cond (decide (m0_2 > m0_3)) ?_ (fun hcz => by rw [c28] at hcz; cases hcz) (fun hcz => ?_)
             ·kernel_rfl
             refine TS.seq ?_
             rcases bif_some h with ⟨c29, h⟩ | ⟨c30, h⟩
             ·have hq := (ai (ai tv (ai tv (ai tv (ai tv (ai tv (ai tv (ai tv (ai tv (ai tv (ai tv (ai tv (ai tv (ai (ai tv c29) (ai tv tv)))))))))))))) (ai tv tv))
              refine TS.draw 31 [] [.none, .none, .none, .none, .none, .none, .none, .none, .none, .none, .none, .none, .dec true] (by kernel_rfl) ?_ ?_
              ·apply prop_of ?_ hq
               kernel_rfl
              refine XS.then ?_
              refine TS.yes ?_ ?_
              ·kernel_rfl
              refine TS.seq ?_
              have hq := (ai tv tv)
              refine TS.reg [] ?_ ?_
              ·apply prop_of ?_ hq
               kernel_rfl
              refine XS.then ?_
              refine TS.ret ?_
              refine XS.blockRet ?_
              refine XS.passR ?_
              refine XS.backR 7 (mkTs 70 [(0, (.ptr 0 []))]) (mkTs 70 [(0, (.ptr 0 [])), (63, (.int .i64 (2 : Int)))], [(.box 53 (.st (.cons (.st (.cons (.int .i64 m0) (.cons (.int .i64 m0_2) (.cons (.int .i64 m0_3) (.cons (.int .i64 m0_4) (.int .i64 m0_5)))))) (.cons (.row 1) (.cons (.row 2) (.cons (.int .i64 m0_6) (.cons (.int .i64 m0_7) (.row 3)))))))), (.row 49 (.st (.pair (.int .i64) (.pair (.int .i64) (.pair (.int .i64) (.pair (.int .i64) (.int .i64)))))) m1), (.row 3 (.int .i64) m2), (.row 29 (.st (.pair (.int .i64) (.pair (.int .i64) (.pair (.int .i64) (.pair (.int .i64) (.pair (.int .i64) (.pair (.int .i64) .bool))))))) m3), (.box 55 (.st (.cons (.int .i64 (l.getD x.toNat ((0 : Int), (0 : Int))).1) (.int .i64 (l.getD x.toNat ((0 : Int), (0 : Int))).2)))), (.sav (mkTs 35 [(4, (.ptr 0 [])), (13, (.sl (.st (.pair (.int .i64) (.int .i64))) l)), (14, (.int .i64 ((l.length : Nat) : Int))), (15, (.int .i64 x))]) fv64), (.box 55 (.st (.cons (.int .i64 (l.getD x.toNat ((0 : Int), (0 : Int))).1) (.int .i64 (l.getD x.toNat ((0 : Int), (0 : Int))).2)))), .dead]) ((True) ∧ (True)) (by kernel_rfl) (by kernel_rfl) ⟨trivial, trivial⟩ ?_
              refine KS.ofX ?_
              refine XS.reAny [5, 0, 1, 2, 3] (mkMask 70 [0, 63]) ((2 : Int), m0_7, m3) h ?_
              kernel_rfl
             ·have hq := (ai (ai tv (ai tv (ai tv (ai tv (ai tv (ai tv (ai tv (ai tv (ai tv (ai tv (ai tv (ai tv (ai (ai tv c30) (ai tv (ai tv (ai tv (ai tv (ai tv (ai tv (ai tv (ai tv (ai tv (ai tv (ai tv (ai tv (ai tv (ai tv (ai tv (ai tv (ai tv (ai tv tv))))))))))))))))))))))))))))))) (ai tv tv))
              refine TS.draw 31 [] [.none, .none, .none, .none, .none, .none, .none, .none, .none, .none, .none, .none, .dec false] (by kernel_rfl) ?_ ?_
              ·apply prop_of ?_ hq
               kernel_rfl
              refine XS.then ?_
              rcases bif_some h with ⟨c31, h⟩ | ⟨c32, h⟩
              ·refine TS.cond (decide ((IntKind.wrap .i64 (m0_7 + (IntKind.wrap .i64 (m0_5 * m0_4)))) > (512 : Int))) ?_ (fun hcz => ?_) (fun hcz => by rw [c31] at hcz; cases hcz)
               ·kernel_rfl
               refine TS.seq ?_
               have hq := (ai tv tv)
               refine TS.reg [] ?_ ?_
               ·apply prop_of ?_ hq
                kernel_rfl
               refine XS.then ?_
               refine TS.ret ?_
               refine XS.blockRet ?_
               refine XS.passR ?_
               refine XS.backR 7 (mkTs 70 [(0, (.ptr 0 []))]) (mkTs 70 [(0, (.ptr 0 [])), (63, (.int .i64 (2 : Int)))], [(.box 53 (.st (.cons (.st (.cons (.int .i64 m0) (.cons (.int .i64 m0_2) (.cons (.int .i64 m0_3) (.cons (.int .i64 m0_4) (.int .i64 m0_5)))))) (.cons (.row 1) (.cons (.row 2) (.cons (.int .i64 m0_6) (.cons (.int .i64 m0_7) (.row 3)))))))), (.row 49 (.st (.pair (.int .i64) (.pair (.int .i64) (.pair (.int .i64) (.pair (.int .i64) (.int .i64)))))) m1), (.row 3 (.int .i64) m2), (.row 29 (.st (.pair (.int .i64) (.pair (.int .i64) (.pair (.int .i64) (.pair (.int .i64) (.pair (.int .i64) (.pair (.int .i64) .bool))))))) m3), (.box 55 (.st (.cons (.int .i64 (l.getD x.toNat ((0 : Int), (0 : Int))).1) (.int .i64 (l.getD x.toNat ((0 : Int), (0 : Int))).2)))), (.sav (mkTs 35 [(4, (.ptr 0 [])), (13, (.sl (.st (.pair (.int .i64) (.int .i64))) l)), (14, (.int .i64 ((l.length : Nat) : Int))), (15, (.int .i64 x))]) fv64), (.box 55 (.st (.cons (.int .i64 (l.getD x.toNat ((0 : Int), (0 : Int))).1) (.int .i64 (l.getD x.toNat ((0 : Int), (0 : Int))).2)))), .dead]) ((True) ∧ (True)) (by kernel_rfl) (by kernel_rfl) ⟨trivial, trivial⟩ ?_
               refine KS.ofX ?_
               refine XS.reAny [5, 0, 1, 2, 3] (mkMask 70 [0, 63]) ((2 : Int), m0_7, m3) h ?_
               kernel_rfl
              ·refine TS.cond (decide ((IntKind.wrap .i64 (m0_7 + (IntKind.wrap .i64 (m0_5 * m0_4)))) > (512 : Int))) ?_ (fun hcz => by rw [c32] at hcz; cases hcz) (fun hcz => ?_)
               ·kernel_rfl
               refine TS.skip ?_
               refine XS.blockEnd ?_
               refine XS.then ?_
               refine TS.seq ?_
               refine TS.seq ?_
               have hq := (ai tv (ai tv (ai tv (ai tv (ai tv (ai tv tv))))))
               refine TS.reg [] ?_ ?_
               ·apply prop_of ?_ hq
                kernel_rfl
               refine XS.then ?_
               refine TS.block ?_
               refine TS.reLoop [5, 7, 0, 1, 2, 3] (mkMask 136 [0, 1, 64, 65]) (D := Int × Int × (List (Int × Int × Int × Int × Int × Int × Bool))) (fun d => match d with | (x_4, m2_3, m5) => (mkTs 136 [(0, (.ptr 2 [])), (1, (.int .i64 (l.getD x.toNat ((0 : Int), (0 : Int))).2)), (64, (.int .i64 m0_5)), (65, (.int .i64 x_4))], [(.sav (mkTs 35 [(4, (.ptr 2 [])), (13, (.sl (.st (.pair (.int .i64) (.int .i64))) l)), (14, (.int .i64 ((l.length : Nat) : Int))), (15, (.int .i64 x))]) fv64), (.sav (mkTs 70 [(0, (.ptr 2 []))]) fv71), (.box 53 (.st (.cons (.st (.cons (.int .i64 m0) (.cons (.int .i64 m0_2) (.cons (.int .i64 m0_3) (.cons (.int .i64 m0_4) (.int .i64 m0_5)))))) (.cons (.row 3) (.cons (.row 4) (.cons (.int .i64 m0_6) (.cons (.int .i64 m2_3) (.row 5)))))))), (.row 49 (.st (.pair (.int .i64) (.pair (.int .i64) (.pair (.int .i64) (.pair (.int .i64) (.int .i64)))))) m1), (.row 3 (.int .i64) m2), (.row 29 (.st (.pair (.int .i64) (.pair (.int .i64) (.pair (.int .i64) (.pair (.int .i64) (.pair (.int .i64) (.pair (.int .i64) .bool))))))) m5)])) (fun n' d => loopF (F6_l241 n (loopF (F6_l203 n l) n203) l x m0 m0_2 m0_3 m0_4 m0_5 m0_6 m1 m2) n' d = some r) n ((0 : Int), m0_7, m3) h ?_ (fun d => loopF_zero _ d r) ?_
               ·kernel_rfl
               ·rintro n241 ⟨x_4, m2_3, m5⟩ h
                replace h : (bif (decide (x_4 < m0_5)) then (bif (decide (((m2.length : Nat) : Int) > (0 : Int))) then (bif inb (if (IntKind.wrap .i64 (((m2.length : Nat) : Int) - (1 : Int))) < x_4 then (IntKind.wrap .i64 (((m2.length : Nat) : Int) - (1 : Int))) else x_4) m2.length then (F6_j242 n (loopF (F6_l241 n (loopF (F6_l203 n l) n203) l x m0 m0_2 m0_3 m0_4 m0_5 m0_6 m1 m2) n241) l x m0 m0_2 m0_3 m0_4 x_4 m2_3 m5 (m2.getD ((if (IntKind.wrap .i64 (((m2.length : Nat) : Int) - (1 : Int))) < x_4 then (IntKind.wrap .i64 (((m2.length : Nat) : Int) - (1 : Int))) else x_4).toNat) (0 : Int))) else none) else (F6_j242 n (loopF (F6_l241 n (loopF (F6_l203 n l) n203) l x m0 m0_2 m0_3 m0_4 m0_5 m0_6 m1 m2) n241) l x m0 m0_2 m0_3 m0_4 x_4 m2_3 m5 (0 : Int))) else (F6_j238 n (loopF (F6_l203 n l) n203) x m0 m0_2 m0_3 m0_4 m0_5 m0_6 m1 m2 ((0 : Int), m2_3, m5))) = some r := h
                refine TS.seq ?_
                have hq := (ai tv tv)
                refine TS.reg [] ?_ ?_
                ·apply prop_of ?_ hq
                 kernel_rfl
                refine XS.then ?_
                refine TS.seq ?_
                rcases bif_some h with ⟨c33, h⟩ | ⟨c34, h⟩
                ·refine TS.cond (decide (x_4 < m0_5)) ?_ (fun hcz => ?_) (fun hcz => by rw [c33] at hcz; cases hcz)
                 ·kernel_rfl
                 refine TS.skip ?_
                 refine XS.then ?_
                 refine TS.seq ?_
                 refine TS.block ?_
                 refine TS.seq ?_
                 have hq := (ai tv (ai tv tv))
                 refine TS.reg [] ?_ ?_
                 ·apply prop_of ?_ hq
                  kernel_rfl
                 refine XS.then ?_
                 refine TS.seq ?_
                 have hq := (ai tv tv)
                 refine TS.reg [] ?_ ?_
                 ·apply prop_of ?_ hq
                  kernel_rfl
                 refine XS.then ?_
                 refine TS.seq ?_
                 refine TS.seq ?_
                 have hq := (ai tv (ai tv (ai tv (ai tv (ai tv (ai tv tv))))))
                 refine TS.reg [] ?_ ?_
                 ·apply prop_of ?_ hq
                  kernel_rfl
                 refine XS.then ?_
                 refine TS.seq ?_
                 have hq := (ai tv (ai tv tv))
                 refine TS.reg [] ?_ ?_
                 ·apply prop_of ?_ hq
                  kernel_rfl
                 refine XS.then ?_
                 refine TS.cut (D := Int) (fun d => match d with | x_5 => (mkTs 136 [(0, (.ptr 2 [])), (1, (.int .i64 (l.getD x.toNat ((0 : Int), (0 : Int))).2)), (6, (.int .i64 x_5)), (64, (.int .i64 m0_5)), (65, (.int .i64 x_4))], [(.sav (mkTs 35 [(4, (.ptr 2 [])), (13, (.sl (.st (.pair (.int .i64) (.int .i64))) l)), (14, (.int .i64 ((l.length : Nat) : Int))), (15, (.int .i64 x))]) fv64), (.sav (mkTs 70 [(0, (.ptr 2 []))]) fv71), (.box 53 (.st (.cons (.st (.cons (.int .i64 m0) (.cons (.int .i64 m0_2) (.cons (.int .i64 m0_3) (.cons (.int .i64 m0_4) (.int .i64 m0_5)))))) (.cons (.row 3) (.cons (.row 4) (.cons (.int .i64 m0_6) (.cons (.int .i64 m2_3) (.row 5)))))))), (.row 49 (.st (.pair (.int .i64) (.pair (.int .i64) (.pair (.int .i64) (.pair (.int .i64) (.int .i64)))))) m1), (.row 3 (.int .i64) m2), (.row 29 (.st (.pair (.int .i64) (.pair (.int .i64) (.pair (.int .i64) (.pair (.int .i64) (.pair (.int .i64) (.pair (.int .i64) .bool))))))) m5)])) (fun d => F6_j242 n (loopF (F6_l241 n (loopF (F6_l203 n l) n203) l x m0 m0_2 m0_3 m0_4 m0_5 m0_6 m1 m2) n241) l x m0 m0_2 m0_3 m0_4 x_4 m2_3 m5 d = some r) ?_ ?_
                 ·rintro x_5 h
                  replace h : (bif (decide (m5.length + [(m2_3, (m0_4, (m0, (x_5, (m0_2, (m0_3, ((bitsI .and .i64 ((l.getD x.toNat ((0 : Int), (0 : Int))).2) (1 : Int)) == (1 : Int))))))))].length ≤ 2513169434916)) then ((loopF (F6_l241 n (loopF (F6_l203 n l) n203) l x m0 m0_2 m0_3 m0_4 m0_5 m0_6 m1 m2) n241) ((IntKind.wrap .i64 (x_4 + (1 : Int))), (IntKind.wrap .i64 (m2_3 + m0_4)), (m5 ++ [(m2_3, (m0_4, (m0, (x_5, (m0_2, (m0_3, ((bitsI .and .i64 ((l.getD x.toNat ((0 : Int), (0 : Int))).2) (1 : Int)) == (1 : Int))))))))]))) else none) = some r := h
                  refine XS.then ?_
                  refine TS.seq ?_
                  obtain ⟨t35, h⟩ := test_some h
                  have hq : ((True) ∧ ((True) ∧ ((True) ∧ ((True) ∧ ((True) ∧ ((True) ∧ ((True) ∧ ((True) ∧ ((True) ∧ ((True) ∧ ((True) ∧ ((True) ∧ ((True) ∧ ((True) ∧ ((True) ∧ ((True) ∧ ((True) ∧ ((True) ∧ ((True) ∧ ((True) ∧ ((True) ∧ ((True) ∧ ((True) ∧ ((True) ∧ ((True) ∧ ((True) ∧ ((True) ∧ ((True) ∧ ((True) ∧ ((True) ∧ ((True) ∧ ((True) ∧ ((True) ∧ (((True) ∧ ((True) ∧ ((True) ∧ ((True) ∧ ((True) ∧ ((True) ∧ ((True) ∧ (True)))))))) ∧ (((0 < 1 ∧ True) ∧ (True)) ∧ ((m5.length + [(m2_3, (m0_4, (m0, (x_5, (m0_2, (m0_3, ((bitsI .and .i64 ((l.getD x.toNat ((0 : Int), (0 : Int))).2) (1 : Int)) == (1 : Int))))))))].length ≤ 2513169434916) ∧ ((True) ∧ ((True) ∧ (True))))))))))))))))))))))))))))))))))))))) ∧ ((True) ∧ (True)) := ⟨⟨trivial, ⟨trivial, ⟨trivial, ⟨trivial, ⟨trivial, ⟨trivial, ⟨trivial, ⟨trivial, ⟨trivial, ⟨trivial, ⟨trivial, ⟨trivial, ⟨trivial, ⟨trivial, ⟨trivial, ⟨trivial, ⟨trivial, ⟨trivial, ⟨trivial, ⟨trivial, ⟨trivial, ⟨trivial, ⟨trivial, ⟨trivial, ⟨trivial, ⟨trivial, ⟨trivial, ⟨trivial, ⟨trivial, ⟨trivial, ⟨trivial, ⟨trivial, ⟨trivial, ⟨⟨trivial, ⟨trivial, ⟨trivial, ⟨trivial, ⟨trivial, ⟨trivial, ⟨trivial, trivial⟩⟩⟩⟩⟩⟩⟩, ⟨⟨⟨by decide, trivial⟩, trivial⟩, ⟨of_decide_eq_true t35, ⟨trivial, ⟨trivial, trivial⟩⟩⟩⟩⟩⟩⟩⟩⟩⟩⟩⟩⟩⟩⟩⟩⟩⟩⟩⟩⟩⟩⟩⟩⟩⟩⟩⟩⟩⟩⟩⟩⟩⟩⟩⟩⟩⟩, ⟨trivial, trivial⟩⟩
                  refine TS.draw 38 [(35, 5)] [] (by kernel_rfl) ?_ ?_
                  ·apply prop_of ?_ hq
                   kernel_rfl
                  refine XS.then ?_
                  have hq := (ai (ai tv (ai tv (ai tv (ai tv (ai tv (ai tv (ai tv (ai tv (ai tv (ai tv (ai tv (ai tv tv)))))))))))) (ai tv tv))
                  refine TS.draw 12 [] [] (by kernel_rfl) ?_ ?_
                  ·apply prop_of ?_ hq
                   kernel_rfl
                  refine XS.blockEnd ?_
                  refine XS.then ?_
                  have hq := (ai tv (ai tv tv))
                  refine TS.reg [] ?_ ?_
                  ·apply prop_of ?_ hq
                   kernel_rfl
                  refine XS.reAny [0, 1, 2, 3, 4, 7] (mkMask 136 [0, 1, 64, 65]) ((IntKind.wrap .i64 (x_4 + (1 : Int))), (IntKind.wrap .i64 (m2_3 + m0_4)), (m5 ++ [(m2_3, (m0_4, (m0, (x_5, (m0_2, (m0_3, ((bitsI .and .i64 ((l.getD x.toNat ((0 : Int), (0 : Int))).2) (1 : Int)) == (1 : Int))))))))])) h ?_
                  kernel_rfl
                 ·rcases bif_some h with ⟨c36, h⟩ | ⟨c37, h⟩
                  ·refine TS.cond (decide (((m2.length : Nat) : Int) > (0 : Int))) ?_ (fun hcz => ?_) (fun hcz => by rw [c36] at hcz; cases hcz)
                   ·kernel_rfl
                   obtain ⟨t38, h⟩ := test_some h
                   have hq : (True) ∧ ((True) ∧ ((True) ∧ ((True) ∧ ((True) ∧ ((True) ∧ ((True) ∧ ((True) ∧ ((inR (if (IntKind.wrap .i64 (((m2.length : Nat) : Int) - (1 : Int))) < x_4 then (IntKind.wrap .i64 (((m2.length : Nat) : Int) - (1 : Int))) else x_4) m2.length) ∧ ((((if (IntKind.wrap .i64 (((m2.length : Nat) : Int) - (1 : Int))) < x_4 then (IntKind.wrap .i64 (((m2.length : Nat) : Int) - (1 : Int))) else x_4).toNat) < m2.length ∧ (True)) ∧ ((True) ∧ (True))))))))))) := ⟨trivial, ⟨trivial, ⟨trivial, ⟨trivial, ⟨trivial, ⟨trivial, ⟨trivial, ⟨trivial, ⟨inb_ok t38, ⟨⟨inR_lt (inb_ok t38), trivial⟩, ⟨trivial, trivial⟩⟩⟩⟩⟩⟩⟩⟩⟩⟩⟩
                   refine TS.reg [] ?_ ?_
                   ·apply prop_of ?_ hq
                    kernel_rfl
                   refine XS.reAny [0, 1, 2, 3, 4, 5] (mkMask 136 [0, 1, 6, 64, 65]) (m2.getD ((if (IntKind.wrap .i64 (((m2.length : Nat) : Int) - (1 : Int))) < x_4 then (IntKind.wrap .i64 (((m2.length : Nat) : Int) - (1 : Int))) else x_4).toNat) (0 : Int)) h ?_
                   kernel_rfl
                  ·refine TS.cond (decide (((m2.length : Nat) : Int) > (0 : Int))) ?_ (fun hcz => by rw [c37] at hcz; cases hcz) (fun hcz => ?_)
                   ·kernel_rfl
                   refine TS.skip ?_
                   refine XS.reAny [0, 1, 2, 3, 4, 5] (mkMask 136 [0, 1, 6, 64, 65]) (0 : Int) h ?_
                   kernel_rfl
                ·refine TS.cond (decide (x_4 < m0_5)) ?_ (fun hcz => by rw [c34] at hcz; cases hcz) (fun hcz => ?_)
                 ·kernel_rfl
                 refine TS.exit ?_
                 refine XS.passE ?_
                 refine XS.passE ?_
                 refine XS.out ?_
                 refine XS.then ?_
                 refine TS.seq ?_
                 have hq := (ai tv tv)
                 refine TS.reg [] ?_ ?_
                 ·apply prop_of ?_ hq
                  kernel_rfl
                 refine XS.then ?_
                 refine TS.ret ?_
                 refine XS.backR 1 (mkTs 70 [(0, (.ptr 2 []))]) (mkTs 70 [(0, (.ptr 2 [])), (63, (.int .i64 (0 : Int)))], [(.sav (mkTs 35 [(4, (.ptr 2 [])), (13, (.sl (.st (.pair (.int .i64) (.int .i64))) l)), (14, (.int .i64 ((l.length : Nat) : Int))), (15, (.int .i64 x))]) fv64), .dead, (.box 53 (.st (.cons (.st (.cons (.int .i64 m0) (.cons (.int .i64 m0_2) (.cons (.int .i64 m0_3) (.cons (.int .i64 m0_4) (.int .i64 m0_5)))))) (.cons (.row 3) (.cons (.row 4) (.cons (.int .i64 m0_6) (.cons (.int .i64 m2_3) (.row 5)))))))), (.row 49 (.st (.pair (.int .i64) (.pair (.int .i64) (.pair (.int .i64) (.pair (.int .i64) (.int .i64)))))) m1), (.row 3 (.int .i64) m2), (.row 29 (.st (.pair (.int .i64) (.pair (.int .i64) (.pair (.int .i64) (.pair (.int .i64) (.pair (.int .i64) (.pair (.int .i64) .bool))))))) m5)]) ((True) ∧ (True)) (by kernel_rfl) (by kernel_rfl) ⟨trivial, trivial⟩ ?_
                 refine KS.ofX ?_
                 refine XS.reAny [0, 2, 3, 4, 5] (mkMask 70 [0, 63]) ((0 : Int), m2_3, m5) h ?_
                 kernel_rfl
         ·refine TS.cond ((l.getD x.toNat ((0 : Int), (0 : Int))).1 == (32 : Int)) ?_ (fun hcz => by rw [c22] at hcz; cases hcz) (fun hcz => ?_)
          ·kernel_rfl
          refine TS.seq ?_
          refine TS.opsOf ?_
          have hq := (ai tv (ai tv tv))
          refine TOS.run 2 [] (by kernel_rfl) ?_ ?_
          ·apply prop_of ?_ hq
           kernel_rfl
          refine TOS.call 30 (mkMask 70 [4]) Try.func30 rfl ?_
          intro fv72
          refine ⟨(mkTs 115 [(0, (.ptr 0 [])), (1, (.st (.cons (.int .i64 (l.getD x.toNat ((0 : Int), (0 : Int))).1) (.int .i64 (l.getD x.toNat ((0 : Int), (0 : Int))).2))))], [(.box 53 (.st (.cons (.st (.cons (.int .i64 m0) (.cons (.int .i64 m0_2) (.cons (.int .i64 m0_3) (.cons (.int .i64 m0_4) (.int .i64 m0_5)))))) (.cons (.row 1) (.cons (.row 2) (.cons (.int .i64 m0_6) (.cons (.int .i64 m0_7) (.row 3)))))))), (.row 49 (.st (.pair (.int .i64) (.pair (.int .i64) (.pair (.int .i64) (.pair (.int .i64) (.int .i64)))))) m1), (.row 3 (.int .i64) m2), (.row 29 (.st (.pair (.int .i64) (.pair (.int .i64) (.pair (.int .i64) (.pair (.int .i64) (.pair (.int .i64) (.pair (.int .i64) .bool))))))) m3), (.box 55 (.st (.cons (.int .i64 (l.getD x.toNat ((0 : Int), (0 : Int))).1) (.int .i64 (l.getD x.toNat ((0 : Int), (0 : Int))).2)))), (.sav (mkTs 35 [(4, (.ptr 0 [])), (13, (.sl (.st (.pair (.int .i64) (.int .i64))) l)), (14, (.int .i64 ((l.length : Nat) : Int))), (15, (.int .i64 x))]) fv64), (.box 55 (.st (.cons (.int .i64 (l.getD x.toNat ((0 : Int), (0 : Int))).1) (.int .i64 (l.getD x.toNat ((0 : Int), (0 : Int))).2)))), (.sav (mkTs 70 [(4, (.int .i64 (0 : Int)))]) fv72)]), by kernel_rfl, ?_⟩
          refine TS.seq ?_
          have hq := (ai tv (ai tv tv))
          refine TS.reg [] ?_ ?_
          ·apply prop_of ?_ hq
           kernel_rfl
          refine XS.then ?_
          refine TS.seq ?_
          refine TS.seq ?_
          have hq := (ai tv (ai tv tv))
          refine TS.reg [] ?_ ?_
          ·apply prop_of ?_ hq
           kernel_rfl
          refine XS.then ?_
          refine TS.block ?_
          refine TS.seq ?_
          have hq := (ai tv (ai tv tv))
          refine TS.reg [] ?_ ?_
          ·apply prop_of ?_ hq
           kernel_rfl
          refine XS.then ?_
          rcases bif_some h with ⟨c39, h⟩ | ⟨c40, h⟩
          ·refine TS.cond ((l.getD x.toNat ((0 : Int), (0 : Int))).1 == (1 : Int)) ?_ (fun hcz => ?_) (fun hcz => by rw [c39] at hcz; cases hcz)
           ·kernel_rfl
           have hq := (ai tv (ai tv (ai tv (ai tv (ai tv (ai tv (ai tv tv)))))))
           refine TS.reg [] ?_ ?_
           ·apply prop_of ?_ hq
            kernel_rfl
           refine XS.blockEnd ?_
           refine XS.then ?_
           refine TS.seq ?_
           have hq := (ai tv tv)
           refine TS.reg [] ?_ ?_
           ·apply prop_of ?_ hq
            kernel_rfl
           refine XS.then ?_
           refine TS.ret ?_
           refine XS.backR 7 (mkTs 70 [(4, (.int .i64 (0 : Int)))]) (mkTs 70 [(4, (.int .i64 (0 : Int))), (10, (.int .i64 (0 : Int)))], [(.box 53 (.st (.cons (.st (.cons (.int .i64 (l.getD x.toNat ((0 : Int), (0 : Int))).2) (.cons (.int .i64 m0_2) (.cons (.int .i64 m0_3) (.cons (.int .i64 m0_4) (.int .i64 m0_5)))))) (.cons (.row 1) (.cons (.row 2) (.cons (.int .i64 m0_6) (.cons (.int .i64 m0_7) (.row 3)))))))), (.row 49 (.st (.pair (.int .i64) (.pair (.int .i64) (.pair (.int .i64) (.pair (.int .i64) (.int .i64)))))) m1), (.row 3 (.int .i64) m2), (.row 29 (.st (.pair (.int .i64) (.pair (.int .i64) (.pair (.int .i64) (.pair (.int .i64) (.pair (.int .i64) (.pair (.int .i64) .bool))))))) m3), (.box 55 (.st (.cons (.int .i64 (l.getD x.toNat ((0 : Int), (0 : Int))).1) (.int .i64 (l.getD x.toNat ((0 : Int), (0 : Int))).2)))), (.sav (mkTs 35 [(4, (.ptr 0 [])), (13, (.sl (.st (.pair (.int .i64) (.int .i64))) l)), (14, (.int .i64 ((l.length : Nat) : Int))), (15, (.int .i64 x))]) fv64), (.box 55 (.st (.cons (.int .i64 (l.getD x.toNat ((0 : Int), (0 : Int))).1) (.int .i64 (l.getD x.toNat ((0 : Int), (0 : Int))).2)))), .dead, (.box 55 (.st (.cons (.int .i64 (l.getD x.toNat ((0 : Int), (0 : Int))).1) (.int .i64 (l.getD x.toNat ((0 : Int), (0 : Int))).2))))]) ((True) ∧ (True)) (by kernel_rfl) (by kernel_rfl) ⟨trivial, trivial⟩ ?_
           refine KS.opsOf ?_
           have hq := (ai tv tv)
           refine TOS.run 1 [] (by kernel_rfl) ?_ ?_
           ·apply prop_of ?_ hq
            kernel_rfl
           refine TOS.nil (by kernel_rfl) ?_
           refine XS.then ?_
           refine TS.ret ?_
           refine XS.blockRet ?_
           refine XS.passR ?_
           refine XS.passR ?_
           refine XS.backR 5 (mkTs 35 [(4, (.ptr 0 [])), (13, (.sl (.st (.pair (.int .i64) (.int .i64))) l)), (14, (.int .i64 ((l.length : Nat) : Int))), (15, (.int .i64 x))]) (mkTs 35 [(4, (.ptr 0 [])), (13, (.sl (.st (.pair (.int .i64) (.int .i64))) l)), (14, (.int .i64 ((l.length : Nat) : Int))), (15, (.int .i64 x)), (21, (.int .i64 (0 : Int)))], [(.box 53 (.st (.cons (.st (.cons (.int .i64 (l.getD x.toNat ((0 : Int), (0 : Int))).2) (.cons (.int .i64 m0_2) (.cons (.int .i64 m0_3) (.cons (.int .i64 m0_4) (.int .i64 m0_5)))))) (.cons (.row 1) (.cons (.row 2) (.cons (.int .i64 m0_6) (.cons (.int .i64 m0_7) (.row 3)))))))), (.row 49 (.st (.pair (.int .i64) (.pair (.int .i64) (.pair (.int .i64) (.pair (.int .i64) (.int .i64)))))) m1), (.row 3 (.int .i64) m2), (.row 29 (.st (.pair (.int .i64) (.pair (.int .i64) (.pair (.int .i64) (.pair (.int .i64) (.pair (.int .i64) (.pair (.int .i64) .bool))))))) m3), (.box 55 (.st (.cons (.int .i64 (l.getD x.toNat ((0 : Int), (0 : Int))).1) (.int .i64 (l.getD x.toNat ((0 : Int), (0 : Int))).2)))), .dead, (.box 55 (.st (.cons (.int .i64 (l.getD x.toNat ((0 : Int), (0 : Int))).1) (.int .i64 (l.getD x.toNat ((0 : Int), (0 : Int))).2)))), .dead, (.box 55 (.st (.cons (.int .i64 (l.getD x.toNat ((0 : Int), (0 : Int))).1) (.int .i64 (l.getD x.toNat ((0 : Int), (0 : Int))).2))))]) ((True) ∧ (True)) (by kernel_rfl) (by kernel_rfl) ⟨trivial, trivial⟩ ?_
           refine KS.ofX ?_
           refine XS.reAny [0, 1, 2, 3] (mkMask 35 [4, 13, 14, 15, 21]) ((0 : Int), (l.getD x.toNat ((0 : Int), (0 : Int))).2, m0_2, m0_3, m0_4, m0_5, m0_6, m0_7, m1, m2, m3) h ?_
           kernel_rfl
          ·refine TS.cond ((l.getD x.toNat ((0 : Int), (0 : Int))).1 == (1 : Int)) ?_ (fun hcz => by rw [c40] at hcz; cases hcz) (fun hcz => ?_)
           ·kernel_rfl
           refine TS.seq ?_
           have hq := (ai tv (ai tv tv))
           refine TS.reg [] ?_ ?_
           ·apply prop_of ?_ hq
            kernel_rfl
           refine XS.then ?_
           rcases bif_some h with ⟨c41, h⟩ | ⟨c42, h⟩
           ·refine TS.cond ((l.getD x.toNat ((0 : Int), (0 : Int))).1 == (5 : Int)) ?_ (fun hcz => ?_) (fun hcz => by rw [c41] at hcz; cases hcz)
            ·kernel_rfl
            have hq := (ai tv (ai tv (ai tv (ai tv (ai tv (ai tv (ai tv tv)))))))
            refine TS.reg [] ?_ ?_
            ·apply prop_of ?_ hq
             kernel_rfl
            refine XS.blockEnd ?_
            refine XS.then ?_
            refine TS.seq ?_
            have hq := (ai tv tv)
            refine TS.reg [] ?_ ?_
            ·apply prop_of ?_ hq
             kernel_rfl
            refine XS.then ?_
            refine TS.ret ?_
            refine XS.backR 7 (mkTs 70 [(4, (.int .i64 (0 : Int)))]) (mkTs 70 [(4, (.int .i64 (0 : Int))), (10, (.int .i64 (0 : Int)))], [(.box 53 (.st (.cons (.st (.cons (.int .i64 m0) (.cons (.int .i64 (l.getD x.toNat ((0 : Int), (0 : Int))).2) (.cons (.int .i64 m0_3) (.cons (.int .i64 m0_4) (.int .i64 m0_5)))))) (.cons (.row 1) (.cons (.row 2) (.cons (.int .i64 m0_6) (.cons (.int .i64 m0_7) (.row 3)))))))), (.row 49 (.st (.pair (.int .i64) (.pair (.int .i64) (.pair (.int .i64) (.pair (.int .i64) (.int .i64)))))) m1), (.row 3 (.int .i64) m2), (.row 29 (.st (.pair (.int .i64) (.pair (.int .i64) (.pair (.int .i64) (.pair (.int .i64) (.pair (.int .i64) (.pair (.int .i64) .bool))))))) m3), (.box 55 (.st (.cons (.int .i64 (l.getD x.toNat ((0 : Int), (0 : Int))).1) (.int .i64 (l.getD x.toNat ((0 : Int), (0 : Int))).2)))), (.sav (mkTs 35 [(4, (.ptr 0 [])), (13, (.sl (.st (.pair (.int .i64) (.int .i64))) l)), (14, (.int .i64 ((l.length : Nat) : Int))), (15, (.int .i64 x))]) fv64), (.box 55 (.st (.cons (.int .i64 (l.getD x.toNat ((0 : Int), (0 : Int))).1) (.int .i64 (l.getD x.toNat ((0 : Int), (0 : Int))).2)))), .dead, (.box 55 (.st (.cons (.int .i64 (l.getD x.toNat ((0 : Int), (0 : Int))).1) (.int .i64 (l.getD x.toNat ((0 : Int), (0 : Int))).2))))]) ((True) ∧ (True)) (by kernel_rfl) (by kernel_rfl) ⟨trivial, trivial⟩ ?_
            refine KS.opsOf ?_
            have hq := (ai tv tv)
            refine TOS.run 1 [] (by kernel_rfl) ?_ ?_
            ·apply prop_of ?_ hq
             kernel_rfl
            refine TOS.nil (by kernel_rfl) ?_
            refine XS.then ?_
            refine TS.ret ?_
            refine XS.blockRet ?_
            refine XS.passR ?_
            refine XS.passR ?_
            refine XS.backR 5 (mkTs 35 [(4, (.ptr 0 [])), (13, (.sl (.st (.pair (.int .i64) (.int .i64))) l)), (14, (.int .i64 ((l.length : Nat) : Int))), (15, (.int .i64 x))]) (mkTs 35 [(4, (.ptr 0 [])), (13, (.sl (.st (.pair (.int .i64) (.int .i64))) l)), (14, (.int .i64 ((l.length : Nat) : Int))), (15, (.int .i64 x)), (21, (.int .i64 (0 : Int)))], [(.box 53 (.st (.cons (.st (.cons (.int .i64 m0) (.cons (.int .i64 (l.getD x.toNat ((0 : Int), (0 : Int))).2) (.cons (.int .i64 m0_3) (.cons (.int .i64 m0_4) (.int .i64 m0_5)))))) (.cons (.row 1) (.cons (.row 2) (.cons (.int .i64 m0_6) (.cons (.int .i64 m0_7) (.row 3)))))))), (.row 49 (.st (.pair (.int .i64) (.pair (.int .i64) (.pair (.int .i64) (.pair (.int .i64) (.int .i64)))))) m1), (.row 3 (.int .i64) m2), (.row 29 (.st (.pair (.int .i64) (.pair (.int .i64) (.pair (.int .i64) (.pair (.int .i64) (.pair (.int .i64) (.pair (.int .i64) .bool))))))) m3), (.box 55 (.st (.cons (.int .i64 (l.getD x.toNat ((0 : Int), (0 : Int))).1) (.int .i64 (l.getD x.toNat ((0 : Int), (0 : Int))).2)))), .dead, (.box 55 (.st (.cons (.int .i64 (l.getD x.toNat ((0 : Int), (0 : Int))).1) (.int .i64 (l.getD x.toNat ((0 : Int), (0 : Int))).2)))), .dead, (.box 55 (.st (.cons (.int .i64 (l.getD x.toNat ((0 : Int), (0 : Int))).1) (.int .i64 (l.getD x.toNat ((0 : Int), (0 : Int))).2))))]) ((True) ∧ (True)) (by kernel_rfl) (by kernel_rfl) ⟨trivial, trivial⟩ ?_
            refine KS.ofX ?_
            refine XS.reAny [0, 1, 2, 3] (mkMask 35 [4, 13, 14, 15, 21]) ((0 : Int), m0, (l.getD x.toNat ((0 : Int), (0 : Int))).2, m0_3, m0_4, m0_5, m0_6, m0_7, m1, m2, m3) h ?_
            kernel_rfl
           ·refine TS.cond ((l.getD x.toNat ((0 : Int), (0 : Int))).1 == (5 : Int)) ?_ (fun hcz => by rw [c42] at hcz; cases hcz) (fun hcz => ?_)
            ·kernel_rfl
            refine TS.seq ?_
            have hq := (ai tv (ai tv tv))
            refine TS.reg [] ?_ ?_
            ·apply prop_of ?_ hq
             kernel_rfl
            refine XS.then ?_
            rcases bif_some h with ⟨c43, h⟩ | ⟨c44, h⟩
            ·refine TS.cond ((l.getD x.toNat ((0 : Int), (0 : Int))).1 == (9 : Int)) ?_ (fun hcz => ?_) (fun hcz => by rw [c43] at hcz; cases hcz)
             ·kernel_rfl
             have hq := (ai tv (ai tv (ai tv (ai tv (ai tv (ai tv (ai tv tv)))))))
             refine TS.reg [] ?_ ?_
             ·apply prop_of ?_ hq
              kernel_rfl
             refine XS.blockEnd ?_
             refine XS.then ?_
             refine TS.seq ?_
             have hq := (ai tv tv)
             refine TS.reg [] ?_ ?_
             ·apply prop_of ?_ hq
              kernel_rfl
             refine XS.then ?_
             refine TS.ret ?_
             refine XS.backR 7 (mkTs 70 [(4, (.int .i64 (0 : Int)))]) (mkTs 70 [(4, (.int .i64 (0 : Int))), (10, (.int .i64 (0 : Int)))], [(.box 53 (.st (.cons (.st (.cons (.int .i64 m0) (.cons (.int .i64 m0_2) (.cons (.int .i64 (l.getD x.toNat ((0 : Int), (0 : Int))).2) (.cons (.int .i64 m0_4) (.int .i64 m0_5)))))) (.cons (.row 1) (.cons (.row 2) (.cons (.int .i64 m0_6) (.cons (.int .i64 m0_7) (.row 3)))))))), (.row 49 (.st (.pair (.int .i64) (.pair (.int .i64) (.pair (.int .i64) (.pair (.int .i64) (.int .i64)))))) m1), (.row 3 (.int .i64) m2), (.row 29 (.st (.pair (.int .i64) (.pair (.int .i64) (.pair (.int .i64) (.pair (.int .i64) (.pair (.int .i64) (.pair (.int .i64) .bool))))))) m3), (.box 55 (.st (.cons (.int .i64 (l.getD x.toNat ((0 : Int), (0 : Int))).1) (.int .i64 (l.getD x.toNat ((0 : Int), (0 : Int))).2)))), (.sav (mkTs 35 [(4, (.ptr 0 [])), (13, (.sl (.st (.pair (.int .i64) (.int .i64))) l)), (14, (.int .i64 ((l.length : Nat) : Int))), (15, (.int .i64 x))]) fv64), (.box 55 (.st (.cons (.int .i64 (l.getD x.toNat ((0 : Int), (0 : Int))).1) (.int .i64 (l.getD x.toNat ((0 : Int), (0 : Int))).2)))), .dead, (.box 55 (.st (.cons (.int .i64 (l.getD x.toNat ((0 : Int), (0 : Int))).1) (.int .i64 (l.getD x.toNat ((0 : Int), (0 : Int))).2))))]) ((True) ∧ (True)) (by kernel_rfl) (by kernel_rfl) ⟨trivial, trivial⟩ ?_
             refine KS.opsOf ?_
             have hq := (ai tv tv)
             refine TOS.run 1 [] (by kernel_rfl) ?_ ?_
             ·apply prop_of ?_ hq
              kernel_rfl
             refine TOS.nil (by kernel_rfl) ?_
             refine XS.then ?_
             refine TS.ret ?_
             refine XS.blockRet ?_
             refine XS.passR ?_
             refine XS.passR ?_
             refine XS.backR 5 (mkTs 35 [(4, (.ptr 0 [])), (13, (.sl (.st (.pair (.int .i64) (.int .i64))) l)), (14, (.int .i64 ((l.length : Nat) : Int))), (15, (.int .i64 x))]) (mkTs 35 [(4, (.ptr 0 [])), (13, (.sl (.st (.pair (.int .i64) (.int .i64))) l)), (14, (.int .i64 ((l.length : Nat) : Int))), (15, (.int .i64 x)), (21, (.int .i64 (0 : Int)))], [(.box 53 (.st (.cons (.st (.cons (.int .i64 m0) (.cons (.int .i64 m0_2) (.cons (.int .i64 (l.getD x.toNat ((0 : Int), (0 : Int))).2) (.cons (.int .i64 m0_4) (.int .i64 m0_5)))))) (.cons (.row 1) (.cons (.row 2) (.cons (.int .i64 m0_6) (.cons (.int .i64 m0_7) (.row 3)))))))), (.row 49 (.st (.pair (.int .i64) (.pair (.int .i64) (.pair (.int .i64) (.pair (.int .i64) (.int .i64)))))) m1), (.row 3 (.int .i64) m2), (.row 29 (.st (.pair (.int .i64) (.pair (.int .i64) (.pair (.int .i64) (.pair (.int .i64) (.pair (.int .i64) (.pair (.int .i64) .bool))))))) m3), (.box 55 (.st (.cons (.int .i64 (l.getD x.toNat ((0 : Int), (0 : Int))).1) (.int .i64 (l.getD x.toNat ((0 : Int), (0 : Int))).2)))), .dead, (.box 55 (.st (.cons (.int .i64 (l.getD x.toNat ((0 : Int), (0 : Int))).1) (.int .i64 (l.getD x.toNat ((0 : Int), (0 : Int))).2)))), .dead, (.box 55 (.st (.cons (.int .i64 (l.getD x.toNat ((0 : Int), (0 : Int))).1) (.int .i64 (l.getD x.toNat ((0 : Int), (0 : Int))).2))))]) ((True) ∧ (True)) (by kernel_rfl) (by kernel_rfl) ⟨trivial, trivial⟩ ?_
             refine KS.ofX ?_
             refine XS.reAny [0, 1, 2, 3] (mkMask 35 [4, 13, 14, 15, 21]) ((0 : Int), m0, m0_2, (l.getD x.toNat ((0 : Int), (0 : Int))).2, m0_4, m0_5, m0_6, m0_7, m1, m2, m3) h ?_
             kernel_rfl
            ·refine TS.cond ((l.getD x.toNat ((0 : Int), (0 : Int))).1 == (9 : Int)) ?_ (fun hcz => by rw [c44] at hcz; cases hcz) (fun hcz => ?_)
             ·kernel_rfl
             refine TS.seq ?_
             have hq := (ai tv (ai tv tv))
             refine TS.reg [] ?_ ?_
             ·apply prop_of ?_ hq
              kernel_rfl
             refine XS.then ?_
             rcases bif_some h with ⟨c45, h⟩ | ⟨c46, h⟩
             ·refine TS.cond ((l.getD x.toNat ((0 : Int), (0 : Int))).1 == (29 : Int)) ?_ (fun hcz => ?_) (fun hcz => by rw [c45] at hcz; cases hcz)
              ·kernel_rfl
              refine TS.seq ?_
              refine TS.seq ?_
              rcases bif_some h with ⟨c47, h⟩ | ⟨c48, h⟩
              ·have hq := (ai tv (ai tv (ai tv (ai (ai tv c47) (ai tv tv)))))
               refine TS.reg [.none, .none, .none, .dec true] ?_ ?_
               ·apply prop_of ?_ hq
                kernel_rfl
               refine XS.then ?_
               refine TS.yes ?_ ?_
               ·kernel_rfl
               refine TS.seq ?_
               have hq := (ai tv tv)
               refine TS.reg [] ?_ ?_
               ·apply prop_of ?_ hq
                kernel_rfl
               refine XS.then ?_
               refine TS.ret ?_
               refine XS.passR ?_
               refine XS.blockRet ?_
               refine XS.passR ?_
               refine XS.backR 7 (mkTs 70 [(4, (.int .i64 (0 : Int)))]) (mkTs 70 [(4, (.int .i64 (0 : Int))), (10, (.int .i64 (1 : Int)))], [(.box 53 (.st (.cons (.st (.cons (.int .i64 m0) (.cons (.int .i64 m0_2) (.cons (.int .i64 m0_3) (.cons (.int .i64 m0_4) (.int .i64 m0_5)))))) (.cons (.row 1) (.cons (.row 2) (.cons (.int .i64 m0_6) (.cons (.int .i64 m0_7) (.row 3)))))))), (.row 49 (.st (.pair (.int .i64) (.pair (.int .i64) (.pair (.int .i64) (.pair (.int .i64) (.int .i64)))))) m1), (.row 3 (.int .i64) m2), (.row 29 (.st (.pair (.int .i64) (.pair (.int .i64) (.pair (.int .i64) (.pair (.int .i64) (.pair (.int .i64) (.pair (.int .i64) .bool))))))) m3), (.box 55 (.st (.cons (.int .i64 (l.getD x.toNat ((0 : Int), (0 : Int))).1) (.int .i64 (l.getD x.toNat ((0 : Int), (0 : Int))).2)))), (.sav (mkTs 35 [(4, (.ptr 0 [])), (13, (.sl (.st (.pair (.int .i64) (.int .i64))) l)), (14, (.int .i64 ((l.length : Nat) : Int))), (15, (.int .i64 x))]) fv64), (.box 55 (.st (.cons (.int .i64 (l.getD x.toNat ((0 : Int), (0 : Int))).1) (.int .i64 (l.getD x.toNat ((0 : Int), (0 : Int))).2)))), .dead, (.box 55 (.st (.cons (.int .i64 (l.getD x.toNat ((0 : Int), (0 : Int))).1) (.int .i64 (l.getD x.toNat ((0 : Int), (0 : Int))).2))))]) ((True) ∧ (True)) (by kernel_rfl) (by kernel_rfl) ⟨trivial, trivial⟩ ?_
               refine KS.opsOf ?_
               have hq := (ai tv tv)
               refine TOS.run 1 [] (by kernel_rfl) ?_ ?_
               ·apply prop_of ?_ hq
                kernel_rfl
               refine TOS.nil (by kernel_rfl) ?_
               refine XS.then ?_
               refine TS.ret ?_
               refine XS.blockRet ?_
               refine XS.passR ?_
               refine XS.passR ?_
               refine XS.backR 5 (mkTs 35 [(4, (.ptr 0 [])), (13, (.sl (.st (.pair (.int .i64) (.int .i64))) l)), (14, (.int .i64 ((l.length : Nat) : Int))), (15, (.int .i64 x))]) (mkTs 35 [(4, (.ptr 0 [])), (13, (.sl (.st (.pair (.int .i64) (.int .i64))) l)), (14, (.int .i64 ((l.length : Nat) : Int))), (15, (.int .i64 x)), (21, (.int .i64 (1 : Int)))], [(.box 53 (.st (.cons (.st (.cons (.int .i64 m0) (.cons (.int .i64 m0_2) (.cons (.int .i64 m0_3) (.cons (.int .i64 m0_4) (.int .i64 m0_5)))))) (.cons (.row 1) (.cons (.row 2) (.cons (.int .i64 m0_6) (.cons (.int .i64 m0_7) (.row 3)))))))), (.row 49 (.st (.pair (.int .i64) (.pair (.int .i64) (.pair (.int .i64) (.pair (.int .i64) (.int .i64)))))) m1), (.row 3 (.int .i64) m2), (.row 29 (.st (.pair (.int .i64) (.pair (.int .i64) (.pair (.int .i64) (.pair (.int .i64) (.pair (.int .i64) (.pair (.int .i64) .bool))))))) m3), (.box 55 (.st (.cons (.int .i64 (l.getD x.toNat ((0 : Int), (0 : Int))).1) (.int .i64 (l.getD x.toNat ((0 : Int), (0 : Int))).2)))), .dead, (.box 55 (.st (.cons (.int .i64 (l.getD x.toNat ((0 : Int), (0 : Int))).1) (.int .i64 (l.getD x.toNat ((0 : Int), (0 : Int))).2)))), .dead, (.box 55 (.st (.cons (.int .i64 (l.getD x.toNat ((0 : Int), (0 : Int))).1) (.int .i64 (l.getD x.toNat ((0 : Int), (0 : Int))).2))))]) ((True) ∧ (True)) (by kernel_rfl) (by kernel_rfl) ⟨trivial, trivial⟩ ?_
               refine KS.ofX ?_
               refine XS.reAny [0, 1, 2, 3] (mkMask 35 [4, 13, 14, 15, 21]) ((1 : Int), m0, m0_2, m0_3, m0_4, m0_5, m0_6, m0_7, m1, m2, m3) h ?_
               kernel_rfl
              ·have hq := (ai tv (ai tv (ai tv (ai (ai tv c48) (ai tv (ai tv (ai tv (ai tv tv))))))))
               refine TS.reg [.none, .none, .none, .dec false] ?_ ?_
               ·apply prop_of ?_ hq
                kernel_rfl
               refine XS.then ?_
               rcases bif_some h with ⟨c49, h⟩ | ⟨c50, h⟩
               ·refine TS.cond (decide ((l.getD x.toNat ((0 : Int), (0 : Int))).2 > (32 : Int))) ?_ (fun hcz => ?_) (fun hcz => by rw [c49] at hcz; cases hcz)
                ·kernel_rfl
                refine TS.seq ?_
                have hq := (ai tv tv)
                refine TS.reg [] ?_ ?_
                ·apply prop_of ?_ hq
                 kernel_rfl
                refine XS.then ?_
                refine TS.ret ?_
                refine XS.passR ?_
                refine XS.blockRet ?_
                refine XS.passR ?_
                refine XS.backR 7 (mkTs 70 [(4, (.int .i64 (0 : Int)))]) (mkTs 70 [(4, (.int .i64 (0 : Int))), (10, (.int .i64 (1 : Int)))], [(.box 53 (.st (.cons (.st (.cons (.int .i64 m0) (.cons (.int .i64 m0_2) (.cons (.int .i64 m0_3) (.cons (.int .i64 m0_4) (.int .i64 m0_5)))))) (.cons (.row 1) (.cons (.row 2) (.cons (.int .i64 m0_6) (.cons (.int .i64 m0_7) (.row 3)))))))), (.row 49 (.st (.pair (.int .i64) (.pair (.int .i64) (.pair (.int .i64) (.pair (.int .i64) (.int .i64)))))) m1), (.row 3 (.int .i64) m2), (.row 29 (.st (.pair (.int .i64) (.pair (.int .i64) (.pair (.int .i64) (.pair (.int .i64) (.pair (.int .i64) (.pair (.int .i64) .bool))))))) m3), (.box 55 (.st (.cons (.int .i64 (l.getD x.toNat ((0 : Int), (0 : Int))).1) (.int .i64 (l.getD x.toNat ((0 : Int), (0 : Int))).2)))), (.sav (mkTs 35 [(4, (.ptr 0 [])), (13, (.sl (.st (.pair (.int .i64) (.int .i64))) l)), (14, (.int .i64 ((l.length : Nat) : Int))), (15, (.int .i64 x))]) fv64), (.box 55 (.st (.cons (.int .i64 (l.getD x.toNat ((0 : Int), (0 : Int))).1) (.int .i64 (l.getD x.toNat ((0 : Int), (0 : Int))).2)))), .dead, (.box 55 (.st (.cons (.int .i64 (l.getD x.toNat ((0 : Int), (0 : Int))).1) (.int .i64 (l.getD x.toNat ((0 : Int), (0 : Int))).2))))]) ((True) ∧ (True)) (by kernel_rfl) (by kernel_rfl) ⟨trivial, trivial⟩ ?_
                refine KS.opsOf ?_
                have hq := (ai tv tv)
                refine TOS.run 1 [] (by kernel_rfl) ?_ ?_
                ·apply prop_of ?_ hq
                 kernel_rfl
                refine TOS.nil (by kernel_rfl) ?_
                refine XS.then ?_
                refine TS.ret ?_
                refine XS.blockRet ?_
                refine XS.passR ?_
                refine XS.passR ?_
                refine XS.backR 5 (mkTs 35 [(4, (.ptr 0 [])), (13, (.sl (.st (.pair (.int .i64) (.int .i64))) l)), (14, (.int .i64 ((l.length : Nat) : Int))), (15, (.int .i64 x))]) (mkTs 35 [(4, (.ptr 0 [])), (13, (.sl (.st (.pair (.int .i64) (.int .i64))) l)), (14, (.int .i64 ((l.length : Nat) : Int))), (15, (.int .i64 x)), (21, (.int .i64 (1 : Int)))], [(.box 53 (.st (.cons (.st (.cons (.int .i64 m0) (.cons (.int .i64 m0_2) (.cons (.int .i64 m0_3) (.cons (.int .i64 m0_4) (.int .i64 m0_5)))))) (.cons (.row 1) (.cons (.row 2) (.cons (.int .i64 m0_6) (.cons (.int .i64 m0_7) (.row 3)))))))), (.row 49 (.st (.pair (.int .i64) (.pair (.int .i64) (.pair (.int .i64) (.pair (.int .i64) (.int .i64)))))) m1), (.row 3 (.int .i64) m2), (.row 29 (.st (.pair (.int .i64) (.pair (.int .i64) (.pair (.int .i64) (.pair (.int .i64) (.pair (.int .i64) (.pair (.int .i64) .bool))))))) m3), (.box 55 (.st (.cons (.int .i64 (l.getD x.toNat ((0 : Int), (0 : Int))).1) (.int .i64 (l.getD x.toNat ((0 : Int), (0 : Int))).2)))), .dead, (.box 55 (.st (.cons (.int .i64 (l.getD x.toNat ((0 : Int), (0 : Int))).1) (.int .i64 (l.getD x.toNat ((0 : Int), (0 : Int))).2)))), .dead, (.box 55 (.st (.cons (.int .i64 (l.getD x.toNat ((0 : Int), (0 : Int))).1) (.int .i64 (l.getD x.toNat ((0 : Int), (0 : Int))).2))))]) ((True) ∧ (True)) (by kernel_rfl) (by kernel_rfl) ⟨trivial, trivial⟩ ?_
                refine KS.ofX ?_
                refine XS.reAny [0, 1, 2, 3] (mkMask 35 [4, 13, 14, 15, 21]) ((1 : Int), m0, m0_2, m0_3, m0_4, m0_5, m0_6, m0_7, m1, m2, m3) h ?_
                kernel_rfl
               ·refine TS.cond (decide ((l.getD x.toNat ((0 : Int), (0 : Int))).2 > (32 : Int))) ?_ (fun hcz => by rw [c50] at hcz; cases hcz) (fun hcz => ?_)
                ·kernel_rfl
                refine TS.skip ?_
                refine XS.then ?_
                have hq := (ai tv (ai tv (ai tv (ai tv (ai tv (ai tv (ai tv tv)))))))
                refine TS.reg [] ?_ ?_
                ·apply prop_of ?_ hq
                 kernel_rfl
                refine XS.blockEnd ?_
                refine XS.then ?_
                refine TS.seq ?_
                have hq := (ai tv tv)
                refine TS.reg [] ?_ ?_
                ·apply prop_of ?_ hq
                 kernel_rfl
                refine XS.then ?_
                refine TS.ret ?_
                refine XS.backR 7 (mkTs 70 [(4, (.int .i64 (0 : Int)))]) (mkTs 70 [(4, (.int .i64 (0 : Int))), (10, (.int .i64 (0 : Int)))], [(.box 53 (.st (.cons (.st (.cons (.int .i64 m0) (.cons (.int .i64 m0_2) (.cons (.int .i64 m0_3) (.cons (.int .i64 (l.getD x.toNat ((0 : Int), (0 : Int))).2) (.int .i64 m0_5)))))) (.cons (.row 1) (.cons (.row 2) (.cons (.int .i64 m0_6) (.cons (.int .i64 m0_7) (.row 3)))))))), (.row 49 (.st (.pair (.int .i64) (.pair (.int .i64) (.pair (.int .i64) (.pair (.int .i64) (.int .i64)))))) m1), (.row 3 (.int .i64) m2), (.row 29 (.st (.pair (.int .i64) (.pair (.int .i64) (.pair (.int .i64) (.pair (.int .i64) (.pair (.int .i64) (.pair (.int .i64) .bool))))))) m3), (.box 55 (.st (.cons (.int .i64 (l.getD x.toNat ((0 : Int), (0 : Int))).1) (.int .i64 (l.getD x.toNat ((0 : Int), (0 : Int))).2)))), (.sav (mkTs 35 [(4, (.ptr 0 [])), (13, (.sl (.st (.pair (.int .i64) (.int .i64))) l)), (14, (.int .i64 ((l.length : Nat) : Int))), (15, (.int .i64 x))]) fv64), (.box 55 (.st (.cons (.int .i64 (l.getD x.toNat ((0 : Int), (0 : Int))).1) (.int .i64 (l.getD x.toNat ((0 : Int), (0 : Int))).2)))), .dead, (.box 55 (.st (.cons (.int .i64 (l.getD x.toNat ((0 : Int), (0 : Int))).1) (.int .i64 (l.getD x.toNat ((0 : Int), (0 : Int))).2))))]) ((True) ∧ (True)) (by kernel_rfl) (by kernel_rfl) ⟨trivial, trivial⟩ ?_
                refine KS.opsOf ?_
                have hq := (ai tv tv)
                refine TOS.run 1 [] (by kernel_rfl) ?_ ?_
                ·apply prop_of ?_ hq
                 kernel_rfl
                refine TOS.nil (by kernel_rfl) ?_
                refine XS.then ?_
                refine TS.ret ?_
                refine XS.blockRet ?_
                refine XS.passR ?_
                refine XS.passR ?_
                refine XS.backR 5 (mkTs 35 [(4, (.ptr 0 [])), (13, (.sl (.st (.pair (.int .i64) (.int .i64))) l)), (14, (.int .i64 ((l.length : Nat) : Int))), (15, (.int .i64 x))]) (mkTs 35 [(4, (.ptr 0 [])), (13, (.sl (.st (.pair (.int .i64) (.int .i64))) l)), (14, (.int .i64 ((l.length : Nat) : Int))), (15, (.int .i64 x)), (21, (.int .i64 (0 : Int)))], [(.box 53 (.st (.cons (.st (.cons (.int .i64 m0) (.cons (.int .i64 m0_2) (.cons (.int .i64 m0_3) (.cons (.int .i64 (l.getD x.toNat ((0 : Int), (0 : Int))).2) (.int .i64 m0_5)))))) (.cons (.row 1) (.cons (.row 2) (.cons (.int .i64 m0_6) (.cons (.int .i64 m0_7) (.row 3)))))))), (.row 49 (.st (.pair (.int .i64) (.pair (.int .i64) (.pair (.int .i64) (.pair (.int .i64) (.int .i64)))))) m1), (.row 3 (.int .i64) m2), (.row 29 (.st (.pair (.int .i64) (.pair (.int .i64) (.pair (.int .i64) (.pair (.int .i64) (.pair (.int .i64) (.pair (.int .i64) .bool))))))) m3), (.box 55 (.st (.cons (.int .i64 (l.getD x.toNat ((0 : Int), (0 : Int))).1) (.int .i64 (l.getD x.toNat ((0 : Int), (0 : Int))).2)))), .dead, (.box 55 (.st (.cons (.int .i64 (l.getD x.toNat ((0 : Int), (0 : Int))).1) (.int .i64 (l.getD x.toNat ((0 : Int), (0 : Int))).2)))), .dead, (.box 55 (.st (.cons (.int .i64 (l.getD x.toNat ((0 : Int), (0 : Int))).1) (.int .i64 (l.getD x.toNat ((0 : Int), (0 : Int))).2))))]) ((True) ∧ (True)) (by kernel_rfl) (by kernel_rfl) ⟨trivial, trivial⟩ ?_
                refine KS.ofX ?_
                refine XS.reAny [0, 1, 2, 3] (mkMask 35 [4, 13, 14, 15, 21]) ((0 : Int), m0, m0_2, m0_3, (l.getD x.toNat ((0 : Int), (0 : Int))).2, m0_5, m0_6, m0_7, m1, m2, m3) h ?_
                kernel_rfl
             ·refine TS.cond ((l.getD x.toNat ((0 : Int), (0 : Int))).1 == (29 : Int)) ?_ (fun hcz => by rw [c46] at hcz; cases hcz) (fun hcz => ?_)
              ·kernel_rfl
              refine TS.seq ?_
              have hq := (ai tv (ai tv tv))
              refine TS.reg [] ?_ ?_
              ·apply prop_of ?_ hq
               kernel_rfl
              refine XS.then ?_
              rcases bif_some h with ⟨c51, h⟩ | ⟨c52, h⟩
              ·refine TS.cond ((l.getD x.toNat ((0 : Int), (0 : Int))).1 == (37 : Int)) ?_ (fun hcz => ?_) (fun hcz => by rw [c51] at hcz; cases hcz)
               ·kernel_rfl
               refine TS.seq ?_
               refine TS.seq ?_
               rcases bif_some h with ⟨c53, h⟩ | ⟨c54, h⟩
               ·have hq := (ai tv (ai tv (ai tv (ai (ai tv c53) (ai tv tv)))))
                refine TS.reg [.none, .none, .none, .dec true] ?_ ?_
                ·apply prop_of ?_ hq
                 kernel_rfl
                refine XS.then ?_
                refine TS.yes ?_ ?_
                ·kernel_rfl
                refine TS.seq ?_
                have hq := (ai tv tv)
                refine TS.reg [] ?_ ?_
                ·apply prop_of ?_ hq
                 kernel_rfl
                refine XS.then ?_
                refine TS.ret ?_
                refine XS.passR ?_
                refine XS.blockRet ?_
                refine XS.passR ?_
                refine XS.backR 7 (mkTs 70 [(4, (.int .i64 (0 : Int)))]) (mkTs 70 [(4, (.int .i64 (0 : Int))), (10, (.int .i64 (1 : Int)))], [(.box 53 (.st (.cons (.st (.cons (.int .i64 m0) (.cons (.int .i64 m0_2) (.cons (.int .i64 m0_3) (.cons (.int .i64 m0_4) (.int .i64 m0_5)))))) (.cons (.row 1) (.cons (.row 2) (.cons (.int .i64 m0_6) (.cons (.int .i64 m0_7) (.row 3)))))))), (.row 49 (.st (.pair (.int .i64) (.pair (.int .i64) (.pair (.int .i64) (.pair (.int .i64) (.int .i64)))))) m1), (.row 3 (.int .i64) m2), (.row 29 (.st (.pair (.int .i64) (.pair (.int .i64) (.pair (.int .i64) (.pair (.int .i64) (.pair (.int .i64) (.pair (.int .i64) .bool))))))) m3), (.box 55 (.st (.cons (.int .i64 (l.getD x.toNat ((0 : Int), (0 : Int))).1) (.int .i64 (l.getD x.toNat ((0 : Int), (0 : Int))).2)))), (.sav (mkTs 35 [(4, (.ptr 0 [])), (13, (.sl (.st (.pair (.int .i64) (.int .i64))) l)), (14, (.int .i64 ((l.length : Nat) : Int))), (15, (.int .i64 x))]) fv64), (.box 55 (.st (.cons (.int .i64 (l.getD x.toNat ((0 : Int), (0 : Int))).1) (.int .i64 (l.getD x.toNat ((0 : Int), (0 : Int))).2)))), .dead, (.box 55 (.st (.cons (.int .i64 (l.getD x.toNat ((0 : Int), (0 : Int))).1) (.int .i64 (l.getD x.toNat ((0 : Int), (0 : Int))).2))))]) ((True) ∧ (True)) (by kernel_rfl) (by kernel_rfl) ⟨trivial, trivial⟩ ?_
                refine KS.opsOf ?_
                have hq := (ai tv tv)
                refine TOS.run 1 [] (by kernel_rfl) ?_ ?_
                ·apply prop_of ?_ hq
                 kernel_rfl
                refine TOS.nil (by kernel_rfl) ?_
                refine XS.then ?_
                refine TS.ret ?_
                refine XS.blockRet ?_
                refine XS.passR ?_
                refine XS.passR ?_
                refine XS.backR 5 (mkTs 35 [(4, (.ptr 0 [])), (13, (.sl (.st (.pair (.int .i64) (.int .i64))) l)), (14, (.int .i64 ((l.length : Nat) : Int))), (15, (.int .i64 x))]) (mkTs 35 [(4, (.ptr 0 [])), (13, (.sl (.st (.pair (.int .i64) (.int .i64))) l)), (14, (.int .i64 ((l.length : Nat) : Int))), (15, (.int .i64 x)), (21, (.int .i64 (1 : Int)))], [(.box 53 (.st (.cons (.st (.cons (.int .i64 m0) (.cons (.int .i64 m0_2) (.cons (.int .i64 m0_3) (.cons (.int .i64 m0_4) (.int .i64 m0_5)))))) (.cons (.row 1) (.cons (.row 2) (.cons (.int .i64 m0_6) (.cons (.int .i64 m0_7) (.row 3)))))))), (.row 49 (.st (.pair (.int .i64) (.pair (.int .i64) (.pair (.int .i64) (.pair (.int .i64) (.int .i64)))))) m1), (.row 3 (.int .i64) m2), (.row 29 (.st (.pair (.int .i64) (.pair (.int .i64) (.pair (.int .i64) (.pair (.int .i64) (.pair (.int .i64) (.pair (.int .i64) .bool))))))) m3), (.box 55 (.st (.cons (.int .i64 (l.getD x.toNat ((0 : Int), (0 : Int))).1) (.int .i64 (l.getD x.toNat ((0 : Int), (0 : Int))).2)))), .dead, (.box 55 (.st (.cons (.int .i64 (l.getD x.toNat ((0 : Int), (0 : Int))).1) (.int .i64 (l.getD x.toNat ((0 : Int), (0 : Int))).2)))), .dead, (.box 55 (.st (.cons (.int .i64 (l.getD x.toNat ((0 : Int), (0 : Int))).1) (.int .i64 (l.getD x.toNat ((0 : Int), (0 : Int))).2))))]) ((True) ∧ (True)) (by kernel_rfl) (by kernel_rfl) ⟨trivial, trivial⟩ ?_
                refine KS.ofX ?_
                refine XS.reAny [0, 1, 2, 3] (mkMask 35 [4, 13, 14, 15, 21]) ((1 : Int), m0, m0_2, m0_3, m0_4, m0_5, m0_6, m0_7, m1, m2, m3) h ?_
                kernel_rfl
               ·have hq := (ai tv (ai tv (ai tv (ai (ai tv c54) (ai tv (ai tv (ai tv (ai tv tv))))))))
                refine TS.reg [.none, .none, .none, .dec false] ?_ ?_
                ·apply prop_of ?_ hq
                 kernel_rfl
                refine XS.then ?_
                rcases bif_some h with ⟨c55, h⟩ | ⟨c56, h⟩
                ·refine TS.cond (decide ((l.getD x.toNat ((0 : Int), (0 : Int))).2 > (256 : Int))) ?_ (fun hcz => ?_) (fun hcz => by rw [c55] at hcz; cases hcz)
                 ·kernel_rfl
                 refine TS.seq ?_
                 have hq := (ai tv tv)
                 refine TS.reg [] ?_ ?_
                 ·apply prop_of ?_ hq
                  kernel_rfl
                 refine XS.then ?_
                 refine TS.ret ?_
                 refine XS.passR ?_
                 refine XS.blockRet ?_
                 refine XS.passR ?_
                 refine XS.backR 7 (mkTs 70 [(4, (.int .i64 (0 : Int)))]) (mkTs 70 [(4, (.int .i64 (0 : Int))), (10, (.int .i64 (1 : Int)))], [(.box 53 (.st (.cons (.st (.cons (.int .i64 m0) (.cons (.int .i64 m0_2) (.cons (.int .i64 m0_3) (.cons (.int .i64 m0_4) (.int .i64 m0_5)))))) (.cons (.row 1) (.cons (.row 2) (.cons (.int .i64 m0_6) (.cons (.int .i64 m0_7) (.row 3)))))))), (.row 49 (.st (.pair (.int .i64) (.pair (.int .i64) (.pair (.int .i64) (.pair (.int .i64) (.int .i64)))))) m1), (.row 3 (.int .i64) m2), (.row 29 (.st (.pair (.int .i64) (.pair (.int .i64) (.pair (.int .i64) (.pair (.int .i64) (.pair (.int .i64) (.pair (.int .i64) .bool))))))) m3), (.box 55 (.st (.cons (.int .i64 (l.getD x.toNat ((0 : Int), (0 : Int))).1) (.int .i64 (l.getD x.toNat ((0 : Int), (0 : Int))).2)))), (.sav (mkTs 35 [(4, (.ptr 0 [])), (13, (.sl (.st (.pair (.int .i64) (.int .i64))) l)), (14, (.int .i64 ((l.length : Nat) : Int))), (15, (.int .i64 x))]) fv64), (.box 55 (.st (.cons (.int .i64 (l.getD x.toNat ((0 : Int), (0 : Int))).1) (.int .i64 (l.getD x.toNat ((0 : Int), (0 : Int))).2)))), .dead, (.box 55 (.st (.cons (.int .i64 (l.getD x.toNat ((0 : Int), (0 : Int))).1) (.int .i64 (l.getD x.toNat ((0 : Int), (0 : Int))).2))))]) ((True) ∧ (True)) (by kernel_rfl) (by kernel_rfl) ⟨trivial, trivial⟩ ?_
                 refine KS.opsOf ?_
                 have hq := (ai tv tv)
                 refine TOS.run 1 [] (by kernel_rfl) ?_ ?_
                 ·apply prop_of ?_ hq
                  kernel_rfl
                 refine TOS.nil (by kernel_rfl) ?_
                 refine XS.then ?_
                 refine TS.ret ?_
                 refine XS.blockRet ?_
                 refine XS.passR ?_
                 refine XS.passR ?_
                 refine XS.backR 5 (mkTs 35 [(4, (.ptr 0 [])), (13, (.sl (.st (.pair (.int .i64) (.int .i64))) l)), (14, (.int .i64 ((l.length : Nat) : Int))), (15, (.int .i64 x))]) (mkTs 35 [(4, (.ptr 0 [])), (13, (.sl (.st (.pair (.int .i64) (.int .i64))) l)), (14, (.int .i64 ((l.length : Nat) : Int))), (15, (.int .i64 x)), (21, (.int .i64 (1 : Int)))], [(.box 53 (.st (.cons (.st (.cons (.int .i64 m0) (.cons (.int .i64 m0_2) (.cons (.int .i64 m0_3) (.cons (.int .i64 m0_4) (.int .i64 m0_5)))))) (.cons (.row 1) (.cons (.row 2) (.cons (.int .i64 m0_6) (.cons (.int .i64 m0_7) (.row 3)))))))), (.row 49 (.st (.pair (.int .i64) (.pair (.int .i64) (.pair (.int .i64) (.pair (.int .i64) (.int .i64)))))) m1), (.row 3 (.int .i64) m2), (.row 29 (.st (.pair (.int .i64) (.pair (.int .i64) (.pair (.int .i64) (.pair (.int .i64) (.pair (.int .i64) (.pair (.int .i64) .bool))))))) m3), (.box 55 (.st (.cons (.int .i64 (l.getD x.toNat ((0 : Int), (0 : Int))).1) (.int .i64 (l.getD x.toNat ((0 : Int), (0 : Int))).2)))), .dead, (.box 55 (.st (.cons (.int .i64 (l.getD x.toNat ((0 : Int), (0 : Int))).1) (.int .i64 (l.getD x.toNat ((0 : Int), (0 : Int))).2)))), .dead, (.box 55 (.st (.cons (.int .i64 (l.getD x.toNat ((0 : Int), (0 : Int))).1) (.int .i64 (l.getD x.toNat ((0 : Int), (0 : Int))).2))))]) ((True) ∧ (True)) (by kernel_rfl) (by kernel_rfl) ⟨trivial, trivial⟩ ?_
                 refine KS.ofX ?_
                 refine XS.reAny [0, 1, 2, 3] (mkMask 35 [4, 13, 14, 15, 21]) ((1 : Int), m0, m0_2, m0_3, m0_4, m0_5, m0_6, m0_7, m1, m2, m3) h ?_
                 kernel_rfl
                ·refine TS.cond (decide ((l.getD x.toNat ((0 : Int), (0 : Int))).2 > (256 : Int))) ?_ (fun hcz => by rw [c56] at hcz; cases hcz) (fun hcz => ?_)
                 ·kernel_rfl
                 refine TS.skip ?_
                 refine XS.then ?_
                 have hq := (ai tv (ai tv (ai tv (ai tv (ai tv (ai tv (ai tv tv)))))))
                 refine TS.reg [] ?_ ?_
                 ·apply prop_of ?_ hq
                  kernel_rfl
                 refine XS.blockEnd ?_
                 refine XS.then ?_
                 refine TS.seq ?_
                 have hq := (ai tv tv)
                 refine TS.reg [] ?_ ?_
                 ·apply prop_of ?_ hq
                  kernel_rfl
                 refine XS.then ?_
                 refine TS.ret ?_
                 refine XS.backR 7 (mkTs 70 [(4, (.int .i64 (0 : Int)))]) (mkTs 70 [(4, (.int .i64 (0 : Int))), (10, (.int .i64 (0 : Int)))], [(.box 53 (.st (.cons (.st (.cons (.int .i64 m0) (.cons (.int .i64 m0_2) (.cons (.int .i64 m0_3) (.cons (.int .i64 m0_4) (.int .i64 (l.getD x.toNat ((0 : Int), (0 : Int))).2)))))) (.cons (.row 1) (.cons (.row 2) (.cons (.int .i64 m0_6) (.cons (.int .i64 m0_7) (.row 3)))))))), (.row 49 (.st (.pair (.int .i64) (.pair (.int .i64) (.pair (.int .i64) (.pair (.int .i64) (.int .i64)))))) m1), (.row 3 (.int .i64) m2), (.row 29 (.st (.pair (.int .i64) (.pair (.int .i64) (.pair (.int .i64) (.pair (.int .i64) (.pair (.int .i64) (.pair (.int .i64) .bool))))))) m3), (.box 55 (.st (.cons (.int .i64 (l.getD x.toNat ((0 : Int), (0 : Int))).1) (.int .i64 (l.getD x.toNat ((0 : Int), (0 : Int))).2)))), (.sav (mkTs 35 [(4, (.ptr 0 [])), (13, (.sl (.st (.pair (.int .i64) (.int .i64))) l)), (14, (.int .i64 ((l.length : Nat) : Int))), (15, (.int .i64 x))]) fv64), (.box 55 (.st (.cons (.int .i64 (l.getD x.toNat ((0 : Int), (0 : Int))).1) (.int .i64 (l.getD x.toNat ((0 : Int), (0 : Int))).2)))), .dead, (.box 55 (.st (.cons (.int .i64 (l.getD x.toNat ((0 : Int), (0 : Int))).1) (.int .i64 (l.getD x.toNat ((0 : Int), (0 : Int))).2))))]) ((True) ∧ (True)) (by kernel_rfl) (by kernel_rfl) ⟨trivial, trivial⟩ ?_
                 refine KS.opsOf ?_
                 have hq := (ai tv tv)
                 refine TOS.run 1 [] (by kernel_rfl) ?_ ?_
                 ·apply prop_of ?_ hq
                  kernel_rfl
                 refine TOS.nil (by kernel_rfl) ?_
                 refine XS.then ?_
                 refine TS.ret ?_
                 refine XS.blockRet ?_
                 refine XS.passR ?_
                 refine XS.passR ?_
                 refine XS.backR 5 (mkTs 35 [(4, (.ptr 0 [])), (13, (.sl (.st (.pair (.int .i64) (.int .i64))) l)), (14, (.int .i64 ((l.length : Nat) : Int))), (15, (.int .i64 x))]) (mkTs 35 [(4, (.ptr 0 [])), (13, (.sl (.st (.pair (.int .i64) (.int .i64))) l)), (14, (.int .i64 ((l.length : Nat) : Int))), (15, (.int .i64 x)), (21, (.int .i64 (0 : Int)))], [(.box 53 (.st (.cons (.st (.cons (.int .i64 m0) (.cons (.int .i64 m0_2) (.cons (.int .i64 m0_3) (.cons (.int .i64 m0_4) (.int .i64 (l.getD x.toNat ((0 : Int), (0 : Int))).2)))))) (.cons (.row 1) (.cons (.row 2) (.cons (.int .i64 m0_6) (.cons (.int .i64 m0_7) (.row 3)))))))), (.row 49 (.st (.pair (.int .i64) (.pair (.int .i64) (.pair (.int .i64) (.pair (.int .i64) (.int .i64)))))) m1), (.row 3 (.int .i64) m2), (.row 29 (.st (.pair (.int .i64) (.pair (.int .i64) (.pair (.int .i64) (.pair (.int .i64) (.pair (.int .i64) (.pair (.int .i64) .bool))))))) m3), (.box 55 (.st (.cons (.int .i64 (l.getD x.toNat ((0 : Int), (0 : Int))).1) (.int .i64 (l.getD x.toNat ((0 : Int), (0 : Int))).2)))), .dead, (.box 55 (.st (.cons (.int .i64 (l.getD x.toNat ((0 : Int), (0 : Int))).1) (.int .i64 (l.getD x.toNat ((0 : Int), (0 : Int))).2)))), .dead, (.box 55 (.st (.cons (.int .i64 (l.getD x.toNat ((0 : Int), (0 : Int))).1) (.int .i64 (l.getD x.toNat ((0 : Int), (0 : Int))).2))))]) ((True) ∧ (True)) (by kernel_rfl) (by kernel_rfl) ⟨trivial, trivial⟩ ?_
                 refine KS.ofX ?_
                 refine XS.reAny [0, 1, 2, 3] (mkMask 35 [4, 13, 14, 15, 21]) ((0 : Int), m0, m0_2, m0_3, m0_4, (l.getD x.toNat ((0 : Int), (0 : Int))).2, m0_6, m0_7, m1, m2, m3) h ?_
                 kernel_rfl
              ·refine TS.cond ((l.getD x.toNat ((0 : Int), (0 : Int))).1 == (37 : Int)) ?_ (fun hcz => by rw [c52] at hcz; cases hcz) (fun hcz => ?_)
               ·kernel_rfl
               refine TS.seq ?_
               have hq := (ai tv (ai tv tv))
               refine TS.reg [] ?_ ?_
               ·apply prop_of ?_ hq
                kernel_rfl
               refine XS.then ?_
               rcases bif_some h with ⟨c57, h⟩ | ⟨c58, h⟩
               ·refine TS.cond ((l.getD x.toNat ((0 : Int), (0 : Int))).1 == (41 : Int)) ?_ (fun hcz => ?_) (fun hcz => by rw [c57] at hcz; cases hcz)
                ·kernel_rfl
                refine TS.seq ?_
                refine TS.seq ?_
                have hq := (ai tv (ai tv (ai tv (ai tv (ai tv (ai tv tv))))))
                refine TS.reg [] ?_ ?_
                ·apply prop_of ?_ hq
                 kernel_rfl
                refine XS.then ?_
                rcases bif_some h with ⟨c59, h⟩ | ⟨c60, h⟩
                ·refine TS.cond (((m1.length : Nat) : Int) == (4 : Int)) ?_ (fun hcz => ?_) (fun hcz => by rw [c59] at hcz; cases hcz)
                 ·kernel_rfl
                 refine TS.seq ?_
                 have hq := (ai tv tv)
                 refine TS.reg [] ?_ ?_
                 ·apply prop_of ?_ hq
                  kernel_rfl
                 refine XS.then ?_
                 refine TS.ret ?_
                 refine XS.passR ?_
                 refine XS.blockRet ?_
                 refine XS.passR ?_
                 refine XS.backR 7 (mkTs 70 [(4, (.int .i64 (0 : Int)))]) (mkTs 70 [(4, (.int .i64 (0 : Int))), (10, (.int .i64 (11 : Int)))], [(.box 53 (.st (.cons (.st (.cons (.int .i64 m0) (.cons (.int .i64 m0_2) (.cons (.int .i64 m0_3) (.cons (.int .i64 m0_4) (.int .i64 m0_5)))))) (.cons (.row 1) (.cons (.row 2) (.cons (.int .i64 m0_6) (.cons (.int .i64 m0_7) (.row 3)))))))), (.row 49 (.st (.pair (.int .i64) (.pair (.int .i64) (.pair (.int .i64) (.pair (.int .i64) (.int .i64)))))) m1), (.row 3 (.int .i64) m2), (.row 29 (.st (.pair (.int .i64) (.pair (.int .i64) (.pair (.int .i64) (.pair (.int .i64) (.pair (.int .i64) (.pair (.int .i64) .bool))))))) m3), (.box 55 (.st (.cons (.int .i64 (l.getD x.toNat ((0 : Int), (0 : Int))).1) (.int .i64 (l.getD x.toNat ((0 : Int), (0 : Int))).2)))), (.sav (mkTs 35 [(4, (.ptr 0 [])), (13, (.sl (.st (.pair (.int .i64) (.int .i64))) l)), (14, (.int .i64 ((l.length : Nat) : Int))), (15, (.int .i64 x))]) fv64), (.box 55 (.st (.cons (.int .i64 (l.getD x.toNat ((0 : Int), (0 : Int))).1) (.int .i64 (l.getD x.toNat ((0 : Int), (0 : Int))).2)))), .dead, (.box 55 (.st (.cons (.int .i64 (l.getD x.toNat ((0 : Int), (0 : Int))).1) (.int .i64 (l.getD x.toNat ((0 : Int), (0 : Int))).2))))]) ((True) ∧ (True)) (by kernel_rfl) (by kernel_rfl) ⟨trivial, trivial⟩ ?_
                 refine KS.opsOf ?_
                 have hq := (ai tv tv)
                 refine TOS.run 1 [] (by kernel_rfl) ?_ ?_
                 ·apply prop_of ?_ hq
                  kernel_rfl
                 refine TOS.nil (by kernel_rfl) ?_
                 refine XS.then ?_
                 refine TS.ret ?_
                 refine XS.blockRet ?_
                 refine XS.passR ?_
                 refine XS.passR ?_
                 refine XS.backR 5 (mkTs 35 [(4, (.ptr 0 [])), (13, (.sl (.st (.pair (.int .i64) (.int .i64))) l)), (14, (.int .i64 ((l.length : Nat) : Int))), (15, (.int .i64 x))]) (mkTs 35 [(4, (.ptr 0 [])), (13, (.sl (.st (.pair (.int .i64) (.int .i64))) l)), (14, (.int .i64 ((l.length : Nat) : Int))), (15, (.int .i64 x)), (21, (.int .i64 (11 : Int)))], [(.box 53 (.st (.cons (.st (.cons (.int .i64 m0) (.cons (.int .i64 m0_2) (.cons (.int .i64 m0_3) (.cons (.int .i64 m0_4) (.int .i64 m0_5)))))) (.cons (.row 1) (.cons (.row 2) (.cons (.int .i64 m0_6) (.cons (.int .i64 m0_7) (.row 3)))))))), (.row 49 (.st (.pair (.int .i64) (.pair (.int .i64) (.pair (.int .i64) (.pair (.int .i64) (.int .i64)))))) m1), (.row 3 (.int .i64) m2), (.row 29 (.st (.pair (.int .i64) (.pair (.int .i64) (.pair (.int .i64) (.pair (.int .i64) (.pair (.int .i64) (.pair (.int .i64) .bool))))))) m3), (.box 55 (.st (.cons (.int .i64 (l.getD x.toNat ((0 : Int), (0 : Int))).1) (.int .i64 (l.getD x.toNat ((0 : Int), (0 : Int))).2)))), .dead, (.box 55 (.st (.cons (.int .i64 (l.getD x.toNat ((0 : Int), (0 : Int))).1) (.int .i64 (l.getD x.toNat ((0 : Int), (0 : Int))).2)))), .dead, (.box 55 (.st (.cons (.int .i64 (l.getD x.toNat ((0 : Int), (0 : Int))).1) (.int .i64 (l.getD x.toNat ((0 : Int), (0 : Int))).2))))]) ((True) ∧ (True)) (by kernel_rfl) (by kernel_rfl) ⟨trivial, trivial⟩ ?_
                 refine KS.ofX ?_
                 refine XS.reAny [0, 1, 2, 3] (mkMask 35 [4, 13, 14, 15, 21]) ((11 : Int), m0, m0_2, m0_3, m0_4, m0_5, m0_6, m0_7, m1, m2, m3) h ?_
                 kernel_rfl
                ·refine TS.cond (((m1.length : Nat) : Int) == (4 : Int)) ?_ (fun hcz => by rw [c60] at hcz; cases hcz) (fun hcz => ?_)
                 ·kernel_rfl
                 refine TS.skip ?_
                 refine XS.then ?_
                 obtain ⟨t61, h⟩ := test_some h
                 have hq : ((True) ∧ ((True) ∧ ((True) ∧ ((True) ∧ ((True) ∧ ((True) ∧ ((True) ∧ ((True) ∧ ((True) ∧ (((0 < 1 ∧ True) ∧ (True)) ∧ ((m1.length + [(m0, (m0_2, (m0_3, (m0_4, m0_5))))].length ≤ 3518437208883) ∧ ((True) ∧ ((True) ∧ (True)))))))))))))) ∧ ((True) ∧ (True)) := ⟨⟨trivial, ⟨trivial, ⟨trivial, ⟨trivial, ⟨trivial, ⟨trivial, ⟨trivial, ⟨trivial, ⟨trivial, ⟨⟨⟨by decide, trivial⟩, trivial⟩, ⟨of_decide_eq_true t61, ⟨trivial, ⟨trivial, trivial⟩⟩⟩⟩⟩⟩⟩⟩⟩⟩⟩⟩⟩, ⟨trivial, trivial⟩⟩
                 refine TS.draw 13 [(10, 1)] [] (by kernel_rfl) ?_ ?_
                 ·apply prop_of ?_ hq
                  kernel_rfl
                 refine XS.blockEnd ?_
                 refine XS.then ?_
                 refine TS.seq ?_
                 have hq := (ai tv tv)
                 refine TS.reg [] ?_ ?_
                 ·apply prop_of ?_ hq
                  kernel_rfl
                 refine XS.then ?_
                 refine TS.ret ?_
                 refine XS.backR 7 (mkTs 70 [(4, (.int .i64 (0 : Int)))]) (mkTs 70 [(4, (.int .i64 (0 : Int))), (10, (.int .i64 (0 : Int)))], [(.box 53 (.st (.cons (.st (.cons (.int .i64 m0) (.cons (.int .i64 m0_2) (.cons (.int .i64 m0_3) (.cons (.int .i64 m0_4) (.int .i64 m0_5)))))) (.cons (.row 10) (.cons (.row 2) (.cons (.int .i64 m0_6) (.cons (.int .i64 m0_7) (.row 3)))))))), .dead, (.row 3 (.int .i64) m2), (.row 29 (.st (.pair (.int .i64) (.pair (.int .i64) (.pair (.int .i64) (.pair (.int .i64) (.pair (.int .i64) (.pair (.int .i64) .bool))))))) m3), (.box 55 (.st (.cons (.int .i64 (l.getD x.toNat ((0 : Int), (0 : Int))).1) (.int .i64 (l.getD x.toNat ((0 : Int), (0 : Int))).2)))), (.sav (mkTs 35 [(4, (.ptr 0 [])), (13, (.sl (.st (.pair (.int .i64) (.int .i64))) l)), (14, (.int .i64 ((l.length : Nat) : Int))), (15, (.int .i64 x))]) fv64), (.box 55 (.st (.cons (.int .i64 (l.getD x.toNat ((0 : Int), (0 : Int))).1) (.int .i64 (l.getD x.toNat ((0 : Int), (0 : Int))).2)))), .dead, (.box 55 (.st (.cons (.int .i64 (l.getD x.toNat ((0 : Int), (0 : Int))).1) (.int .i64 (l.getD x.toNat ((0 : Int), (0 : Int))).2)))), (.row 49 (.st (.pair (.int .i64) (.pair (.int .i64) (.pair (.int .i64) (.pair (.int .i64) (.int .i64)))))) [(m0, (m0_2, (m0_3, (m0_4, m0_5))))]), (.row 49 (.st (.pair (.int .i64) (.pair (.int .i64) (.pair (.int .i64) (.pair (.int .i64) (.int .i64)))))) (m1 ++ [(m0, (m0_2, (m0_3, (m0_4, m0_5))))]))]) ((True) ∧ (True)) (by kernel_rfl) (by kernel_rfl) ⟨trivial, trivial⟩ ?_
                 refine KS.opsOf ?_
                 have hq := (ai tv tv)
                 refine TOS.run 1 [] (by kernel_rfl) ?_ ?_
                 ·apply prop_of ?_ hq
                  kernel_rfl
                 refine TOS.nil (by kernel_rfl) ?_
                 refine XS.then ?_
                 refine TS.ret ?_
                 refine XS.blockRet ?_
                 refine XS.passR ?_
                 refine XS.passR ?_
                 refine XS.backR 5 (mkTs 35 [(4, (.ptr 0 [])), (13, (.sl (.st (.pair (.int .i64) (.int .i64))) l)), (14, (.int .i64 ((l.length : Nat) : Int))), (15, (.int .i64 x))]) (mkTs 35 [(4, (.ptr 0 [])), (13, (.sl (.st (.pair (.int .i64) (.int .i64))) l)), (14, (.int .i64 ((l.length : Nat) : Int))), (15, (.int .i64 x)), (21, (.int .i64 (0 : Int)))], [(.box 53 (.st (.cons (.st (.cons (.int .i64 m0) (.cons (.int .i64 m0_2) (.cons (.int .i64 m0_3) (.cons (.int .i64 m0_4) (.int .i64 m0_5)))))) (.cons (.row 10) (.cons (.row 2) (.cons (.int .i64 m0_6) (.cons (.int .i64 m0_7) (.row 3)))))))), .dead, (.row 3 (.int .i64) m2), (.row 29 (.st (.pair (.int .i64) (.pair (.int .i64) (.pair (.int .i64) (.pair (.int .i64) (.pair (.int .i64) (.pair (.int .i64) .bool))))))) m3), (.box 55 (.st (.cons (.int .i64 (l.getD x.toNat ((0 : Int), (0 : Int))).1) (.int .i64 (l.getD x.toNat ((0 : Int), (0 : Int))).2)))), .dead, (.box 55 (.st (.cons (.int .i64 (l.getD x.toNat ((0 : Int), (0 : Int))).1) (.int .i64 (l.getD x.toNat ((0 : Int), (0 : Int))).2)))), .dead, (.box 55 (.st (.cons (.int .i64 (l.getD x.toNat ((0 : Int), (0 : Int))).1) (.int .i64 (l.getD x.toNat ((0 : Int), (0 : Int))).2)))), (.row 49 (.st (.pair (.int .i64) (.pair (.int .i64) (.pair (.int .i64) (.pair (.int .i64) (.int .i64)))))) [(m0, (m0_2, (m0_3, (m0_4, m0_5))))]), (.row 49 (.st (.pair (.int .i64) (.pair (.int .i64) (.pair (.int .i64) (.pair (.int .i64) (.int .i64)))))) (m1 ++ [(m0, (m0_2, (m0_3, (m0_4, m0_5))))]))]) ((True) ∧ (True)) (by kernel_rfl) (by kernel_rfl) ⟨trivial, trivial⟩ ?_
                 refine KS.ofX ?_
                 refine XS.reAny [0, 10, 2, 3] (mkMask 35 [4, 13, 14, 15, 21]) ((0 : Int), m0, m0_2, m0_3, m0_4, m0_5, m0_6, m0_7, (m1 ++ [(m0, (m0_2, (m0_3, (m0_4, m0_5))))]), m2, m3) h ?_
                 kernel_rfl
               ·refine TS.cond ((l.getD x.toNat ((0 : Int), (0 : Int))).1 == (41 : Int)) ?_ (fun hcz => by rw [c58] at hcz; cases hcz) (fun hcz => ?_)
                ·kernel_rfl
                refine TS.seq ?_
                have hq := (ai tv (ai tv tv))
                refine TS.reg [] ?_ ?_
                ·apply prop_of ?_ hq
                 kernel_rfl
                refine XS.then ?_
                rcases bif_some h with ⟨c62, h⟩ | ⟨c63, h⟩
                ·refine TS.cond ((l.getD x.toNat ((0 : Int), (0 : Int))).1 == (45 : Int)) ?_ (fun hcz => ?_) (fun hcz => by rw [c62] at hcz; cases hcz)
                 ·kernel_rfl
                 refine TS.seq ?_
                 have hq := (ai tv (ai tv (ai tv (ai tv (ai tv (ai tv tv))))))
                 refine TS.reg [] ?_ ?_
                 ·apply prop_of ?_ hq
                  kernel_rfl
                 refine XS.then ?_
                 refine TS.seq ?_
                 refine TS.seq ?_
                 have hq := (ai tv (ai tv tv))
                 refine TS.reg [] ?_ ?_
                 ·apply prop_of ?_ hq
                  kernel_rfl
                 refine XS.then ?_
                 rcases bif_some h with ⟨c64, h⟩ | ⟨c65, h⟩
                 ·refine TS.cond (((m1.length : Nat) : Int) == (0 : Int)) ?_ (fun hcz => ?_) (fun hcz => by rw [c64] at hcz; cases hcz)
                  ·kernel_rfl
                  refine TS.seq ?_
                  have hq := (ai tv tv)
                  refine TS.reg [] ?_ ?_
                  ·apply prop_of ?_ hq
                   kernel_rfl
                  refine XS.then ?_
                  refine TS.ret ?_
                  refine XS.passR ?_
                  refine XS.blockRet ?_
                  refine XS.passR ?_
                  refine XS.backR 7 (mkTs 70 [(4, (.int .i64 (0 : Int)))]) (mkTs 70 [(4, (.int .i64 (0 : Int))), (10, (.int .i64 (12 : Int)))], [(.box 53 (.st (.cons (.st (.cons (.int .i64 m0) (.cons (.int .i64 m0_2) (.cons (.int .i64 m0_3) (.cons (.int .i64 m0_4) (.int .i64 m0_5)))))) (.cons (.row 1) (.cons (.row 2) (.cons (.int .i64 m0_6) (.cons (.int .i64 m0_7) (.row 3)))))))), (.row 49 (.st (.pair (.int .i64) (.pair (.int .i64) (.pair (.int .i64) (.pair (.int .i64) (.int .i64)))))) m1), (.row 3 (.int .i64) m2), (.row 29 (.st (.pair (.int .i64) (.pair (.int .i64) (.pair (.int .i64) (.pair (.int .i64) (.pair (.int .i64) (.pair (.int .i64) .bool))))))) m3), (.box 55 (.st (.cons (.int .i64 (l.getD x.toNat ((0 : Int), (0 : Int))).1) (.int .i64 (l.getD x.toNat ((0 : Int), (0 : Int))).2)))), (.sav (mkTs 35 [(4, (.ptr 0 [])), (13, (.sl (.st (.pair (.int .i64) (.int .i64))) l)), (14, (.int .i64 ((l.length : Nat) : Int))), (15, (.int .i64 x))]) fv64), (.box 55 (.st (.cons (.int .i64 (l.getD x.toNat ((0 : Int), (0 : Int))).1) (.int .i64 (l.getD x.toNat ((0 : Int), (0 : Int))).2)))), .dead, (.box 55 (.st (.cons (.int .i64 (l.getD x.toNat ((0 : Int), (0 : Int))).1) (.int .i64 (l.getD x.toNat ((0 : Int), (0 : Int))).2))))]) ((True) ∧ (True)) (by kernel_rfl) (by kernel_rfl) ⟨trivial, trivial⟩ ?_
                  refine KS.opsOf ?_
                  have hq := (ai tv tv)
                  refine TOS.run 1 [] (by kernel_rfl) ?_ ?_
                  ·apply prop_of ?_ hq
                   kernel_rfl
                  refine TOS.nil (by kernel_rfl) ?_
                  refine XS.then ?_
                  refine TS.ret ?_
                  refine XS.blockRet ?_
                  refine XS.passR ?_
                  refine XS.passR ?_
                  refine XS.backR 5 (mkTs 35 [(4, (.ptr 0 [])), (13, (.sl (.st (.pair (.int .i64) (.int .i64))) l)), (14, (.int .i64 ((l.length : Nat) : Int))), (15, (.int .i64 x))]) (mkTs 35 [(4, (.ptr 0 [])), (13, (.sl (.st (.pair (.int .i64) (.int .i64))) l)), (14, (.int .i64 ((l.length : Nat) : Int))), (15, (.int .i64 x)), (21, (.int .i64 (12 : Int)))], [(.box 53 (.st (.cons (.st (.cons (.int .i64 m0) (.cons (.int .i64 m0_2) (.cons (.int .i64 m0_3) (.cons (.int .i64 m0_4) (.int .i64 m0_5)))))) (.cons (.row 1) (.cons (.row 2) (.cons (.int .i64 m0_6) (.cons (.int .i64 m0_7) (.row 3)))))))), (.row 49 (.st (.pair (.int .i64) (.pair (.int .i64) (.pair (.int .i64) (.pair (.int .i64) (.int .i64)))))) m1), (.row 3 (.int .i64) m2), (.row 29 (.st (.pair (.int .i64) (.pair (.int .i64) (.pair (.int .i64) (.pair (.int .i64) (.pair (.int .i64) (.pair (.int .i64) .bool))))))) m3), (.box 55 (.st (.cons (.int .i64 (l.getD x.toNat ((0 : Int), (0 : Int))).1) (.int .i64 (l.getD x.toNat ((0 : Int), (0 : Int))).2)))), .dead, (.box 55 (.st (.cons (.int .i64 (l.getD x.toNat ((0 : Int), (0 : Int))).1) (.int .i64 (l.getD x.toNat ((0 : Int), (0 : Int))).2)))), .dead, (.box 55 (.st (.cons (.int .i64 (l.getD x.toNat ((0 : Int), (0 : Int))).1) (.int .i64 (l.getD x.toNat ((0 : Int), (0 : Int))).2))))]) ((True) ∧ (True)) (by kernel_rfl) (by kernel_rfl) ⟨trivial, trivial⟩ ?_
                  refine KS.ofX ?_
                  refine XS.reAny [0, 1, 2, 3] (mkMask 35 [4, 13, 14, 15, 21]) ((12 : Int), m0, m0_2, m0_3, m0_4, m0_5, m0_6, m0_7, m1, m2, m3) h ?_
                  kernel_rfl
                 ·refine TS.cond (((m1.length : Nat) : Int) == (0 : Int)) ?_ (fun hcz => by rw [c65] at hcz; cases hcz) (fun hcz => ?_)
                  ·kernel_rfl
                  refine TS.skip ?_
                  refine XS.then ?_
                  obtain ⟨t66, h⟩ := test_some h
                  obtain ⟨t67, h⟩ := test_some h
                  have hq : ((True) ∧ ((True) ∧ ((True) ∧ ((True) ∧ ((True) ∧ ((True) ∧ ((True) ∧ ((True) ∧ ((inR (IntKind.wrap .i64 (((m1.length : Nat) : Int) - (1 : Int))) m1.length) ∧ ((((IntKind.wrap .i64 (((m1.length : Nat) : Int) - (1 : Int))).toNat) < m1.length ∧ (True)) ∧ ((True) ∧ ((True) ∧ ((True) ∧ ((True) ∧ ((True) ∧ ((True) ∧ ((subC m1.length none (some (IntKind.wrap .i64 (((m1.length : Nat) : Int) - (1 : Int))))) ∧ ((True) ∧ ((True) ∧ ((True) ∧ ((True) ∧ ((True) ∧ (True))))))))))))))))))))))) ∧ ((True) ∧ (True)) := ⟨⟨trivial, ⟨trivial, ⟨trivial, ⟨trivial, ⟨trivial, ⟨trivial, ⟨trivial, ⟨trivial, ⟨inb_ok t66, ⟨⟨inR_lt (inb_ok t66), trivial⟩, ⟨trivial, ⟨trivial, ⟨trivial, ⟨trivial, ⟨trivial, ⟨trivial, ⟨subB_ok t67, ⟨trivial, ⟨trivial, ⟨trivial, ⟨trivial, ⟨trivial, trivial⟩⟩⟩⟩⟩⟩⟩⟩⟩⟩⟩⟩⟩⟩⟩⟩⟩⟩⟩⟩⟩⟩, ⟨trivial, trivial⟩⟩
                  refine TS.draw 22 [(19, 0)] [] (by kernel_rfl) ?_ ?_
                  ·apply prop_of ?_ hq
                   kernel_rfl
                  refine XS.blockEnd ?_
                  refine XS.then ?_
                  refine TS.seq ?_
                  have hq := (ai tv tv)
                  refine TS.reg [] ?_ ?_
                  ·apply prop_of ?_ hq
                   kernel_rfl
                  refine XS.then ?_
                  refine TS.ret ?_
                  refine XS.backR 7 (mkTs 70 [(4, (.int .i64 (0 : Int)))]) (mkTs 70 [(4, (.int .i64 (0 : Int))), (10, (.int .i64 (0 : Int)))], [(.box 53 (.st (.cons (.st (.cons (.int .i64 (m1.getD ((IntKind.wrap .i64 (((m1.length : Nat) : Int) - (1 : Int))).toNat) ((0 : Int), ((0 : Int), ((0 : Int), ((0 : Int), (0 : Int)))))).1) (.cons (.int .i64 (m1.getD ((IntKind.wrap .i64 (((m1.length : Nat) : Int) - (1 : Int))).toNat) ((0 : Int), ((0 : Int), ((0 : Int), ((0 : Int), (0 : Int)))))).2.1) (.cons (.int .i64 (m1.getD ((IntKind.wrap .i64 (((m1.length : Nat) : Int) - (1 : Int))).toNat) ((0 : Int), ((0 : Int), ((0 : Int), ((0 : Int), (0 : Int)))))).2.2.1) (.cons (.int .i64 (m1.getD ((IntKind.wrap .i64 (((m1.length : Nat) : Int) - (1 : Int))).toNat) ((0 : Int), ((0 : Int), ((0 : Int), ((0 : Int), (0 : Int)))))).2.2.2.1) (.int .i64 (m1.getD ((IntKind.wrap .i64 (((m1.length : Nat) : Int) - (1 : Int))).toNat) ((0 : Int), ((0 : Int), ((0 : Int), ((0 : Int), (0 : Int)))))).2.2.2.2)))))) (.cons (.sub 1 5 0 ((IntKind.wrap .i64 (((m1.length : Nat) : Int) - (1 : Int))).toNat)) (.cons (.row 2) (.cons (.int .i64 m0_6) (.cons (.int .i64 m0_7) (.row 3)))))))), (.row 49 (.st (.pair (.int .i64) (.pair (.int .i64) (.pair (.int .i64) (.pair (.int .i64) (.int .i64)))))) m1), (.row 3 (.int .i64) m2), (.row 29 (.st (.pair (.int .i64) (.pair (.int .i64) (.pair (.int .i64) (.pair (.int .i64) (.pair (.int .i64) (.pair (.int .i64) .bool))))))) m3), (.box 55 (.st (.cons (.int .i64 (l.getD x.toNat ((0 : Int), (0 : Int))).1) (.int .i64 (l.getD x.toNat ((0 : Int), (0 : Int))).2)))), (.sav (mkTs 35 [(4, (.ptr 0 [])), (13, (.sl (.st (.pair (.int .i64) (.int .i64))) l)), (14, (.int .i64 ((l.length : Nat) : Int))), (15, (.int .i64 x))]) fv64), (.box 55 (.st (.cons (.int .i64 (l.getD x.toNat ((0 : Int), (0 : Int))).1) (.int .i64 (l.getD x.toNat ((0 : Int), (0 : Int))).2)))), .dead, (.box 55 (.st (.cons (.int .i64 (l.getD x.toNat ((0 : Int), (0 : Int))).1) (.int .i64 (l.getD x.toNat ((0 : Int), (0 : Int))).2))))]) ((True) ∧ (True)) (by kernel_rfl) (by kernel_rfl) ⟨trivial, trivial⟩ ?_
                  refine KS.opsOf ?_
                  have hq := (ai tv tv)
                  refine TOS.run 1 [] (by kernel_rfl) ?_ ?_
                  ·apply prop_of ?_ hq
                   kernel_rfl
                  refine TOS.nil (by kernel_rfl) ?_
                  refine XS.then ?_
                  refine TS.ret ?_
                  refine XS.blockRet ?_
                  refine XS.passR ?_
                  refine XS.passR ?_
                  refine XS.backR 5 (mkTs 35 [(4, (.ptr 0 [])), (13, (.sl (.st (.pair (.int .i64) (.int .i64))) l)), (14, (.int .i64 ((l.length : Nat) : Int))), (15, (.int .i64 x))]) (mkTs 35 [(4, (.ptr 0 [])), (13, (.sl (.st (.pair (.int .i64) (.int .i64))) l)), (14, (.int .i64 ((l.length : Nat) : Int))), (15, (.int .i64 x)), (21, (.int .i64 (0 : Int)))], [(.box 53 (.st (.cons (.st (.cons (.int .i64 (m1.getD ((IntKind.wrap .i64 (((m1.length : Nat) : Int) - (1 : Int))).toNat) ((0 : Int), ((0 : Int), ((0 : Int), ((0 : Int), (0 : Int)))))).1) (.cons (.int .i64 (m1.getD ((IntKind.wrap .i64 (((m1.length : Nat) : Int) - (1 : Int))).toNat) ((0 : Int), ((0 : Int), ((0 : Int), ((0 : Int), (0 : Int)))))).2.1) (.cons (.int .i64 (m1.getD ((IntKind.wrap .i64 (((m1.length : Nat) : Int) - (1 : Int))).toNat) ((0 : Int), ((0 : Int), ((0 : Int), ((0 : Int), (0 : Int)))))).2.2.1) (.cons (.int .i64 (m1.getD ((IntKind.wrap .i64 (((m1.length : Nat) : Int) - (1 : Int))).toNat) ((0 : Int), ((0 : Int), ((0 : Int), ((0 : Int), (0 : Int)))))).2.2.2.1) (.int .i64 (m1.getD ((IntKind.wrap .i64 (((m1.length : Nat) : Int) - (1 : Int))).toNat) ((0 : Int), ((0 : Int), ((0 : Int), ((0 : Int), (0 : Int)))))).2.2.2.2)))))) (.cons (.sub 1 5 0 ((IntKind.wrap .i64 (((m1.length : Nat) : Int) - (1 : Int))).toNat)) (.cons (.row 2) (.cons (.int .i64 m0_6) (.cons (.int .i64 m0_7) (.row 3)))))))), (.row 49 (.st (.pair (.int .i64) (.pair (.int .i64) (.pair (.int .i64) (.pair (.int .i64) (.int .i64)))))) m1), (.row 3 (.int .i64) m2), (.row 29 (.st (.pair (.int .i64) (.pair (.int .i64) (.pair (.int .i64) (.pair (.int .i64) (.pair (.int .i64) (.pair (.int .i64) .bool))))))) m3), (.box 55 (.st (.cons (.int .i64 (l.getD x.toNat ((0 : Int), (0 : Int))).1) (.int .i64 (l.getD x.toNat ((0 : Int), (0 : Int))).2)))), .dead, (.box 55 (.st (.cons (.int .i64 (l.getD x.toNat ((0 : Int), (0 : Int))).1) (.int .i64 (l.getD x.toNat ((0 : Int), (0 : Int))).2)))), .dead, (.box 55 (.st (.cons (.int .i64 (l.getD x.toNat ((0 : Int), (0 : Int))).1) (.int .i64 (l.getD x.toNat ((0 : Int), (0 : Int))).2))))]) ((True) ∧ (True)) (by kernel_rfl) (by kernel_rfl) ⟨trivial, trivial⟩ ?_
                  refine KS.ofX ?_
                  refine XS.wk (.cut 1 true 0 [true, false]) ?_
                  refine XS.reAny [0, 9, 2, 3] (mkMask 35 [4, 13, 14, 15, 21]) ((0 : Int), (m1.getD ((IntKind.wrap .i64 (((m1.length : Nat) : Int) - (1 : Int))).toNat) ((0 : Int), ((0 : Int), ((0 : Int), ((0 : Int), (0 : Int)))))).1, (m1.getD ((IntKind.wrap .i64 (((m1.length : Nat) : Int) - (1 : Int))).toNat) ((0 : Int), ((0 : Int), ((0 : Int), ((0 : Int), (0 : Int)))))).2.1, (m1.getD ((IntKind.wrap .i64 (((m1.length : Nat) : Int) - (1 : Int))).toNat) ((0 : Int), ((0 : Int), ((0 : Int), ((0 : Int), (0 : Int)))))).2.2.1, (m1.getD ((IntKind.wrap .i64 (((m1.length : Nat) : Int) - (1 : Int))).toNat) ((0 : Int), ((0 : Int), ((0 : Int), ((0 : Int), (0 : Int)))))).2.2.2.1, (m1.getD ((IntKind.wrap .i64 (((m1.length : Nat) : Int) - (1 : Int))).toNat) ((0 : Int), ((0 : Int), ((0 : Int), ((0 : Int), (0 : Int)))))).2.2.2.2, m0_6, m0_7, (m1.take ((IntKind.wrap .i64 (((m1.length : Nat) : Int) - (1 : Int))).toNat)), m2, m3) h ?_
                  kernel_rfl
                ·refine TS.cond ((l.getD x.toNat ((0 : Int), (0 : Int))).1 == (45 : Int)) ?_ (fun hcz => by rw [c63] at hcz; cases hcz) (fun hcz => ?_)
                 ·kernel_rfl
                 refine TS.skip ?_
                 refine XS.blockEnd ?_
                 refine XS.then ?_
                 refine TS.seq ?_
                 have hq := (ai tv tv)
                 refine TS.reg [] ?_ ?_
                 ·apply prop_of ?_ hq
                  kernel_rfl
                 refine XS.then ?_
                 refine TS.ret ?_
                 refine XS.backR 7 (mkTs 70 [(4, (.int .i64 (0 : Int)))]) (mkTs 70 [(4, (.int .i64 (0 : Int))), (10, (.int .i64 (0 : Int)))], [(.box 53 (.st (.cons (.st (.cons (.int .i64 m0) (.cons (.int .i64 m0_2) (.cons (.int .i64 m0_3) (.cons (.int .i64 m0_4) (.int .i64 m0_5)))))) (.cons (.row 1) (.cons (.row 2) (.cons (.int .i64 m0_6) (.cons (.int .i64 m0_7) (.row 3)))))))), (.row 49 (.st (.pair (.int .i64) (.pair (.int .i64) (.pair (.int .i64) (.pair (.int .i64) (.int .i64)))))) m1), (.row 3 (.int .i64) m2), (.row 29 (.st (.pair (.int .i64) (.pair (.int .i64) (.pair (.int .i64) (.pair (.int .i64) (.pair (.int .i64) (.pair (.int .i64) .bool))))))) m3), (.box 55 (.st (.cons (.int .i64 (l.getD x.toNat ((0 : Int), (0 : Int))).1) (.int .i64 (l.getD x.toNat ((0 : Int), (0 : Int))).2)))), (.sav (mkTs 35 [(4, (.ptr 0 [])), (13, (.sl (.st (.pair (.int .i64) (.int .i64))) l)), (14, (.int .i64 ((l.length : Nat) : Int))), (15, (.int .i64 x))]) fv64), (.box 55 (.st (.cons (.int .i64 (l.getD x.toNat ((0 : Int), (0 : Int))).1) (.int .i64 (l.getD x.toNat ((0 : Int), (0 : Int))).2)))), .dead, (.box 55 (.st (.cons (.int .i64 (l.getD x.toNat ((0 : Int), (0 : Int))).1) (.int .i64 (l.getD x.toNat ((0 : Int), (0 : Int))).2))))]) ((True) ∧ (True)) (by kernel_rfl) (by kernel_rfl) ⟨trivial, trivial⟩ ?_
                 refine KS.opsOf ?_
                 have hq := (ai tv tv)
                 refine TOS.run 1 [] (by kernel_rfl) ?_ ?_
                 ·apply prop_of ?_ hq
                  kernel_rfl
                 refine TOS.nil (by kernel_rfl) ?_
                 refine XS.then ?_
                 refine TS.ret ?_
                 refine XS.blockRet ?_
                 refine XS.passR ?_
                 refine XS.passR ?_
                 refine XS.backR 5 (mkTs 35 [(4, (.ptr 0 [])), (13, (.sl (.st (.pair (.int .i64) (.int .i64))) l)), (14, (.int .i64 ((l.length : Nat) : Int))), (15, (.int .i64 x))]) (mkTs 35 [(4, (.ptr 0 [])), (13, (.sl (.st (.pair (.int .i64) (.int .i64))) l)), (14, (.int .i64 ((l.length : Nat) : Int))), (15, (.int .i64 x)), (21, (.int .i64 (0 : Int)))], [(.box 53 (.st (.cons (.st (.cons (.int .i64 m0) (.cons (.int .i64 m0_2) (.cons (.int .i64 m0_3) (.cons (.int .i64 m0_4) (.int .i64 m0_5)))))) (.cons (.row 1) (.cons (.row 2) (.cons (.int .i64 m0_6) (.cons (.int .i64 m0_7) (.row 3)))))))), (.row 49 (.st (.pair (.int .i64) (.pair (.int .i64) (.pair (.int .i64) (.pair (.int .i64) (.int .i64)))))) m1), (.row 3 (.int .i64) m2), (.row 29 (.st (.pair (.int .i64) (.pair (.int .i64) (.pair (.int .i64) (.pair (.int .i64) (.pair (.int .i64) (.pair (.int .i64) .bool))))))) m3), (.box 55 (.st (.cons (.int .i64 (l.getD x.toNat ((0 : Int), (0 : Int))).1) (.int .i64 (l.getD x.toNat ((0 : Int), (0 : Int))).2)))), .dead, (.box 55 (.st (.cons (.int .i64 (l.getD x.toNat ((0 : Int), (0 : Int))).1) (.int .i64 (l.getD x.toNat ((0 : Int), (0 : Int))).2)))), .dead, (.box 55 (.st (.cons (.int .i64 (l.getD x.toNat ((0 : Int), (0 : Int))).1) (.int .i64 (l.getD x.toNat ((0 : Int), (0 : Int))).2))))]) ((True) ∧ (True)) (by kernel_rfl) (by kernel_rfl) ⟨trivial, trivial⟩ ?_
                 refine KS.ofX ?_
                 refine XS.reAny [0, 1, 2, 3] (mkMask 35 [4, 13, 14, 15, 21]) ((0 : Int), m0, m0_2, m0_3, m0_4, m0_5, m0_6, m0_7, m1, m2, m3) h ?_
                 kernel_rfl
   ·refine TS.cond (decide (x < ((l.length : Nat) : Int))) ?_ (fun hcz => by rw [c4] at hcz; cases hcz) (fun hcz => ?_)
    ·kernel_rfl
    refine TS.exit ?_
    refine XS.passE ?_
    refine XS.passE ?_
    refine XS.out ?_
    refine XS.then ?_
    refine TS.seq ?_
    refine TS.seq ?_
    have hq := (ai tv (ai tv (ai tv (ai tv (ai tv tv)))))
    refine TS.reg [] ?_ ?_
    ·apply prop_of ?_ hq
     kernel_rfl
    refine XS.then ?_
    rcases bif_some h with ⟨c68, h⟩ | ⟨c69, h⟩
    ·refine TS.cond (m0_6 != (0 : Int)) ?_ (fun hcz => ?_) (fun hcz => by rw [c68] at hcz; cases hcz)
     ·kernel_rfl
     refine TS.seq ?_
     have hq := (ai tv (ai tv tv))
     refine TS.reg [] ?_ ?_
     ·apply prop_of ?_ hq
      kernel_rfl
     refine XS.then ?_
     refine TS.ret ?_
     refine XS.passR ?_
     obtain rfl : ((4 : Int), ([] : List (Int × Int × Int × Int × Int × Int × Bool))) = r := Option.some.inj h
     refine XS.wk (.row false 2 [] 29 (.st (.pair (.int .i64) (.pair (.int .i64) (.pair (.int .i64) (.pair (.int .i64) (.pair (.int .i64) (.pair (.int .i64) .bool)))))))) ?_
     exact XS.fin [4] ((True) ∧ ((True) ∧ (True))) (by kernel_rfl) ⟨trivial, ⟨trivial, trivial⟩⟩
    ·refine TS.cond (m0_6 != (0 : Int)) ?_ (fun hcz => by rw [c69] at hcz; cases hcz) (fun hcz => ?_)
     ·kernel_rfl
     refine TS.skip ?_
     refine XS.then ?_
     refine TS.seq ?_
     have hq := (ai tv (ai tv (ai tv (ai tv (ai tv (ai tv tv))))))
     refine TS.reg [] ?_ ?_
     ·apply prop_of ?_ hq
      kernel_rfl
     refine XS.then ?_
     refine TS.ret ?_
     obtain rfl : ((0 : Int), m3) = r := Option.some.inj h
     exact XS.fin [3] ((True) ∧ ((True) ∧ (True))) (by kernel_rfl) ⟨trivial, ⟨trivial, trivial⟩⟩

/-! plugtree/plugref.Fielded$1 -/
def F17_l2 (n : Nat) (x : List (Int × Int × Int × Int × Int × Int × Bool)) (k17_2 : (Int × Int) → Option Int) : (Int × Int) → Option Int
 | (vn, x_2) => (bif (decide (x_2 < ((x.length : Nat) : Int))) then (bif inb x_2 x.length then (k17_2 ((IntKind.wrap .i64 (vn + (x.getD x_2.toNat ((0 : Int), ((0 : Int), ((0 : Int), ((0 : Int), ((0 : Int), ((0 : Int), false))))))).2.1)), (IntKind.wrap .i64 (x_2 + (1 : Int))))) else none) else (some vn))
def F17 (n : Nat) (x : List (Int × Int × Int × Int × Int × Int × Bool)) : Option Int := (loopF (F17_l2 n x) n ((0 : Int), (0 : Int)))
theorem F17_ok (n : Nat) (x : List (Int × Int × Int × Int × Int × Int × Bool)) (r : Int) (h : F17 n x = some r) : PureC Try.prog 17 [(.pv (.sl (.st (.pair (.int .i64) (.pair (.int .i64) (.pair (.int .i64) (.pair (.int .i64) (.pair (.int .i64) (.pair (.int .i64) .bool))))))) x))] (.int .i64 r) [] := by
 refine PureC.mkS Try.func17 rfl rfl ?_
 intro w0 fz0 hfz
 replace h : (loopF (F17_l2 n x) n ((0 : Int), (0 : Int))) = some r := h
 refine TS.seq ?_
 have hq := (ai tv tv)
 refine TS.reg [] ?_ ?_
 ·apply prop_of ?_ hq
  kernel_rfl
 refine XS.then ?_
 refine TS.seq ?_
 have hq := (ai tv tv)
 refine TS.reg [] ?_ ?_
 ·apply prop_of ?_ hq
  kernel_rfl
 refine XS.then ?_
 refine TS.seq ?_
 refine TS.seq ?_
 have hq := (ai tv (ai tv (ai tv tv)))
 refine TS.reg [] ?_ ?_
 ·apply prop_of ?_ hq
  kernel_rfl
 refine XS.then ?_
 refine TS.block ?_
 refine TS.reLoop [] (mkMask 17 [2, 5, 6, 7]) (D := Int × Int) (fun d => match d with | (vn, x_2) => (mkTs 17 [(2, (.int .i64 vn)), (5, (.sl (.st (.pair (.int .i64) (.pair (.int .i64) (.pair (.int .i64) (.pair (.int .i64) (.pair (.int .i64) (.pair (.int .i64) .bool))))))) x)), (6, (.int .i64 ((x.length : Nat) : Int))), (7, (.int .i64 x_2))], [])) (fun n' d => loopF (F17_l2 n x) n' d = some r) n ((0 : Int), (0 : Int)) h ?_ (fun d => loopF_zero _ d r) ?_
 ·kernel_rfl
 ·rintro n2 ⟨vn, x_2⟩ h
  replace h : (bif (decide (x_2 < ((x.length : Nat) : Int))) then (bif inb x_2 x.length then ((loopF (F17_l2 n x) n2) ((IntKind.wrap .i64 (vn + (x.getD x_2.toNat ((0 : Int), ((0 : Int), ((0 : Int), ((0 : Int), ((0 : Int), ((0 : Int), false))))))).2.1)), (IntKind.wrap .i64 (x_2 + (1 : Int))))) else none) else (some vn)) = some r := h
  refine TS.seq ?_
  have hq := (ai tv tv)
  refine TS.reg [] ?_ ?_
  ·apply prop_of ?_ hq
   kernel_rfl
  refine XS.then ?_
  refine TS.seq ?_
  rcases bif_some h with ⟨c1, h⟩ | ⟨c2, h⟩
  ·refine TS.cond (decide (x_2 < ((x.length : Nat) : Int))) ?_ (fun hcz => ?_) (fun hcz => by rw [c1] at hcz; cases hcz)
   ·kernel_rfl
   refine TS.skip ?_
   refine XS.then ?_
   refine TS.seq ?_
   refine TS.block ?_
   refine TS.seq ?_
   obtain ⟨t3, h⟩ := test_some h
   have hq := (ai (inb_ok t3) (ai tv (ai tv (ai tv tv))))
   refine TS.reg [] ?_ ?_
   ·apply prop_of ?_ hq
    kernel_rfl
   refine XS.then ?_
   have hq := (ai tv (ai tv (ai tv (ai tv (ai tv tv)))))
   refine TS.reg [] ?_ ?_
   ·apply prop_of ?_ hq
    kernel_rfl
   refine XS.blockEnd ?_
   refine XS.then ?_
   have hq := (ai tv (ai tv tv))
   refine TS.reg [] ?_ ?_
   ·apply prop_of ?_ hq
    kernel_rfl
   refine XS.reAny [] (mkMask 17 [2, 5, 6, 7]) ((IntKind.wrap .i64 (vn + (x.getD x_2.toNat ((0 : Int), ((0 : Int), ((0 : Int), ((0 : Int), ((0 : Int), ((0 : Int), false))))))).2.1)), (IntKind.wrap .i64 (x_2 + (1 : Int)))) h ?_
   kernel_rfl
  ·refine TS.cond (decide (x_2 < ((x.length : Nat) : Int))) ?_ (fun hcz => by rw [c2] at hcz; cases hcz) (fun hcz => ?_)
   ·kernel_rfl
   refine TS.exit ?_
   refine XS.passE ?_
   refine XS.passE ?_
   refine XS.out ?_
   refine XS.then ?_
   refine TS.seq ?_
   have hq := (ai tv (ai tv tv))
   refine TS.reg [] ?_ ?_
   ·apply prop_of ?_ hq
    kernel_rfl
   refine XS.then ?_
   refine TS.ret ?_
   obtain rfl : vn = r := Option.some.inj h
   exact XS.fin [] ((True) ∧ (True)) (by kernel_rfl) ⟨trivial, trivial⟩

/-! plugtree/plugref.Between -/
def F18 (n : Nat) (vn : Int) (low : Int) (high : Int) : Option Bool := (bif (decide (low ≤ vn)) then (some (decide (vn ≤ high))) else (some false))
theorem F18_ok (n : Nat) (vn : Int) (low : Int) (high : Int) (r : Bool) (h : F18 n vn low high = some r) : PureC Try.prog 18 [(.int .i64 vn), (.int .i64 low), (.int .i64 high)] (.bool r) [] := by
 refine PureC.mkS Try.func18 rfl rfl ?_
 intro w0 fz0 hfz
 replace h : (bif (decide (low ≤ vn)) then (some (decide (vn ≤ high))) else (some false)) = some r := h
 refine TS.seq ?_
 have hq := (ai tv tv)
 refine TS.reg [] ?_ ?_
 ·apply prop_of ?_ hq
  kernel_rfl
 refine XS.then ?_
 refine TS.seq ?_
 rcases bif_some h with ⟨c1, h⟩ | ⟨c2, h⟩
 ·have hq := (ai tv (ai tv (ai tv (ai (ai tv c1) (ai tv (ai tv (ai tv (ai tv (ai tv tv)))))))))
  refine TS.reg [.none, .none, .none, .dec true] ?_ ?_
  ·apply prop_of ?_ hq
   kernel_rfl
  refine XS.then ?_
  refine TS.ret ?_
  obtain rfl : (decide (vn ≤ high)) = r := Option.some.inj h
  exact XS.fin [] ((True) ∧ (True)) (by kernel_rfl) ⟨trivial, trivial⟩
 ·have hq := (ai tv (ai tv (ai tv (ai (ai tv c2) (ai tv (ai tv tv))))))
  refine TS.reg [.none, .none, .none, .dec false] ?_ ?_
  ·apply prop_of ?_ hq
   kernel_rfl
  refine XS.then ?_
  refine TS.ret ?_
  obtain rfl : false = r := Option.some.inj h
  exact XS.fin [] ((True) ∧ (True)) (by kernel_rfl) ⟨trivial, trivial⟩

/-! plugtree/plugref.Fielded -/
def F7_j32 (n : Nat) (k7_31 : (Int × (List (Int × Int × Int × Int × Int × Int × Bool))) → Option (Int × (List (Int × Int × Int × Int × Int × Int × Bool)))) (l : List (Int × Int)) (x : Int) (m0 : List Int) (x_2 : Int) (m4_2 : List (Int × Int × Int × Int × Int × Int × Bool)) (y_6 : Int) : Int → Option (Int × (List (Int × Int × Int × Int × Int × Int × Bool)))
 | m5 => (bif (decide (m4_2.length + [(y_6, ((m0.getD 3 (0 : Int)), ((m0.getD 0 (0 : Int)), (m5, ((m0.getD 1 (0 : Int)), ((m0.getD 2 (0 : Int)), ((((l.getD x.toNat ((0 : Int), (0 : Int))).2).tmod (2 : Int)) != (0 : Int))))))))].length ≤ 2513169434916)) then (k7_31 ((IntKind.wrap .i64 (x_2 + (1 : Int))), (m4_2 ++ [(y_6, ((m0.getD 3 (0 : Int)), ((m0.getD 0 (0 : Int)), (m5, ((m0.getD 1 (0 : Int)), ((m0.getD 2 (0 : Int)), ((((l.getD x.toNat ((0 : Int), (0 : Int))).2).tmod (2 : Int)) != (0 : Int))))))))]))) else none)
def F7_l31 (n : Nat) (k7_28 : (Int × Int × (List Int) × (List (List Int)) × (List Int) × (List (Int × Int × Int × Int × Int × Int × Bool))) → Option (Int × (List (Int × Int × Int × Int × Int × Int × Bool)))) (l : List (Int × Int)) (deep : Int) (x : Int) (m0 : List Int) (m1 : List (List Int)) (m2 : List Int) (k7_31 : (Int × (List (Int × Int × Int × Int × Int × Int × Bool))) → Option (Int × (List (Int × Int × Int × Int × Int × Int × Bool)))) : (Int × (List (Int × Int × Int × Int × Int × Int × Bool))) → Option (Int × (List (Int × Int × Int × Int × Int × Int × Bool)))
 | (x_2, m4_2) => (bif (decide (x_2 < (m0.getD 4 (0 : Int)))) then ((F17 n m4_2).bind fun y_6 => (bif (decide (x_2 < ((m2.length : Nat) : Int))) then (bif inb x_2 m2.length then (F7_j32 n k7_31 l x m0 x_2 m4_2 y_6 (m2.getD x_2.toNat (0 : Int))) else none) else (bif (decide (((m2.length : Nat) : Int) > (0 : Int))) then (bif inb (IntKind.wrap .i64 (((m2.length : Nat) : Int) - (1 : Int))) m2.length then (F7_j32 n k7_31 l x m0 x_2 m4_2 y_6 (m2.getD ((IntKind.wrap .i64 (((m2.length : Nat) : Int) - (1 : Int))).toNat) (0 : Int))) else none) else (F7_j32 n k7_31 l x m0 x_2 m4_2 y_6 (0 : Int))))) else (k7_28 (deep, (IntKind.wrap .i64 (x + (1 : Int))), m0, m1, ([] : List Int), m4_2)))
def F7_l28 (n : Nat) (l : List (Int × Int)) (k7_28 : (Int × Int × (List Int) × (List (List Int)) × (List Int) × (List (Int × Int × Int × Int × Int × Int × Bool))) → Option (Int × (List (Int × Int × Int × Int × Int × Int × Bool)))) : (Int × Int × (List Int) × (List (List Int)) × (List Int) × (List (Int × Int × Int × Int × Int × Int × Bool))) → Option (Int × (List (Int × Int × Int × Int × Int × Int × Bool)))
 | (deep, x, m0, m1, m2, m4) => (bif (decide (x < ((l.length : Nat) : Int))) then (bif inb x l.length then (bif ((l.getD x.toNat ((0 : Int), (0 : Int))).1 == (1 : Int)) then (k7_28 (deep, (IntKind.wrap .i64 (x + (1 : Int))), (m0.set 0 (l.getD x.toNat ((0 : Int), (0 : Int))).2), m1, m2, m4)) else (bif ((l.getD x.toNat ((0 : Int), (0 : Int))).1 == (5 : Int)) then (k7_28 (deep, (IntKind.wrap .i64 (x + (1 : Int))), (m0.set 1 (l.getD x.toNat ((0 : Int), (0 : Int))).2), m1, m2, m4)) else (bif ((l.getD x.toNat ((0 : Int), (0 : Int))).1 == (9 : Int)) then (k7_28 (deep, (IntKind.wrap .i64 (x + (1 : Int))), (m0.set 2 (l.getD x.toNat ((0 : Int), (0 : Int))).2), m1, m2, m4)) else (bif ((l.getD x.toNat ((0 : Int), (0 : Int))).1 == (29 : Int)) then ((F18 n ((l.getD x.toNat ((0 : Int), (0 : Int))).2) (1 : Int) (32 : Int)).bind fun y_3 => (bif (!y_3) then (some ((1 : Int), ([] : List (Int × Int × Int × Int × Int × Int × Bool)))) else (k7_28 (deep, (IntKind.wrap .i64 (x + (1 : Int))), (m0.set 3 (l.getD x.toNat ((0 : Int), (0 : Int))).2), m1, m2, m4)))) else (bif ((l.getD x.toNat ((0 : Int), (0 : Int))).1 == (37 : Int)) then ((F18 n ((l.getD x.toNat ((0 : Int), (0 : Int))).2) (0 : Int) (256 : Int)).bind fun y_4 => (bif (!y_4) then (some ((1 : Int), ([] : List (Int × Int × Int × Int × Int × Int × Bool)))) else (k7_28 (deep, (IntKind.wrap .i64 (x + (1 : Int))), (m0.set 4 (l.getD x.toNat ((0 : Int), (0 : Int))).2), m1, m2, m4)))) else (bif ((l.getD x.toNat ((0 : Int), (0 : Int))).1 == (41 : Int)) then (bif (decide (((m1.length : Nat) : Int) ≥ (4 : Int))) then (some ((11 : Int), ([] : List (Int × Int × Int × Int × Int × Int × Bool)))) else (bif (decide (m1.length + [m0].length ≤ 3518437208883)) then (k7_28 (deep, (IntKind.wrap .i64 (x + (1 : Int))), m0, (m1 ++ [m0]), m2, m4)) else none)) else (bif ((l.getD x.toNat ((0 : Int), (0 : Int))).1 == (45 : Int)) then (bif (((m1.length : Nat) : Int) == (0 : Int)) then (some ((12 : Int), ([] : List (Int × Int × Int × Int × Int × Int × Bool)))) else (bif inb (IntKind.wrap .i64 (((m1.length : Nat) : Int) - (1 : Int))) m1.length then (bif subB m1.length none (some (IntKind.wrap .i64 (((m1.length : Nat) : Int) - (1 : Int)))) then (k7_28 (deep, (IntKind.wrap .i64 (x + (1 : Int))), (m1.getD ((IntKind.wrap .i64 (((m1.length : Nat) : Int) - (1 : Int))).toNat) (List.replicate 5 (0 : Int))), (m1.take ((IntKind.wrap .i64 (((m1.length : Nat) : Int) - (1 : Int))).toNat)), m2, m4)) else none) else none)) else (bif ((l.getD x.toNat ((0 : Int), (0 : Int))).1 == (2 : Int)) then (bif (decide (((m2.length : Nat) : Int) ≥ (256 : Int))) then (some ((2 : Int), ([] : List (Int × Int × Int × Int × Int × Int × Bool)))) else (bif (decide (m2.length + [(l.getD x.toNat ((0 : Int), (0 : Int))).2].length ≤ 17592186044416)) then (k7_28 (deep, (IntKind.wrap .i64 (x + (1 : Int))), m0, m1, (m2 ++ [(l.getD x.toNat ((0 : Int), (0 : Int))).2]), m4)) else none)) else (bif ((l.getD x.toNat ((0 : Int), (0 : Int))).1 == (40 : Int)) then (bif (decide (deep ≥ (8 : Int))) then (some ((11 : Int), ([] : List (Int × Int × Int × Int × Int × Int × Bool)))) else (k7_28 ((IntKind.wrap .i64 (deep + (1 : Int))), (IntKind.wrap .i64 (x + (1 : Int))), m0, m1, ([] : List Int), m4))) else (bif ((l.getD x.toNat ((0 : Int), (0 : Int))).1 == (48 : Int)) then (bif (deep == (0 : Int)) then (some ((12 : Int), ([] : List (Int × Int × Int × Int × Int × Int × Bool)))) else (k7_28 ((IntKind.wrap .i64 (deep - (1 : Int))), (IntKind.wrap .i64 (x + (1 : Int))), m0, m1, ([] : List Int), m4))) else (bif ((l.getD x.toNat ((0 : Int), (0 : Int))).1 == (32 : Int)) then (bif ((m0.getD 3 (0 : Int)) == (0 : Int)) then (some ((1 : Int), ([] : List (Int × Int × Int × Int × Int × Int × Bool)))) else (bif (decide ((m0.getD 1 (0 : Int)) > (m0.getD 2 (0 : Int)))) then (some ((1 : Int), ([] : List (Int × Int × Int × Int × Int × Int × Bool)))) else (bif (decide ((m0.getD 4 (0 : Int)) > (IntKind.wrap .i64 ((256 : Int) - ((m4.length : Nat) : Int))))) then (some ((2 : Int), ([] : List (Int × Int × Int × Int × Int × Int × Bool)))) else ((F17 n m4).bind fun y_5 => (bif (decide ((IntKind.wrap .i64 ((m0.getD 4 (0 : Int)) * (m0.getD 3 (0 : Int)))) > (IntKind.wrap .i64 ((512 : Int) - y_5)))) then (some ((2 : Int), ([] : List (Int × Int × Int × Int × Int × Int × Bool)))) else (loopF (F7_l31 n k7_28 l deep x m0 m1 m2) n ((0 : Int), m4))))))) else (k7_28 (deep, (IntKind.wrap .i64 (x + (1 : Int))), m0, m1, m2, m4))))))))))))) else none) else (bif (decide (deep > (0 : Int))) then (some ((4 : Int), ([] : List (Int × Int × Int × Int × Int × Int × Bool)))) else (some ((0 : Int), m4))))
def F7 (n : Nat) (l : List (Int × Int)) : Option (Int × (List (Int × Int × Int × Int × Int × Int × Bool))) := (bif (decide (((l.length : Nat) : Int) > (200 : Int))) then (some ((2 : Int), ([] : List (Int × Int × Int × Int × Int × Int × Bool)))) else (loopF (F7_l28 n l) n ((0 : Int), (0 : Int), (List.replicate 5 (0 : Int)), ([] : List (List Int)), ([] : List Int), ([] : List (Int × Int × Int × Int × Int × Int × Bool)))))
theorem F7_ok (n : Nat) (l : List (Int × Int)) (r : Int × (List (Int × Int × Int × Int × Int × Int × Bool))) (h : F7 n l = some r) : PureC Try.prog 7 [(.sl (.st (.pair (.int .i64) (.int .i64))) l)] (.tup (.cons (.row 0) (.cons (.int .i64 r.1) .nil))) [(.row 29 (.st (.pair (.int .i64) (.pair (.int .i64) (.pair (.int .i64) (.pair (.int .i64) (.pair (.int .i64) (.pair (.int .i64) .bool))))))) r.2)] := by
 refine PureC.mkS Try.func7 rfl rfl ?_
 intro w0 fz0 hfz
 replace h : (bif (decide (((l.length : Nat) : Int) > (200 : Int))) then (some ((2 : Int), ([] : List (Int × Int × Int × Int × Int × Int × Bool)))) else (loopF (F7_l28 n l) n ((0 : Int), (0 : Int), (List.replicate 5 (0 : Int)), ([] : List (List Int)), ([] : List Int), ([] : List (Int × Int × Int × Int × Int × Int × Bool))))) = some r := h
 refine TS.seq ?_
 have hq := (ai tv (ai tv tv))
 refine TS.reg [] ?_ ?_
 ·apply prop_of ?_ hq
  kernel_rfl
 refine XS.then ?_
 refine TS.seq ?_
 refine TS.seq ?_
 have hq := (ai tv (ai tv (ai tv tv)))
 refine TS.reg [] ?_ ?_
 ·apply prop_of ?_ hq
  kernel_rfl
 refine XS.then ?_
 rcases bif_some h with ⟨c1, h⟩ | ⟨c2, h⟩
 ·refine TS.cond (decide (((l.length : Nat) : Int) > (200 : Int))) ?_ (fun hcz => ?_) (fun hcz => by rw [c1] at hcz; cases hcz)
  ·kernel_rfl
  refine TS.seq ?_
  have hq := (ai tv (ai tv tv))
  refine TS.reg [] ?_ ?_
  ·apply prop_of ?_ hq
   kernel_rfl
  refine XS.then ?_
  refine TS.ret ?_
  refine XS.passR ?_
  obtain rfl : ((2 : Int), ([] : List (Int × Int × Int × Int × Int × Int × Bool))) = r := Option.some.inj h
  refine XS.wk (.row false 2 [] 29 (.st (.pair (.int .i64) (.pair (.int .i64) (.pair (.int .i64) (.pair (.int .i64) (.pair (.int .i64) (.pair (.int .i64) .bool)))))))) ?_
  exact XS.fin [0] ((True) ∧ ((True) ∧ (True))) (by kernel_rfl) ⟨trivial, ⟨trivial, trivial⟩⟩
 ·refine TS.cond (decide (((l.length : Nat) : Int) > (200 : Int))) ?_ (fun hcz => by rw [c2] at hcz; cases hcz) (fun hcz => ?_)
  ·kernel_rfl
  refine TS.skip ?_
  refine XS.then ?_
  refine TS.seq ?_
  have hq := (ai tv tv)
  refine TS.reg [] ?_ ?_
  ·apply prop_of ?_ hq
   kernel_rfl
  refine XS.then ?_
  refine TS.seq ?_
  have hq := (ai tv tv)
  refine TS.reg [] ?_ ?_
  ·apply prop_of ?_ hq
   kernel_rfl
  refine XS.then ?_
  refine TS.seq ?_
  have hq := (ai tv tv)
  refine TS.reg [] ?_ ?_
  ·apply prop_of ?_ hq
   kernel_rfl
  refine XS.then ?_
  refine TS.seq ?_
  have hq := (ai tv tv)
  refine TS.reg [] ?_ ?_
  ·apply prop_of ?_ hq
   kernel_rfl
  refine XS.then ?_
  refine TS.seq ?_
  have hq := (ai tv tv)
  refine TS.reg [] ?_ ?_
  ·apply prop_of ?_ hq
   kernel_rfl
  refine XS.then ?_
  refine TS.seq ?_
  have hq := (ai tv (ai tv tv))
  refine TS.reg [] ?_ ?_
  ·apply prop_of ?_ hq
   kernel_rfl
  refine XS.then ?_
  refine TS.seq ?_
  refine TS.seq ?_
  have hq := (ai tv (ai tv (ai tv tv)))
  refine TS.reg [] ?_ ?_
  ·apply prop_of ?_ hq
   kernel_rfl
  refine XS.then ?_
  refine TS.block ?_
  refine TS.wk (.row false 5 [] 57 (.arr 5 (.int .i64))) ?_
  refine TS.wk (.row false 6 [] 3 (.int .i64)) ?_
  refine TS.wk (.row true 1 [] 29 (.st (.pair (.int .i64) (.pair (.int .i64) (.pair (.int .i64) (.pair (.int .i64) (.pair (.int .i64) (.pair (.int .i64) .bool)))))))) ?_
  refine TS.reLoop [0, 2, 3, 1, 4] (mkMask 177 [4, 5, 6, 7, 8, 9, 19, 20, 21]) (D := Int × Int × (List Int) × (List (List Int)) × (List Int) × (List (Int × Int × Int × Int × Int × Int × Bool))) (fun d => match d with | (deep, x, m0, m1, m2, m4) => (mkTs 177 [(4, (.ptr 0 [])), (5, (.row 1)), (6, (.row 2)), (7, (.ptr 3 [])), (8, (.int .i64 deep)), (9, (.fn 17 (.cons (.ptr 3 []) .nil))), (19, (.sl (.st (.pair (.int .i64) (.int .i64))) l)), (20, (.int .i64 ((l.length : Nat) : Int))), (21, (.int .i64 x))], [(.box 57 (.arr 5 (.int .i64) m0)), (.row 57 (.arr 5 (.int .i64)) m1), (.row 3 (.int .i64) m2), (.box 23 (.row 4)), (.row 29 (.st (.pair (.int .i64) (.pair (.int .i64) (.pair (.int .i64) (.pair (.int .i64) (.pair (.int .i64) (.pair (.int .i64) .bool))))))) m4)])) (fun n' d => loopF (F7_l28 n l) n' d = some r) n ((0 : Int), (0 : Int), (List.replicate 5 (0 : Int)), ([] : List (List Int)), ([] : List Int), ([] : List (Int × Int × Int × Int × Int × Int × Bool))) h ?_ (fun d => loopF_zero _ d r) ?_
  ·kernel_rfl
  ·rintro n28 ⟨deep, x, m0, m1, m2, m4⟩ h
   replace h : (bif (decide (x < ((l.length : Nat) : Int))) then (bif inb x l.length then (bif ((l.getD x.toNat ((0 : Int), (0 : Int))).1 == (1 : Int)) then ((loopF (F7_l28 n l) n28) (deep, (IntKind.wrap .i64 (x + (1 : Int))), (m0.set 0 (l.getD x.toNat ((0 : Int), (0 : Int))).2), m1, m2, m4)) else (bif ((l.getD x.toNat ((0 : Int), (0 : Int))).1 == (5 : Int)) then ((loopF (F7_l28 n l) n28) (deep, (IntKind.wrap .i64 (x + (1 : Int))), (m0.set 1 (l.getD x.toNat ((0 : Int), (0 : Int))).2), m1, m2, m4)) else (bif ((l.getD x.toNat ((0 : Int), (0 : Int))).1 == (9 : Int)) then ((loopF (F7_l28 n l) n28) (deep, (IntKind.wrap .i64 (x + (1 : Int))), (m0.set 2 (l.getD x.toNat ((0 : Int), (0 : Int))).2), m1, m2, m4)) else (bif ((l.getD x.toNat ((0 : Int), (0 : Int))).1 == (29 : Int)) then ((F18 n ((l.getD x.toNat ((0 : Int), (0 : Int))).2) (1 : Int) (32 : Int)).bind fun y_3 => (bif (!y_3) then (some ((1 : Int), ([] : List (Int × Int × Int × Int × Int × Int × Bool)))) else ((loopF (F7_l28 n l) n28) (deep, (IntKind.wrap .i64 (x + (1 : Int))), (m0.set 3 (l.getD x.toNat ((0 : Int), (0 : Int))).2), m1, m2, m4)))) else (bif ((l.getD x.toNat ((0 : Int), (0 : Int))).1 == (37 : Int)) then ((F18 n ((l.getD x.toNat ((0 : Int), (0 : Int))).2) (0 : Int) (256 : Int)).bind fun y_4 => (bif (!y_4) then (some ((1 : Int), ([] : List (Int × Int × Int × Int × Int × Int × Bool)))) else ((loopF (F7_l28 n l) n28) (deep, (IntKind.wrap .i64 (x + (1 : Int))), (m0.set 4 (l.getD x.toNat ((0 : Int), (0 : Int))).2), m1, m2, m4)))) else (bif ((l.getD x.toNat ((0 : Int), (0 : Int))).1 == (41 : Int)) then (bif (decide (((m1.length : Nat) : Int) ≥ (4 : Int))) then (some ((11 : Int), ([] : List (Int × Int × Int × Int × Int × Int × Bool)))) else (bif (decide (m1.length + [m0].length ≤ 3518437208883)) then ((loopF (F7_l28 n l) n28) (deep, (IntKind.wrap .i64 (x + (1 : Int))), m0, (m1 ++ [m0]), m2, m4)) else none)) else (bif ((l.getD x.toNat ((0 : Int), (0 : Int))).1 == (45 : Int)) then (bif (((m1.length : Nat) : Int) == (0 : Int)) then (some ((12 : Int), ([] : List (Int × Int × Int × Int × Int × Int × Bool)))) else (bif inb (IntKind.wrap .i64 (((m1.length : Nat) : Int) - (1 : Int))) m1.length then (bif subB m1.length none (some (IntKind.wrap .i64 (((m1.length : Nat) : Int) - (1 : Int)))) then ((loopF (F7_l28 n l) n28) (deep, (IntKind.wrap .i64 (x + (1 : Int))), (m1.getD ((IntKind.wrap .i64 (((m1.length : Nat) : Int) - (1 : Int))).toNat) (List.replicate 5 (0 : Int))), (m1.take ((IntKind.wrap .i64 (((m1.length : Nat) : Int) - (1 : Int))).toNat)), m2, m4)) else none) else none)) else (bif ((l.getD x.toNat ((0 : Int), (0 : Int))).1 == (2 : Int)) then (bif (decide (((m2.length : Nat) : Int) ≥ (256 : Int))) then (some ((2 : Int), ([] : List (Int × Int × Int × Int × Int × Int × Bool)))) else (bif (decide (m2.length + [(l.getD x.toNat ((0 : Int), (0 : Int))).2].length ≤ 17592186044416)) then ((loopF (F7_l28 n l) n28) (deep, (IntKind.wrap .i64 (x + (1 : Int))), m0, m1, (m2 ++ [(l.getD x.toNat ((0 : Int), (0 : Int))).2]), m4)) else none)) else (bif ((l.getD x.toNat ((0 : Int), (0 : Int))).1 == (40 : Int)) then (bif (decide (deep ≥ (8 : Int))) then (some ((11 : Int), ([] : List (Int × Int × Int × Int × Int × Int × Bool)))) else ((loopF (F7_l28 n l) n28) ((IntKind.wrap .i64 (deep + (1 : Int))), (IntKind.wrap .i64 (x + (1 : Int))), m0, m1, ([] : List Int), m4))) else (bif ((l.getD x.toNat ((0 : Int), (0 : Int))).1 == (48 : Int)) then (bif (deep == (0 : Int)) then (some ((12 : Int), ([] : List (Int × Int × Int × Int × Int × Int × Bool)))) else ((loopF (F7_l28 n l) n28) ((IntKind.wrap .i64 (deep - (1 : Int))), (IntKind.wrap .i64 (x + (1 : Int))), m0, m1, ([] : List Int), m4))) else (bif ((l.getD x.toNat ((0 : Int), (0 : Int))).1 == (32 : Int)) then (bif ((m0.getD 3 (0 : Int)) == (0 : Int)) then (some ((1 : Int), ([] : List (Int × Int × Int × Int × Int × Int × Bool)))) else (bif (decide ((m0.getD 1 (0 : Int)) > (m0.getD 2 (0 : Int)))) then (some ((1 : Int), ([] : List (Int × Int × Int × Int × Int × Int × Bool)))) else (bif (decide ((m0.getD 4 (0 : Int)) > (IntKind.wrap .i64 ((256 : Int) - ((m4.length : Nat) : Int))))) then (some ((2 : Int), ([] : List (Int × Int × Int × Int × Int × Int × Bool)))) else ((F17 n m4).bind fun y_5 => (bif (decide ((IntKind.wrap .i64 ((m0.getD 4 (0 : Int)) * (m0.getD 3 (0 : Int)))) > (IntKind.wrap .i64 ((512 : Int) - y_5)))) then (some ((2 : Int), ([] : List (Int × Int × Int × Int × Int × Int × Bool)))) else (loopF (F7_l31 n (loopF (F7_l28 n l) n28) l deep x m0 m1 m2) n ((0 : Int), m4))))))) else ((loopF (F7_l28 n l) n28) (deep, (IntKind.wrap .i64 (x + (1 : Int))), m0, m1, m2, m4))))))))))))) else none) else (bif (decide (deep > (0 : Int))) then (some ((4 : Int), ([] : List (Int × Int × Int × Int × Int × Int × Bool)))) else (some ((0 : Int), m4)))) = some r := h
   refine TS.seq ?_
   have hq := (ai tv tv)
   refine TS.reg [] ?_ ?_
   ·apply prop_of ?_ hq
    kernel_rfl
   refine XS.then ?_
   refine TS.seq ?_
   rcases bif_some h with ⟨c3, h⟩ | ⟨c4, h⟩
   ·refine TS.cond (decide (x < ((l.length : Nat) : Int))) ?_ (fun hcz => ?_) (fun hcz => by rw [c3] at hcz; cases hcz)
    ·kernel_rfl
    refine TS.skip ?_
    refine XS.then ?_
    refine TS.seq ?_
    refine TS.block ?_
    refine TS.seq ?_
    obtain ⟨t5, h⟩ := test_some h
    have hq := (ai (inb_ok t5) (ai tv (ai tv (ai tv tv))))
    refine TS.reg [] ?_ ?_
    ·apply prop_of ?_ hq
     kernel_rfl
    refine XS.then ?_
    refine TS.seq ?_
    have hq := (ai tv (ai tv (ai tv tv)))
    refine TS.reg [] ?_ ?_
    ·apply prop_of ?_ hq
     kernel_rfl
    refine XS.then ?_
    refine TS.seq ?_
    have hq := (ai tv (ai tv tv))
    refine TS.reg [] ?_ ?_
    ·apply prop_of ?_ hq
     kernel_rfl
    refine XS.then ?_
    refine TS.block ?_
    refine TS.seq ?_
    have hq := (ai tv (ai tv tv))
    refine TS.reg [] ?_ ?_
    ·apply prop_of ?_ hq
     kernel_rfl
    refine XS.then ?_
    rcases bif_some h with ⟨c6, h⟩ | ⟨c7, h⟩
    ·refine TS.cond ((l.getD x.toNat ((0 : Int), (0 : Int))).1 == (1 : Int)) ?_ (fun hcz => ?_) (fun hcz => by rw [c6] at hcz; cases hcz)
     ·kernel_rfl
     have hq : (True) ∧ ((inR (0 : Int) 5) ∧ ((0 < 5 ∧ (True)) ∧ (True))) := ⟨trivial, ⟨⟨by decide, by decide⟩, ⟨⟨(by decide), trivial⟩, trivial⟩⟩⟩
     refine TS.reg [] ?_ ?_
     ·apply prop_of ?_ hq
      kernel_rfl
     refine XS.blockEnd ?_
     refine XS.blockEnd ?_
     refine XS.then ?_
     have hq := (ai tv (ai tv tv))
     refine TS.reg [] ?_ ?_
     ·apply prop_of ?_ hq
      kernel_rfl
     refine XS.reAny [0, 1, 2, 3, 4] (mkMask 177 [4, 5, 6, 7, 8, 9, 19, 20, 21]) (deep, (IntKind.wrap .i64 (x + (1 : Int))), (m0.set 0 (l.getD x.toNat ((0 : Int), (0 : Int))).2), m1, m2, m4) h ?_
     kernel_rfl
    ·refine TS.cond ((l.getD x.toNat ((0 : Int), (0 : Int))).1 == (1 : Int)) ?_ (fun hcz => by rw [c7] at hcz; cases hcz) (fun hcz => ?_)
     ·kernel_rfl
     refine TS.seq ?_
     have hq := (ai tv (ai tv tv))
     refine TS.reg [] ?_ ?_
     ·apply prop_of ?_ hq
      kernel_rfl
     refine XS.then ?_
     rcases bif_some h with ⟨c8, h⟩ | ⟨c9, h⟩
     ·refine TS.cond ((l.getD x.toNat ((0 : Int), (0 : Int))).1 == (5 : Int)) ?_ (fun hcz => ?_) (fun hcz => by rw [c8] at hcz; cases hcz)
      ·kernel_rfl
      have hq : (True) ∧ ((inR (1 : Int) 5) ∧ ((1 < 5 ∧ (True)) ∧ (True))) := ⟨trivial, ⟨⟨by decide, by decide⟩, ⟨⟨(by decide), trivial⟩, trivial⟩⟩⟩
      refine TS.reg [] ?_ ?_
      ·apply prop_of ?_ hq
       kernel_rfl
      refine XS.blockEnd ?_
      refine XS.blockEnd ?_
      refine XS.then ?_
      have hq := (ai tv (ai tv tv))
      refine TS.reg [] ?_ ?_
      ·apply prop_of ?_ hq
       kernel_rfl
      refine XS.reAny [0, 1, 2, 3, 4] (mkMask 177 [4, 5, 6, 7, 8, 9, 19, 20, 21]) (deep, (IntKind.wrap .i64 (x + (1 : Int))), (m0.set 1 (l.getD x.toNat ((0 : Int), (0 : Int))).2), m1, m2, m4) h ?_
      kernel_rfl
     ·refine TS.cond ((l.getD x.toNat ((0 : Int), (0 : Int))).1 == (5 : Int)) ?_ (fun hcz => by rw [c9] at hcz; cases hcz) (fun hcz => ?_)
      ·kernel_rfl
      refine TS.seq ?_
      have hq := (ai tv (ai tv tv))
      refine TS.reg [] ?_ ?_
      ·apply prop_of ?_ hq
       kernel_rfl
      refine XS.then ?_
      rcases bif_some h with ⟨c10, h⟩ | ⟨c11, h⟩
      ·refine TS.cond ((l.getD x.toNat ((0 : Int), (0 : Int))).1 == (9 : Int)) ?_ (fun hcz => ?_) (fun hcz => by rw [c10] at hcz; cases hcz)
       ·kernel_rfl
       have hq : (True) ∧ ((inR (2 : Int) 5) ∧ ((2 < 5 ∧ (True)) ∧ (True))) := ⟨trivial, ⟨⟨by decide, by decide⟩, ⟨⟨(by decide), trivial⟩, trivial⟩⟩⟩
       refine TS.reg [] ?_ ?_
       ·apply prop_of ?_ hq
        kernel_rfl
       refine XS.blockEnd ?_
       refine XS.blockEnd ?_
       refine XS.then ?_
       have hq := (ai tv (ai tv tv))
       refine TS.reg [] ?_ ?_
       ·apply prop_of ?_ hq
        kernel_rfl
       refine XS.reAny [0, 1, 2, 3, 4] (mkMask 177 [4, 5, 6, 7, 8, 9, 19, 20, 21]) (deep, (IntKind.wrap .i64 (x + (1 : Int))), (m0.set 2 (l.getD x.toNat ((0 : Int), (0 : Int))).2), m1, m2, m4) h ?_
       kernel_rfl
      ·refine TS.cond ((l.getD x.toNat ((0 : Int), (0 : Int))).1 == (9 : Int)) ?_ (fun hcz => by rw [c11] at hcz; cases hcz) (fun hcz => ?_)
       ·kernel_rfl
       refine TS.seq ?_
       have hq := (ai tv (ai tv tv))
       refine TS.reg [] ?_ ?_
       ·apply prop_of ?_ hq
        kernel_rfl
       refine XS.then ?_
       rcases bif_some h with ⟨c12, h⟩ | ⟨c13, h⟩
       ·refine TS.cond ((l.getD x.toNat ((0 : Int), (0 : Int))).1 == (29 : Int)) ?_ (fun hcz => ?_) (fun hcz => by rw [c12] at hcz; cases hcz)
        ·kernel_rfl
        refine TS.seq ?_
        refine TS.seq ?_
        obtain ⟨y_3, hx14, h⟩ := bind_some' h
        have hq := (ai tv (ai (F18_ok n ((l.getD x.toNat ((0 : Int), (0 : Int))).2) (1 : Int) (32 : Int) y_3 hx14) (ai tv tv)))
        refine TS.reg [.none, (.call (.bool y_3) [])] ?_ ?_
        ·apply prop_of ?_ hq
         kernel_rfl
        refine XS.then ?_
        rcases bif_some h with ⟨c15, h⟩ | ⟨c16, h⟩
        ·refine TS.cond (!y_3) ?_ (fun hcz => ?_) (fun hcz => by rw [c15] at hcz; cases hcz)
         ·kernel_rfl
         refine TS.seq ?_
         have hq := (ai tv (ai tv tv))
         refine TS.reg [] ?_ ?_
         ·apply prop_of ?_ hq
          kernel_rfl
         refine XS.then ?_
         refine TS.ret ?_
         refine XS.passR ?_
         refine XS.blockRet ?_
         refine XS.blockRet ?_
         refine XS.passR ?_
         refine XS.passR ?_
         refine XS.blockRet ?_
         refine XS.passR ?_
         obtain rfl : ((1 : Int), ([] : List (Int × Int × Int × Int × Int × Int × Bool))) = r := Option.some.inj h
         refine XS.wk (.row false 2 [] 29 (.st (.pair (.int .i64) (.pair (.int .i64) (.pair (.int .i64) (.pair (.int .i64) (.pair (.int .i64) (.pair (.int .i64) .bool)))))))) ?_
         exact XS.fin [6] ((True) ∧ ((True) ∧ (True))) (by kernel_rfl) ⟨trivial, ⟨trivial, trivial⟩⟩
        ·refine TS.cond (!y_3) ?_ (fun hcz => by rw [c16] at hcz; cases hcz) (fun hcz => ?_)
         ·kernel_rfl
         refine TS.skip ?_
         refine XS.then ?_
         have hq : (True) ∧ ((inR (3 : Int) 5) ∧ ((3 < 5 ∧ (True)) ∧ (True))) := ⟨trivial, ⟨⟨by decide, by decide⟩, ⟨⟨(by decide), trivial⟩, trivial⟩⟩⟩
         refine TS.reg [] ?_ ?_
         ·apply prop_of ?_ hq
          kernel_rfl
         refine XS.blockEnd ?_
         refine XS.blockEnd ?_
         refine XS.then ?_
         have hq := (ai tv (ai tv tv))
         refine TS.reg [] ?_ ?_
         ·apply prop_of ?_ hq
          kernel_rfl
         refine XS.reAny [0, 1, 2, 3, 4] (mkMask 177 [4, 5, 6, 7, 8, 9, 19, 20, 21]) (deep, (IntKind.wrap .i64 (x + (1 : Int))), (m0.set 3 (l.getD x.toNat ((0 : Int), (0 : Int))).2), m1, m2, m4) h ?_
         kernel_rfl
       ·refine TS.cond ((l.getD x.toNat ((0 : Int), (0 : Int))).1 == (29 : Int)) ?_ (fun hcz => by rw [c13] at hcz; cases hcz) (fun hcz => ?_)
        ·kernel_rfl
        refine TS.seq ?_
        have hq := (ai tv (ai tv tv))
        refine TS.reg [] ?_ ?_
        ·apply prop_of ?_ hq
         kernel_rfl
        refine XS.then ?_
        rcases bif_some h with ⟨c17, h⟩ | ⟨c18, h⟩
        ·refine TS.cond ((l.getD x.toNat ((0 : Int), (0 : Int))).1 == (37 : Int)) ?_ (fun hcz => ?_) (fun hcz => by rw [c17] at hcz; cases hcz)
         ·kernel_rfl
         refine TS.seq ?_
         refine TS.seq ?_
         obtain ⟨y_4, hx19, h⟩ := bind_some' h
         have hq := (ai tv (ai (F18_ok n ((l.getD x.toNat ((0 : Int), (0 : Int))).2) (0 : Int) (256 : Int) y_4 hx19) (ai tv tv)))
         refine TS.reg [.none, (.call (.bool y_4) [])] ?_ ?_
         ·apply prop_of ?_ hq
          kernel_rfl
         refine XS.then ?_
         rcases bif_some h with ⟨c20, h⟩ | ⟨c21, h⟩
         ·refine TS.cond (!y_4) ?_ (fun hcz => ?_) (fun hcz => by rw [c20] at hcz; cases hcz)
          ·kernel_rfl
          refine TS.seq ?_
          have hq := (ai tv (ai tv tv))
          refine TS.reg [] ?_ ?_
          ·apply prop_of ?_ hq
           kernel_rfl
          refine XS.then ?_
          refine TS.ret ?_
          refine XS.passR ?_
          refine XS.blockRet ?_
          refine XS.blockRet ?_
          refine XS.passR ?_
          refine XS.passR ?_
          refine XS.blockRet ?_
          refine XS.passR ?_
          obtain rfl : ((1 : Int), ([] : List (Int × Int × Int × Int × Int × Int × Bool))) = r := Option.some.inj h
          refine XS.wk (.row false 2 [] 29 (.st (.pair (.int .i64) (.pair (.int .i64) (.pair (.int .i64) (.pair (.int .i64) (.pair (.int .i64) (.pair (.int .i64) .bool)))))))) ?_
          exact XS.fin [6] ((True) ∧ ((True) ∧ (True))) (by kernel_rfl) ⟨trivial, ⟨trivial, trivial⟩⟩
         ·refine TS.cond (!y_4) ?_ (fun hcz => by rw [c21] at hcz; cases hcz) (fun hcz => ?_)
          ·kernel_rfl
          refine TS.skip ?_
          refine XS.then ?_
          have hq : (True) ∧ ((inR (4 : Int) 5) ∧ ((4 < 5 ∧ (True)) ∧ (True))) := ⟨trivial, ⟨⟨by decide, by decide⟩, ⟨⟨(by decide), trivial⟩, trivial⟩⟩⟩
          refine TS.reg [] ?_ ?_
          ·apply prop_of ?_ hq
           kernel_rfl
          refine XS.blockEnd ?_
          refine XS.blockEnd ?_
          refine XS.then ?_
          have hq := (ai tv (ai tv tv))
          refine TS.reg [] ?_ ?_
          ·apply prop_of ?_ hq
           kernel_rfl
          refine XS.reAny [0, 1, 2, 3, 4] (mkMask 177 [4, 5, 6, 7, 8, 9, 19, 20, 21]) (deep, (IntKind.wrap .i64 (x + (1 : Int))), (m0.set 4 (l.getD x.toNat ((0 : Int), (0 : Int))).2), m1, m2, m4) h ?_
          kernel_rfl
        ·refine TS.cond ((l.getD x.toNat ((0 : Int), (0 : Int))).1 == (37 : Int)) ?_ (fun hcz => by rw [c18] at hcz; cases hcz) (fun hcz => ?_)
         ·kernel_rfl
         refine TS.seq ?_
         have hq := (ai tv (ai tv tv))
         refine TS.reg [] ?_ ?_
         ·apply prop_of ?_ hq
          kernel_rfl
         refine XS.then ?_
         rcases bif_some h with ⟨c22, h⟩ | ⟨c23, h⟩
         ·refine TS.cond ((l.getD x.toNat ((0 : Int), (0 : Int))).1 == (41 : Int)) ?_ (fun hcz => ?_) (fun hcz => by rw [c22] at hcz; cases hcz)
          ·kernel_rfl
          refine TS.seq ?_
          refine TS.seq ?_
          have hq := (ai tv (ai tv (ai tv tv)))
          refine TS.reg [] ?_ ?_
          ·apply prop_of ?_ hq
           kernel_rfl
          refine XS.then ?_
          rcases bif_some h with ⟨c24, h⟩ | ⟨c25, h⟩
          ·refine TS.cond (decide (((m1.length : Nat) : Int) ≥ (4 : Int))) ?_ (fun hcz => ?_) (fun hcz => by rw [c24] at hcz; cases hcz)
           ·kernel_rfl
           refine TS.seq ?_
           have hq := (ai tv (ai tv tv))
           refine TS.reg [] ?_ ?_
           ·apply prop_of ?_ hq
            kernel_rfl
           refine XS.then ?_
           refine TS.ret ?_
           refine XS.passR ?_
           refine XS.blockRet ?_
           refine XS.blockRet ?_
           refine XS.passR ?_
           refine XS.passR ?_
           refine XS.blockRet ?_
           refine XS.passR ?_
           obtain rfl : ((11 : Int), ([] : List (Int × Int × Int × Int × Int × Int × Bool))) = r := Option.some.inj h
           refine XS.wk (.row false 2 [] 29 (.st (.pair (.int .i64) (.pair (.int .i64) (.pair (.int .i64) (.pair (.int .i64) (.pair (.int .i64) (.pair (.int .i64) .bool)))))))) ?_
           exact XS.fin [6] ((True) ∧ ((True) ∧ (True))) (by kernel_rfl) ⟨trivial, ⟨trivial, trivial⟩⟩
          ·refine TS.cond (decide (((m1.length : Nat) : Int) ≥ (4 : Int))) ?_ (fun hcz => by rw [c25] at hcz; cases hcz) (fun hcz => ?_)
           ·kernel_rfl
           refine TS.skip ?_
           refine XS.then ?_
           obtain ⟨t26, h⟩ := test_some h
           have hq : (True) ∧ ((True) ∧ (((0 < 1 ∧ True) ∧ (True)) ∧ ((m1.length + [m0].length ≤ 3518437208883) ∧ ((True) ∧ (True))))) := ⟨trivial, ⟨trivial, ⟨⟨⟨by decide, trivial⟩, trivial⟩, ⟨of_decide_eq_true t26, ⟨trivial, trivial⟩⟩⟩⟩⟩
           refine TS.reg [] ?_ ?_
           ·apply prop_of ?_ hq
            kernel_rfl
           refine XS.blockEnd ?_
           refine XS.blockEnd ?_
           refine XS.then ?_
           have hq := (ai tv (ai tv tv))
           refine TS.reg [] ?_ ?_
           ·apply prop_of ?_ hq
            kernel_rfl
           refine XS.reAny [0, 7, 2, 3, 4] (mkMask 177 [4, 5, 6, 7, 8, 9, 19, 20, 21]) (deep, (IntKind.wrap .i64 (x + (1 : Int))), m0, (m1 ++ [m0]), m2, m4) h ?_
           kernel_rfl
         ·refine TS.cond ((l.getD x.toNat ((0 : Int), (0 : Int))).1 == (41 : Int)) ?_ (fun hcz => by rw [c23] at hcz; cases hcz) (fun hcz => ?_)
          ·kernel_rfl
          refine TS.seq ?_
          have hq := (ai tv (ai tv tv))
          refine TS.reg [] ?_ ?_
          ·apply prop_of ?_ hq
           kernel_rfl
          refine XS.then ?_
          rcases bif_some h with ⟨c27, h⟩ | ⟨c28, h⟩
          ·refine TS.cond ((l.getD x.toNat ((0 : Int), (0 : Int))).1 == (45 : Int)) ?_ (fun hcz => ?_) (fun hcz => by rw [c27] at hcz; cases hcz)
           ·kernel_rfl
           refine TS.seq ?_
           refine TS.seq ?_
           have hq := (ai tv (ai tv (ai tv tv)))
           refine TS.reg [] ?_ ?_
           ·apply prop_of ?_ hq
            kernel_rfl
           refine XS.then ?_
           rcases bif_some h with ⟨c29, h⟩ | ⟨c30, h⟩
           ·refine TS.cond (((m1.length : Nat) : Int) == (0 : Int)) ?_ (fun hcz => ?_) (fun hcz => by rw [c29] at hcz; cases hcz)
            ·kernel_rfl
            refine TS.seq ?_
            have hq := (ai tv (ai tv tv))
            refine TS.reg [] ?_ ?_
            ·apply prop_of ?_ hq
             kernel_rfl
            refine XS.then ?_
            refine TS.ret ?_
            refine XS.passR ?_
            refine XS.blockRet ?_
            refine XS.blockRet ?_
            refine XS.passR ?_
            refine XS.passR ?_
            refine XS.blockRet ?_
            refine XS.passR ?_
            obtain rfl : ((12 : Int), ([] : List (Int × Int × Int × Int × Int × Int × Bool))) = r := Option.some.inj h
            refine XS.wk (.row false 2 [] 29 (.st (.pair (.int .i64) (.pair (.int .i64) (.pair (.int .i64) (.pair (.int .i64) (.pair (.int .i64) (.pair (.int .i64) .bool)))))))) ?_
            exact XS.fin [6] ((True) ∧ ((True) ∧ (True))) (by kernel_rfl) ⟨trivial, ⟨trivial, trivial⟩⟩
           ·refine TS.cond (((m1.length : Nat) : Int) == (0 : Int)) ?_ (fun hcz => by rw [c30] at hcz; cases hcz) (fun hcz => ?_)
            ·kernel_rfl
            refine TS.skip ?_
            refine XS.then ?_
            obtain ⟨t31, h⟩ := test_some h
            obtain ⟨t32, h⟩ := test_some h
            have hq : ((True) ∧ ((True) ∧ ((True) ∧ ((True) ∧ ((inR (IntKind.wrap .i64 (((m1.length : Nat) : Int) - (1 : Int))) m1.length) ∧ ((((IntKind.wrap .i64 (((m1.length : Nat) : Int) - (1 : Int))).toNat) < m1.length ∧ (True)) ∧ ((True) ∧ ((True) ∧ ((True) ∧ ((True) ∧ ((subC m1.length none (some (IntKind.wrap .i64 (((m1.length : Nat) : Int) - (1 : Int))))) ∧ ((True) ∧ (True))))))))))))) ∧ ((True) ∧ (True)) := ⟨⟨trivial, ⟨trivial, ⟨trivial, ⟨trivial, ⟨inb_ok t31, ⟨⟨inR_lt (inb_ok t31), trivial⟩, ⟨trivial, ⟨trivial, ⟨trivial, ⟨trivial, ⟨subB_ok t32, ⟨trivial, trivial⟩⟩⟩⟩⟩⟩⟩⟩⟩⟩⟩⟩, ⟨trivial, trivial⟩⟩
            refine TS.draw 12 [(11, 0)] [] (by kernel_rfl) ?_ ?_
            ·apply prop_of ?_ hq
             kernel_rfl
            refine XS.blockEnd ?_
            refine XS.blockEnd ?_
            refine XS.then ?_
            have hq := (ai tv (ai tv tv))
            refine TS.reg [] ?_ ?_
            ·apply prop_of ?_ hq
             kernel_rfl
            refine XS.wk (.cut 1 false 5 []) ?_
            refine XS.reAny [0, 6, 2, 3, 4] (mkMask 177 [4, 5, 6, 7, 8, 9, 19, 20, 21]) (deep, (IntKind.wrap .i64 (x + (1 : Int))), (m1.getD ((IntKind.wrap .i64 (((m1.length : Nat) : Int) - (1 : Int))).toNat) (List.replicate 5 (0 : Int))), (m1.take ((IntKind.wrap .i64 (((m1.length : Nat) : Int) - (1 : Int))).toNat)), m2, m4) h ?_
            kernel_rfl
          ·refine TS.cond ((l.getD x.toNat ((0 : Int), (0 : Int))).1 == (45 : Int)) ?_ (fun hcz => by rw [c28] at hcz; cases hcz) (fun hcz => ?_)
           ·kernel_rfl
           refine TS.seq ?_
           have hq := (ai tv (ai tv tv))
           refine TS.reg [] ?_ ?_
           ·apply prop_of ?_ hq
            kernel_rfl
           refine XS.then ?_
           rcases bif_some h with ⟨c33, h⟩ | ⟨c34, h⟩
           ·refine TS.cond ((l.getD x.toNat ((0 : Int), (0 : Int))).1 == (2 : Int)) ?_ (fun hcz => ?_) (fun hcz => by rw [c33] at hcz; cases hcz)
            ·kernel_rfl
            refine TS.seq ?_
            refine TS.seq ?_
            have hq := (ai tv (ai tv (ai tv tv)))
            refine TS.reg [] ?_ ?_
            ·apply prop_of ?_ hq
             kernel_rfl
            refine XS.then ?_
            rcases bif_some h with ⟨c35, h⟩ | ⟨c36, h⟩
            ·refine TS.cond (decide (((m2.length : Nat) : Int) ≥ (256 : Int))) ?_ (fun hcz => ?_) (fun hcz => by rw [c35] at hcz; cases hcz)
             ·kernel_rfl
             refine TS.seq ?_
             have hq := (ai tv (ai tv tv))
             refine TS.reg [] ?_ ?_
             ·apply prop_of ?_ hq
              kernel_rfl
             refine XS.then ?_
             refine TS.ret ?_
             refine XS.passR ?_
             refine XS.blockRet ?_
             refine XS.blockRet ?_
             refine XS.passR ?_
             refine XS.passR ?_
             refine XS.blockRet ?_
             refine XS.passR ?_
             obtain rfl : ((2 : Int), ([] : List (Int × Int × Int × Int × Int × Int × Bool))) = r := Option.some.inj h
             refine XS.wk (.row false 2 [] 29 (.st (.pair (.int .i64) (.pair (.int .i64) (.pair (.int .i64) (.pair (.int .i64) (.pair (.int .i64) (.pair (.int .i64) .bool)))))))) ?_
             exact XS.fin [6] ((True) ∧ ((True) ∧ (True))) (by kernel_rfl) ⟨trivial, ⟨trivial, trivial⟩⟩
            ·refine TS.cond (decide (((m2.length : Nat) : Int) ≥ (256 : Int))) ?_ (fun hcz => by rw [c36] at hcz; cases hcz) (fun hcz => ?_)
             ·kernel_rfl
             refine TS.skip ?_
             refine XS.then ?_
             obtain ⟨t37, h⟩ := test_some h
             have hq : (True) ∧ ((True) ∧ (((0 < 1 ∧ True) ∧ (True)) ∧ ((m2.length + [(l.getD x.toNat ((0 : Int), (0 : Int))).2].length ≤ 17592186044416) ∧ ((True) ∧ (True))))) := ⟨trivial, ⟨trivial, ⟨⟨⟨by decide, trivial⟩, trivial⟩, ⟨of_decide_eq_true t37, ⟨trivial, trivial⟩⟩⟩⟩⟩
             refine TS.reg [] ?_ ?_
             ·apply prop_of ?_ hq
              kernel_rfl
             refine XS.blockEnd ?_
             refine XS.blockEnd ?_
             refine XS.then ?_
             have hq := (ai tv (ai tv tv))
             refine TS.reg [] ?_ ?_
             ·apply prop_of ?_ hq
              kernel_rfl
             refine XS.reAny [0, 1, 7, 3, 4] (mkMask 177 [4, 5, 6, 7, 8, 9, 19, 20, 21]) (deep, (IntKind.wrap .i64 (x + (1 : Int))), m0, m1, (m2 ++ [(l.getD x.toNat ((0 : Int), (0 : Int))).2]), m4) h ?_
             kernel_rfl
           ·refine TS.cond ((l.getD x.toNat ((0 : Int), (0 : Int))).1 == (2 : Int)) ?_ (fun hcz => by rw [c34] at hcz; cases hcz) (fun hcz => ?_)
            ·kernel_rfl
            refine TS.seq ?_
            have hq := (ai tv (ai tv tv))
            refine TS.reg [] ?_ ?_
            ·apply prop_of ?_ hq
             kernel_rfl
            refine XS.then ?_
            rcases bif_some h with ⟨c38, h⟩ | ⟨c39, h⟩
            ·refine TS.cond ((l.getD x.toNat ((0 : Int), (0 : Int))).1 == (40 : Int)) ?_ (fun hcz => ?_) (fun hcz => by rw [c38] at hcz; cases hcz)
             ·kernel_rfl
             refine TS.seq ?_
             refine TS.seq ?_
             have hq := (ai tv tv)
             refine TS.reg [] ?_ ?_
             ·apply prop_of ?_ hq
              kernel_rfl
             refine XS.then ?_
             refine TS.seq ?_
             have hq := (ai tv (ai tv tv))
             refine TS.reg [] ?_ ?_
             ·apply prop_of ?_ hq
              kernel_rfl
             refine XS.then ?_
             rcases bif_some h with ⟨c40, h⟩ | ⟨c41, h⟩
             ·refine TS.cond (decide (deep ≥ (8 : Int))) ?_ (fun hcz => ?_) (fun hcz => by rw [c40] at hcz; cases hcz)
              ·kernel_rfl
              refine TS.seq ?_
              have hq := (ai tv (ai tv tv))
              refine TS.reg [] ?_ ?_
              ·apply prop_of ?_ hq
               kernel_rfl
              refine XS.then ?_
              refine TS.ret ?_
              refine XS.passR ?_
              refine XS.blockRet ?_
              refine XS.blockRet ?_
              refine XS.passR ?_
              refine XS.passR ?_
              refine XS.blockRet ?_
              refine XS.passR ?_
              obtain rfl : ((11 : Int), ([] : List (Int × Int × Int × Int × Int × Int × Bool))) = r := Option.some.inj h
              refine XS.wk (.row false 2 [] 29 (.st (.pair (.int .i64) (.pair (.int .i64) (.pair (.int .i64) (.pair (.int .i64) (.pair (.int .i64) (.pair (.int .i64) .bool)))))))) ?_
              exact XS.fin [6] ((True) ∧ ((True) ∧ (True))) (by kernel_rfl) ⟨trivial, ⟨trivial, trivial⟩⟩
             ·refine TS.cond (decide (deep ≥ (8 : Int))) ?_ (fun hcz => by rw [c41] at hcz; cases hcz) (fun hcz => ?_)
              ·kernel_rfl
              refine TS.skip ?_
              refine XS.then ?_
              have hq := (ai tv (ai tv (ai tv tv)))
              refine TS.reg [] ?_ ?_
              ·apply prop_of ?_ hq
               kernel_rfl
              refine XS.blockEnd ?_
              refine XS.blockEnd ?_
              refine XS.then ?_
              have hq := (ai tv (ai tv tv))
              refine TS.reg [] ?_ ?_
              ·apply prop_of ?_ hq
               kernel_rfl
              refine XS.wk (.row false 6 [] 3 (.int .i64)) ?_
              refine XS.reAny [0, 1, 6, 3, 4] (mkMask 177 [4, 5, 6, 7, 8, 9, 19, 20, 21]) ((IntKind.wrap .i64 (deep + (1 : Int))), (IntKind.wrap .i64 (x + (1 : Int))), m0, m1, ([] : List Int), m4) h ?_
              kernel_rfl
            ·refine TS.cond ((l.getD x.toNat ((0 : Int), (0 : Int))).1 == (40 : Int)) ?_ (fun hcz => by rw [c39] at hcz; cases hcz) (fun hcz => ?_)
             ·kernel_rfl
             refine TS.seq ?_
             have hq := (ai tv (ai tv tv))
             refine TS.reg [] ?_ ?_
             ·apply prop_of ?_ hq
              kernel_rfl
             refine XS.then ?_
             rcases bif_some h with ⟨c42, h⟩ | ⟨c43, h⟩
             ·refine TS.cond ((l.getD x.toNat ((0 : Int), (0 : Int))).1 == (48 : Int)) ?_ (fun hcz => ?_) (fun hcz => by rw [c42] at hcz; cases hcz)
              ·kernel_rfl
              refine TS.seq ?_
              refine TS.seq ?_
              have hq := (ai tv tv)
              refine TS.reg [] ?_ ?_
              ·apply prop_of ?_ hq
               kernel_rfl
              refine XS.then ?_
              refine TS.seq ?_
              have hq := (ai tv (ai tv tv))
              refine TS.reg [] ?_ ?_
              ·apply prop_of ?_ hq
               kernel_rfl
              refine XS.then ?_
              rcases bif_some h with ⟨c44, h⟩ | ⟨c45, h⟩
              ·refine TS.cond (deep == (0 : Int)) ?_ (fun hcz => ?_) (fun hcz => by rw [c44] at hcz; cases hcz)
               ·kernel_rfl
               refine TS.seq ?_
               have hq := (ai tv (ai tv tv))
               refine TS.reg [] ?_ ?_
               ·apply prop_of ?_ hq
                kernel_rfl
               refine XS.then ?_
               refine TS.ret ?_
               refine XS.passR ?_
               refine XS.blockRet ?_
               refine XS.blockRet ?_
               refine XS.passR ?_
               refine XS.passR ?_
               refine XS.blockRet ?_
               refine XS.passR ?_
               obtain rfl : ((12 : Int), ([] : List (Int × Int × Int × Int × Int × Int × Bool))) = r := Option.some.inj h
               refine XS.wk (.row false 2 [] 29 (.st (.pair (.int .i64) (.pair (.int .i64) (.pair (.int .i64) (.pair (.int .i64) (.pair (.int .i64) (.pair (.int .i64) .bool)))))))) ?_
               exact XS.fin [6] ((True) ∧ ((True) ∧ (True))) (by kernel_rfl) ⟨trivial, ⟨trivial, trivial⟩⟩
              ·refine TS.cond (deep == (0 : Int)) ?_ (fun hcz => by rw [c45] at hcz; cases hcz) (fun hcz => ?_)
               ·kernel_rfl
               refine TS.skip ?_
               refine XS.then ?_
               have hq := (ai tv (ai tv (ai tv tv)))
               refine TS.reg [] ?_ ?_
               ·apply prop_of ?_ hq
                kernel_rfl
               refine XS.blockEnd ?_
               refine XS.blockEnd ?_
               refine XS.then ?_
               have hq := (ai tv (ai tv tv))
               refine TS.reg [] ?_ ?_
               ·apply prop_of ?_ hq
                kernel_rfl
               refine XS.wk (.row false 6 [] 3 (.int .i64)) ?_
               refine XS.reAny [0, 1, 6, 3, 4] (mkMask 177 [4, 5, 6, 7, 8, 9, 19, 20, 21]) ((IntKind.wrap .i64 (deep - (1 : Int))), (IntKind.wrap .i64 (x + (1 : Int))), m0, m1, ([] : List Int), m4) h ?_
               kernel_rfl
             ·refine TS.cond ((l.getD x.toNat ((0 : Int), (0 : Int))).1 == (48 : Int)) ?_ (fun hcz => by rw [c43] at hcz; cases hcz) (fun hcz => ?_)
              ·kernel_rfl
              refine TS.seq ?_
              have hq := (ai tv (ai tv tv))
              refine TS.reg [] ?_ ?_
              ·apply prop_of ?_ hq
               kernel_rfl
              refine XS.then ?_
              rcases bif_some h with ⟨c46, h⟩ | ⟨c47, h⟩
              ·refine TS.cond ((l.getD x.toNat ((0 : Int), (0 : Int))).1 == (32 : Int)) ?_ (fun hcz => ?_) (fun hcz => by rw [c46] at hcz; cases hcz)
               ·kernel_rfl
               refine TS.seq ?_
               refine TS.seq ?_
               rcases bif_some h with ⟨c48, h⟩ | ⟨c49, h⟩
               ·have hq : (inR (3 : Int) 5) ∧ ((3 < 5 ∧ (True)) ∧ ((True) ∧ (((True) ∧ ((m0.getD 3 (0 : Int)) == (0 : Int)) = true) ∧ ((True) ∧ (True))))) := ⟨⟨by decide, by decide⟩, ⟨⟨(by decide), trivial⟩, ⟨trivial, ⟨⟨trivial, c48⟩, ⟨trivial, trivial⟩⟩⟩⟩⟩
                refine TS.reg [.none, .none, .none, .dec true] ?_ ?_
                ·apply prop_of ?_ hq
                 kernel_rfl
                refine XS.then ?_
                refine TS.yes ?_ ?_
                ·kernel_rfl
                refine TS.seq ?_
                have hq := (ai tv (ai tv tv))
                refine TS.reg [] ?_ ?_
                ·apply prop_of ?_ hq
                 kernel_rfl
                refine XS.then ?_
                refine TS.ret ?_
                refine XS.passR ?_
                refine XS.blockRet ?_
                refine XS.blockRet ?_
                refine XS.passR ?_
                refine XS.passR ?_
                refine XS.blockRet ?_
                refine XS.passR ?_
                obtain rfl : ((1 : Int), ([] : List (Int × Int × Int × Int × Int × Int × Bool))) = r := Option.some.inj h
                refine XS.wk (.row false 2 [] 29 (.st (.pair (.int .i64) (.pair (.int .i64) (.pair (.int .i64) (.pair (.int .i64) (.pair (.int .i64) (.pair (.int .i64) .bool)))))))) ?_
                exact XS.fin [6] ((True) ∧ ((True) ∧ (True))) (by kernel_rfl) ⟨trivial, ⟨trivial, trivial⟩⟩
               ·have hq : (inR (3 : Int) 5) ∧ ((3 < 5 ∧ (True)) ∧ ((True) ∧ (((True) ∧ ((m0.getD 3 (0 : Int)) == (0 : Int)) = false) ∧ ((inR (1 : Int) 5) ∧ ((1 < 5 ∧ (True)) ∧ ((inR (2 : Int) 5) ∧ ((2 < 5 ∧ (True)) ∧ ((True) ∧ ((True) ∧ (True)))))))))) := ⟨⟨by decide, by decide⟩, ⟨⟨(by decide), trivial⟩, ⟨trivial, ⟨⟨trivial, c49⟩, ⟨⟨by decide, by decide⟩, ⟨⟨(by decide), trivial⟩, ⟨⟨by decide, by decide⟩, ⟨⟨(by decide), trivial⟩, ⟨trivial, ⟨trivial, trivial⟩⟩⟩⟩⟩⟩⟩⟩⟩⟩
                refine TS.reg [.none, .none, .none, .dec false] ?_ ?_
                ·apply prop_of ?_ hq
                 kernel_rfl
                refine XS.then ?_
                rcases bif_some h with ⟨c50, h⟩ | ⟨c51, h⟩
                ·refine TS.cond (decide ((m0.getD 1 (0 : Int)) > (m0.getD 2 (0 : Int)))) ?_ (fun hcz => ?_) (fun hcz => by rw [c50] at hcz; cases hcz)
                 ·kernel_rfl
                 refine TS.seq ?_
                 have hq := (ai tv (ai tv tv))
                 refine TS.reg [] ?_ ?_
                 ·apply prop_of ?_ hq
                  kernel_rfl
                 refine XS.then ?_
                 refine TS.ret ?_
                 refine XS.passR ?_
                 refine XS.blockRet ?_
                 refine XS.blockRet ?_
                 refine XS.passR ?_
                 refine XS.passR ?_
                 refine XS.blockRet ?_
                 refine XS.passR ?_
                 obtain rfl : ((1 : Int), ([] : List (Int × Int × Int × Int × Int × Int × Bool))) = r := Option.some.inj h
                 refine XS.wk (.row false 2 [] 29 (.st (.pair (.int .i64) (.pair (.int .i64) (.pair (.int .i64) (.pair (.int .i64) (.pair (.int .i64) (.pair (.int .i64) .bool)))))))) ?_
                 exact XS.fin [6] ((True) ∧ ((True) ∧ (True))) (by kernel_rfl) ⟨trivial, ⟨trivial, trivial⟩⟩
                ·refine TS.cond (decide ((m0.getD 1 (0 : Int)) > (m0.getD 2 (0 : Int)))) ?_ (fun hcz => by rw [c51] at hcz; cases hcz) (fun hcz => ?_)
                 ·kernel_rfl
                 refine TS.skip ?_
                 refine XS.then ?_
                 refine TS.seq ?_
                 refine TS.seq ?_
                 rcases bif_some h with ⟨c52, h⟩ | ⟨c53, h⟩
                 ·have hq : ((inR (4 : Int) 5) ∧ ((4 < 5 ∧ (True)) ∧ ((True) ∧ ((True) ∧ ((True) ∧ ((True) ∧ (((True) ∧ (decide ((m0.getD 4 (0 : Int)) > (IntKind.wrap .i64 ((256 : Int) - ((m4.length : Nat) : Int))))) = true) ∧ ((True) ∧ (True))))))))) ∧ (True) := ⟨⟨⟨by decide, by decide⟩, ⟨⟨(by decide), trivial⟩, ⟨trivial, ⟨trivial, ⟨trivial, ⟨trivial, ⟨⟨trivial, c52⟩, ⟨trivial, trivial⟩⟩⟩⟩⟩⟩⟩⟩, trivial⟩
                  refine TS.draw 17 [] [.none, .none, .none, .none, .none, .none, .dec true] (by kernel_rfl) ?_ ?_
                  ·apply prop_of ?_ hq
                   kernel_rfl
                  refine XS.then ?_
                  refine TS.yes ?_ ?_
                  ·kernel_rfl
                  refine TS.seq ?_
                  have hq := (ai tv (ai tv tv))
                  refine TS.reg [] ?_ ?_
                  ·apply prop_of ?_ hq
                   kernel_rfl
                  refine XS.then ?_
                  refine TS.ret ?_
                  refine XS.passR ?_
                  refine XS.blockRet ?_
                  refine XS.blockRet ?_
                  refine XS.passR ?_
                  refine XS.passR ?_
                  refine XS.blockRet ?_
                  refine XS.passR ?_
                  obtain rfl : ((2 : Int), ([] : List (Int × Int × Int × Int × Int × Int × Bool))) = r := Option.some.inj h
                  refine XS.wk (.row false 2 [] 29 (.st (.pair (.int .i64) (.pair (.int .i64) (.pair (.int .i64) (.pair (.int .i64) (.pair (.int .i64) (.pair (.int .i64) .bool)))))))) ?_
                  exact XS.fin [6] ((True) ∧ ((True) ∧ (True))) (by kernel_rfl) ⟨trivial, ⟨trivial, trivial⟩⟩
                 ·obtain ⟨y_5, hx54, h⟩ := bind_some' h
                  have hq : ((inR (4 : Int) 5) ∧ ((4 < 5 ∧ (True)) ∧ ((True) ∧ ((True) ∧ ((True) ∧ ((True) ∧ (((True) ∧ (decide ((m0.getD 4 (0 : Int)) > (IntKind.wrap .i64 ((256 : Int) - ((m4.length : Nat) : Int))))) = false) ∧ ((inR (4 : Int) 5) ∧ ((4 < 5 ∧ (True)) ∧ ((inR (3 : Int) 5) ∧ ((3 < 5 ∧ (True)) ∧ ((True) ∧ ((True) ∧ ((((True) ∧ (True)) ∧ PureC Try.prog 17 [(.pv (.sl (.st (.pair (.int .i64) (.pair (.int .i64) (.pair (.int .i64) (.pair (.int .i64) (.pair (.int .i64) (.pair (.int .i64) .bool))))))) m4))] (.int .i64 y_5) []) ∧ ((True) ∧ ((True) ∧ ((True) ∧ (True)))))))))))))))))) ∧ (True) := ⟨⟨⟨by decide, by decide⟩, ⟨⟨(by decide), trivial⟩, ⟨trivial, ⟨trivial, ⟨trivial, ⟨trivial, ⟨⟨trivial, c53⟩, ⟨⟨by decide, by decide⟩, ⟨⟨(by decide), trivial⟩, ⟨⟨by decide, by decide⟩, ⟨⟨(by decide), trivial⟩, ⟨trivial, ⟨trivial, ⟨⟨⟨trivial, trivial⟩, F17_ok n m4 y_5 hx54⟩, ⟨trivial, ⟨trivial, ⟨trivial, trivial⟩⟩⟩⟩⟩⟩⟩⟩⟩⟩⟩⟩⟩⟩⟩⟩⟩, trivial⟩
                  refine TS.draw 17 [] [.none, .none, .none, .none, .none, .none, .dec false, .none, .none, .none, .none, .none, .none, (.call (.int .i64 y_5) [])] (by kernel_rfl) ?_ ?_
                  ·apply prop_of ?_ hq
                   kernel_rfl
                  refine XS.then ?_
                  rcases bif_some h with ⟨c55, h⟩ | ⟨c56, h⟩
                  ·refine TS.cond (decide ((IntKind.wrap .i64 ((m0.getD 4 (0 : Int)) * (m0.getD 3 (0 : Int)))) > (IntKind.wrap .i64 ((512 : Int) - y_5)))) ?_ (fun hcz => ?_) (fun hcz => by rw [c55] at hcz; cases hcz)
                   ·kernel_rfl
                   refine TS.seq ?_
                   have hq := (ai tv (ai tv tv))
                   refine TS.reg [] ?_ ?_
                   ·apply prop_of ?_ hq
                    kernel_rfl
                   refine XS.then ?_
                   refine TS.ret ?_
                   refine XS.passR ?_
                   refine XS.blockRet ?_
                   refine XS.blockRet ?_
                   refine XS.passR ?_
                   refine XS.passR ?_
                   refine XS.blockRet ?_
                   refine XS.passR ?_
                   obtain rfl : ((2 : Int), ([] : List (Int × Int × Int × Int × Int × Int × Bool))) = r := Option.some.inj h
                   refine XS.wk (.row false 2 [] 29 (.st (.pair (.int .i64) (.pair (.int .i64) (.pair (.int .i64) (.pair (.int .i64) (.pair (.int .i64) (.pair (.int .i64) .bool)))))))) ?_
                   exact XS.fin [6] ((True) ∧ ((True) ∧ (True))) (by kernel_rfl) ⟨trivial, ⟨trivial, trivial⟩⟩
                  ·refine TS.cond (decide ((IntKind.wrap .i64 ((m0.getD 4 (0 : Int)) * (m0.getD 3 (0 : Int)))) > (IntKind.wrap .i64 ((512 : Int) - y_5)))) ?_ (fun hcz => by rw [c56] at hcz; cases hcz) (fun hcz => ?_)
                   ·kernel_rfl
                   refine TS.skip ?_
                   refine XS.then ?_
                   refine TS.seq ?_
                   refine TS.seq ?_
                   have hq : (inR (4 : Int) 5) ∧ ((4 < 5 ∧ (True)) ∧ ((True) ∧ (True))) := ⟨⟨by decide, by decide⟩, ⟨⟨(by decide), trivial⟩, ⟨trivial, trivial⟩⟩⟩
                   refine TS.reg [] ?_ ?_
                   ·apply prop_of ?_ hq
                    kernel_rfl
                   refine XS.then ?_
                   refine TS.block ?_
                   refine TS.reLoop [0, 1, 2, 3, 4] (mkMask 177 [4, 5, 6, 7, 8, 9, 12, 19, 20, 21, 131, 132]) (D := Int × (List (Int × Int × Int × Int × Int × Int × Bool))) (fun d => match d with | (x_2, m4_2) => (mkTs 177 [(4, (.ptr 0 [])), (5, (.row 1)), (6, (.row 2)), (7, (.ptr 3 [])), (8, (.int .i64 deep)), (9, (.fn 17 (.cons (.ptr 3 []) .nil))), (12, (.int .i64 (l.getD x.toNat ((0 : Int), (0 : Int))).2)), (19, (.sl (.st (.pair (.int .i64) (.int .i64))) l)), (20, (.int .i64 ((l.length : Nat) : Int))), (21, (.int .i64 x)), (131, (.int .i64 (m0.getD 4 (0 : Int)))), (132, (.int .i64 x_2))], [(.box 57 (.arr 5 (.int .i64) m0)), (.row 57 (.arr 5 (.int .i64)) m1), (.row 3 (.int .i64) m2), (.box 23 (.row 4)), (.row 29 (.st (.pair (.int .i64) (.pair (.int .i64) (.pair (.int .i64) (.pair (.int .i64) (.pair (.int .i64) (.pair (.int .i64) .bool))))))) m4_2)])) (fun n' d => loopF (F7_l31 n (loopF (F7_l28 n l) n28) l deep x m0 m1 m2) n' d = some r) n ((0 : Int), m4) h ?_ (fun d => loopF_zero _ d r) ?_
                   ·kernel_rfl
                   ·rintro n31 ⟨x_2, m4_2⟩ h
                    replace h : (bif (decide (x_2 < (m0.getD 4 (0 : Int)))) then ((F17 n m4_2).bind fun y_6 => (bif (decide (x_2 < ((m2.length : Nat) : Int))) then (bif inb x_2 m2.length then (F7_j32 n (loopF (F7_l31 n (loopF (F7_l28 n l) n28) l deep x m0 m1 m2) n31) l x m0 x_2 m4_2 y_6 (m2.getD x_2.toNat (0 : Int))) else none) else (bif (decide (((m2.length : Nat) : Int) > (0 : Int))) then (bif inb (IntKind.wrap .i64 (((m2.length : Nat) : Int) - (1 : Int))) m2.length then (F7_j32 n (loopF (F7_l31 n (loopF (F7_l28 n l) n28) l deep x m0 m1 m2) n31) l x m0 x_2 m4_2 y_6 (m2.getD ((IntKind.wrap .i64 (((m2.length : Nat) : Int) - (1 : Int))).toNat) (0 : Int))) else none) else (F7_j32 n (loopF (F7_l31 n (loopF (F7_l28 n l) n28) l deep x m0 m1 m2) n31) l x m0 x_2 m4_2 y_6 (0 : Int))))) else ((loopF (F7_l28 n l) n28) (deep, (IntKind.wrap .i64 (x + (1 : Int))), m0, m1, ([] : List Int), m4_2))) = some r := h
                    refine TS.seq ?_
                    have hq := (ai tv tv)
                    refine TS.reg [] ?_ ?_
                    ·apply prop_of ?_ hq
                     kernel_rfl
                    refine XS.then ?_
                    refine TS.seq ?_
                    rcases bif_some h with ⟨c57, h⟩ | ⟨c58, h⟩
                    ·refine TS.cond (decide (x_2 < (m0.getD 4 (0 : Int)))) ?_ (fun hcz => ?_) (fun hcz => by rw [c57] at hcz; cases hcz)
                     ·kernel_rfl
                     refine TS.skip ?_
                     refine XS.then ?_
                     refine TS.seq ?_
                     refine TS.block ?_
                     refine TS.seq ?_
                     have hq := (ai tv (ai tv tv))
                     refine TS.reg [] ?_ ?_
                     ·apply prop_of ?_ hq
                      kernel_rfl
                     refine XS.then ?_
                     refine TS.seq ?_
                     obtain ⟨y_6, hx59, h⟩ := bind_some' h
                     have hq : ((True) ∧ ((((True) ∧ (True)) ∧ PureC Try.prog 17 [(.pv (.sl (.st (.pair (.int .i64) (.pair (.int .i64) (.pair (.int .i64) (.pair (.int .i64) (.pair (.int .i64) (.pair (.int .i64) .bool))))))) m4_2))] (.int .i64 y_6) []) ∧ ((inR (3 : Int) 5) ∧ ((3 < 5 ∧ (True)) ∧ ((inR (0 : Int) 5) ∧ ((0 < 5 ∧ (True)) ∧ ((inR (1 : Int) 5) ∧ ((1 < 5 ∧ (True)) ∧ ((inR (2 : Int) 5) ∧ ((2 < 5 ∧ (True)) ∧ ((True) ∧ (((2 : Int) ≠ 0) ∧ ((True) ∧ (((True) ∧ ((True) ∧ ((True) ∧ ((True) ∧ ((True) ∧ ((True) ∧ (True))))))) ∧ ((True) ∧ (True)))))))))))))))) ∧ ((True) ∧ (True)) := ⟨⟨trivial, ⟨⟨⟨trivial, trivial⟩, F17_ok n m4_2 y_6 hx59⟩, ⟨⟨by decide, by decide⟩, ⟨⟨(by decide), trivial⟩, ⟨⟨by decide, by decide⟩, ⟨⟨(by decide), trivial⟩, ⟨⟨by decide, by decide⟩, ⟨⟨(by decide), trivial⟩, ⟨⟨by decide, by decide⟩, ⟨⟨(by decide), trivial⟩, ⟨trivial, ⟨by decide, ⟨trivial, ⟨⟨trivial, ⟨trivial, ⟨trivial, ⟨trivial, ⟨trivial, ⟨trivial, trivial⟩⟩⟩⟩⟩⟩, ⟨trivial, trivial⟩⟩⟩⟩⟩⟩⟩⟩⟩⟩⟩⟩⟩⟩⟩, ⟨trivial, trivial⟩⟩
                     refine TS.draw 15 [] [.none, (.call (.int .i64 y_6) [])] (by kernel_rfl) ?_ ?_
                     ·apply prop_of ?_ hq
                      kernel_rfl
                     refine XS.then ?_
                     refine TS.seq ?_
                     refine TS.seq ?_
                     have hq := (ai tv (ai tv (ai tv (ai tv tv))))
                     refine TS.reg [] ?_ ?_
                     ·apply prop_of ?_ hq
                      kernel_rfl
                     refine XS.then ?_
                     refine TS.cut (D := Int) (fun d => match d with | m5 => (mkTs 177 [(4, (.ptr 0 [])), (5, (.row 1)), (6, (.row 2)), (7, (.ptr 3 [])), (8, (.int .i64 deep)), (9, (.fn 17 (.cons (.ptr 3 []) .nil))), (12, (.int .i64 (l.getD x.toNat ((0 : Int), (0 : Int))).2)), (14, (.ptr 5 [])), (19, (.sl (.st (.pair (.int .i64) (.int .i64))) l)), (20, (.int .i64 ((l.length : Nat) : Int))), (21, (.int .i64 x)), (131, (.int .i64 (m0.getD 4 (0 : Int)))), (132, (.int .i64 x_2))], [(.box 57 (.arr 5 (.int .i64) m0)), (.row 57 (.arr 5 (.int .i64)) m1), (.row 3 (.int .i64) m2), (.box 23 (.row 4)), (.row 29 (.st (.pair (.int .i64) (.pair (.int .i64) (.pair (.int .i64) (.pair (.int .i64) (.pair (.int .i64) (.pair (.int .i64) .bool))))))) m4_2), (.box 29 (.st (.cons (.int .i64 y_6) (.cons (.int .i64 (m0.getD 3 (0 : Int))) (.cons (.int .i64 (m0.getD 0 (0 : Int))) (.cons (.int .i64 m5) (.cons (.int .i64 (m0.getD 1 (0 : Int))) (.cons (.int .i64 (m0.getD 2 (0 : Int))) (.bool ((((l.getD x.toNat ((0 : Int), (0 : Int))).2).tmod (2 : Int)) != (0 : Int)))))))))))])) (fun d => F7_j32 n (loopF (F7_l31 n (loopF (F7_l28 n l) n28) l deep x m0 m1 m2) n31) l x m0 x_2 m4_2 y_6 d = some r) ?_ ?_
                     ·rintro m5 h
                      replace h : (bif (decide (m4_2.length + [(y_6, ((m0.getD 3 (0 : Int)), ((m0.getD 0 (0 : Int)), (m5, ((m0.getD 1 (0 : Int)), ((m0.getD 2 (0 : Int)), ((((l.getD x.toNat ((0 : Int), (0 : Int))).2).tmod (2 : Int)) != (0 : Int))))))))].length ≤ 2513169434916)) then ((loopF (F7_l31 n (loopF (F7_l28 n l) n28) l deep x m0 m1 m2) n31) ((IntKind.wrap .i64 (x_2 + (1 : Int))), (m4_2 ++ [(y_6, ((m0.getD 3 (0 : Int)), ((m0.getD 0 (0 : Int)), (m5, ((m0.getD 1 (0 : Int)), ((m0.getD 2 (0 : Int)), ((((l.getD x.toNat ((0 : Int), (0 : Int))).2).tmod (2 : Int)) != (0 : Int))))))))]))) else none) = some r := h
                      refine XS.then ?_
                      obtain ⟨t60, h⟩ := test_some h
                      have hq : (True) ∧ ((True) ∧ (((0 < 1 ∧ True) ∧ (True)) ∧ ((m4_2.length + [(y_6, ((m0.getD 3 (0 : Int)), ((m0.getD 0 (0 : Int)), (m5, ((m0.getD 1 (0 : Int)), ((m0.getD 2 (0 : Int)), ((((l.getD x.toNat ((0 : Int), (0 : Int))).2).tmod (2 : Int)) != (0 : Int))))))))].length ≤ 2513169434916) ∧ ((True) ∧ (True))))) := ⟨trivial, ⟨trivial, ⟨⟨⟨by decide, trivial⟩, trivial⟩, ⟨of_decide_eq_true t60, ⟨trivial, trivial⟩⟩⟩⟩⟩
                      refine TS.reg [] ?_ ?_
                      ·apply prop_of ?_ hq
                       kernel_rfl
                      refine XS.blockEnd ?_
                      refine XS.then ?_
                      have hq := (ai tv (ai tv tv))
                      refine TS.reg [] ?_ ?_
                      ·apply prop_of ?_ hq
                       kernel_rfl
                      refine XS.reAny [0, 1, 2, 3, 7] (mkMask 177 [4, 5, 6, 7, 8, 9, 12, 19, 20, 21, 131, 132]) ((IntKind.wrap .i64 (x_2 + (1 : Int))), (m4_2 ++ [(y_6, ((m0.getD 3 (0 : Int)), ((m0.getD 0 (0 : Int)), (m5, ((m0.getD 1 (0 : Int)), ((m0.getD 2 (0 : Int)), ((((l.getD x.toNat ((0 : Int), (0 : Int))).2).tmod (2 : Int)) != (0 : Int))))))))])) h ?_
                      kernel_rfl
                     ·rcases bif_some h with ⟨c61, h⟩ | ⟨c62, h⟩
                      ·refine TS.cond (decide (x_2 < ((m2.length : Nat) : Int))) ?_ (fun hcz => ?_) (fun hcz => by rw [c61] at hcz; cases hcz)
                       ·kernel_rfl
                       obtain ⟨t63, h⟩ := test_some h
                       have hq : (True) ∧ ((True) ∧ ((inR x_2 m2.length) ∧ ((x_2.toNat < m2.length ∧ (True)) ∧ ((True) ∧ ((True) ∧ (True)))))) := ⟨trivial, ⟨trivial, ⟨inb_ok t63, ⟨⟨inR_lt (inb_ok t63), trivial⟩, ⟨trivial, ⟨trivial, trivial⟩⟩⟩⟩⟩⟩
                       refine TS.reg [] ?_ ?_
                       ·apply prop_of ?_ hq
                        kernel_rfl
                       refine XS.reAny [0, 1, 2, 3, 4, 5] (mkMask 177 [4, 5, 6, 7, 8, 9, 12, 14, 19, 20, 21, 131, 132]) (m2.getD x_2.toNat (0 : Int)) h ?_
                       kernel_rfl
                      ·refine TS.cond (decide (x_2 < ((m2.length : Nat) : Int))) ?_ (fun hcz => by rw [c62] at hcz; cases hcz) (fun hcz => ?_)
                       ·kernel_rfl
                       refine TS.seq ?_
                       have hq := (ai tv (ai tv (ai tv tv)))
                       refine TS.reg [] ?_ ?_
                       ·apply prop_of ?_ hq
                        kernel_rfl
                       refine XS.then ?_
                       rcases bif_some h with ⟨c64, h⟩ | ⟨c65, h⟩
                       ·refine TS.cond (decide (((m2.length : Nat) : Int) > (0 : Int))) ?_ (fun hcz => ?_) (fun hcz => by rw [c64] at hcz; cases hcz)
                        ·kernel_rfl
                        obtain ⟨t66, h⟩ := test_some h
                        have hq : (True) ∧ ((True) ∧ ((True) ∧ ((True) ∧ ((inR (IntKind.wrap .i64 (((m2.length : Nat) : Int) - (1 : Int))) m2.length) ∧ ((((IntKind.wrap .i64 (((m2.length : Nat) : Int) - (1 : Int))).toNat) < m2.length ∧ (True)) ∧ ((True) ∧ ((True) ∧ (True)))))))) := ⟨trivial, ⟨trivial, ⟨trivial, ⟨trivial, ⟨inb_ok t66, ⟨⟨inR_lt (inb_ok t66), trivial⟩, ⟨trivial, ⟨trivial, trivial⟩⟩⟩⟩⟩⟩⟩⟩
                        refine TS.reg [] ?_ ?_
                        ·apply prop_of ?_ hq
                         kernel_rfl
                        refine XS.reAny [0, 1, 2, 3, 4, 5] (mkMask 177 [4, 5, 6, 7, 8, 9, 12, 14, 19, 20, 21, 131, 132]) (m2.getD ((IntKind.wrap .i64 (((m2.length : Nat) : Int) - (1 : Int))).toNat) (0 : Int)) h ?_
                        kernel_rfl
                       ·refine TS.cond (decide (((m2.length : Nat) : Int) > (0 : Int))) ?_ (fun hcz => by rw [c65] at hcz; cases hcz) (fun hcz => ?_)
                        ·kernel_rfl
                        refine TS.skip ?_
                        refine XS.reAny [0, 1, 2, 3, 4, 5] (mkMask 177 [4, 5, 6, 7, 8, 9, 12, 14, 19, 20, 21, 131, 132]) (0 : Int) h ?_
                        kernel_rfl
                    ·refine TS.cond (decide (x_2 < (m0.getD 4 (0 : Int)))) ?_ (fun hcz => by rw [c58] at hcz; cases hcz) (fun hcz => ?_)
                     ·kernel_rfl
                     refine TS.exit ?_
                     refine XS.passE ?_
                     refine XS.passE ?_
                     refine XS.out ?_
                     refine XS.then ?_
                     have hq := (ai tv tv)
                     refine TS.reg [] ?_ ?_
                     ·apply prop_of ?_ hq
                      kernel_rfl
                     refine XS.blockEnd ?_
                     refine XS.blockEnd ?_
                     refine XS.then ?_
                     have hq := (ai tv (ai tv tv))
                     refine TS.reg [] ?_ ?_
                     ·apply prop_of ?_ hq
                      kernel_rfl
                     refine XS.wk (.row false 6 [] 3 (.int .i64)) ?_
                     refine XS.reAny [0, 1, 5, 3, 4] (mkMask 177 [4, 5, 6, 7, 8, 9, 19, 20, 21]) (deep, (IntKind.wrap .i64 (x + (1 : Int))), m0, m1, ([] : List Int), m4_2) h ?_
                     kernel_rfl
              ·refine TS.cond ((l.getD x.toNat ((0 : Int), (0 : Int))).1 == (32 : Int)) ?_ (fun hcz => by rw [c47] at hcz; cases hcz) (fun hcz => ?_)
               ·kernel_rfl
               refine TS.skip ?_
               refine XS.blockEnd ?_
               refine XS.blockEnd ?_
               refine XS.then ?_
               have hq := (ai tv (ai tv tv))
               refine TS.reg [] ?_ ?_
               ·apply prop_of ?_ hq
                kernel_rfl
               refine XS.reAny [0, 1, 2, 3, 4] (mkMask 177 [4, 5, 6, 7, 8, 9, 19, 20, 21]) (deep, (IntKind.wrap .i64 (x + (1 : Int))), m0, m1, m2, m4) h ?_
               kernel_rfl
   ·refine TS.cond (decide (x < ((l.length : Nat) : Int))) ?_ (fun hcz => by rw [c4] at hcz; cases hcz) (fun hcz => ?_)
    ·kernel_rfl
    refine TS.exit ?_
    refine XS.passE ?_
    refine XS.passE ?_
    refine XS.out ?_
    refine XS.then ?_
    refine TS.seq ?_
    refine TS.seq ?_
    have hq := (ai tv (ai tv tv))
    refine TS.reg [] ?_ ?_
    ·apply prop_of ?_ hq
     kernel_rfl
    refine XS.then ?_
    rcases bif_some h with ⟨c67, h⟩ | ⟨c68, h⟩
    ·refine TS.cond (decide (deep > (0 : Int))) ?_ (fun hcz => ?_) (fun hcz => by rw [c67] at hcz; cases hcz)
     ·kernel_rfl
     refine TS.seq ?_
     have hq := (ai tv (ai tv tv))
     refine TS.reg [] ?_ ?_
     ·apply prop_of ?_ hq
      kernel_rfl
     refine XS.then ?_
     refine TS.ret ?_
     refine XS.passR ?_
     obtain rfl : ((4 : Int), ([] : List (Int × Int × Int × Int × Int × Int × Bool))) = r := Option.some.inj h
     refine XS.wk (.row false 2 [] 29 (.st (.pair (.int .i64) (.pair (.int .i64) (.pair (.int .i64) (.pair (.int .i64) (.pair (.int .i64) (.pair (.int .i64) .bool)))))))) ?_
     exact XS.fin [5] ((True) ∧ ((True) ∧ (True))) (by kernel_rfl) ⟨trivial, ⟨trivial, trivial⟩⟩
    ·refine TS.cond (decide (deep > (0 : Int))) ?_ (fun hcz => by rw [c68] at hcz; cases hcz) (fun hcz => ?_)
     ·kernel_rfl
     refine TS.skip ?_
     refine XS.then ?_
     refine TS.seq ?_
     have hq := (ai tv (ai tv (ai tv tv)))
     refine TS.reg [] ?_ ?_
     ·apply prop_of ?_ hq
      kernel_rfl
     refine XS.then ?_
     refine TS.ret ?_
     obtain rfl : ((0 : Int), m4) = r := Option.some.inj h
     exact XS.fin [4] ((True) ∧ ((True) ∧ (True))) (by kernel_rfl) ⟨trivial, ⟨trivial, trivial⟩⟩

/-! slices.Equal[[]plugtree/api.Field,plugtree/api.Field] -/
def F8_l2 (n : Nat) (s1 : List (Int × Int × Int × Int × Int × Int × Bool)) (s2 : List (Int × Int × Int × Int × Int × Int × Bool)) (k8_2 : Int → Option Bool) : Int → Option Bool
 | x => (bif (decide (x < ((s1.length : Nat) : Int))) then (bif inb x s1.length then (bif inb x s2.length then (bif (!(Sh.beq (.st (.pair (.int .i64) (.pair (.int .i64) (.pair (.int .i64) (.pair (.int .i64) (.pair (.int .i64) (.pair (.int .i64) .bool))))))) ((s1.getD x.toNat ((0 : Int), ((0 : Int), ((0 : Int), ((0 : Int), ((0 : Int), ((0 : Int), false))))))).1, ((s1.getD x.toNat ((0 : Int), ((0 : Int), ((0 : Int), ((0 : Int), ((0 : Int), ((0 : Int), false))))))).2.1, ((s1.getD x.toNat ((0 : Int), ((0 : Int), ((0 : Int), ((0 : Int), ((0 : Int), ((0 : Int), false))))))).2.2.1, ((s1.getD x.toNat ((0 : Int), ((0 : Int), ((0 : Int), ((0 : Int), ((0 : Int), ((0 : Int), false))))))).2.2.2.1, ((s1.getD x.toNat ((0 : Int), ((0 : Int), ((0 : Int), ((0 : Int), ((0 : Int), ((0 : Int), false))))))).2.2.2.2.1, ((s1.getD x.toNat ((0 : Int), ((0 : Int), ((0 : Int), ((0 : Int), ((0 : Int), ((0 : Int), false))))))).2.2.2.2.2.1, (s1.getD x.toNat ((0 : Int), ((0 : Int), ((0 : Int), ((0 : Int), ((0 : Int), ((0 : Int), false))))))).2.2.2.2.2.2)))))) ((s2.getD x.toNat ((0 : Int), ((0 : Int), ((0 : Int), ((0 : Int), ((0 : Int), ((0 : Int), false))))))).1, ((s2.getD x.toNat ((0 : Int), ((0 : Int), ((0 : Int), ((0 : Int), ((0 : Int), ((0 : Int), false))))))).2.1, ((s2.getD x.toNat ((0 : Int), ((0 : Int), ((0 : Int), ((0 : Int), ((0 : Int), ((0 : Int), false))))))).2.2.1, ((s2.getD x.toNat ((0 : Int), ((0 : Int), ((0 : Int), ((0 : Int), ((0 : Int), ((0 : Int), false))))))).2.2.2.1, ((s2.getD x.toNat ((0 : Int), ((0 : Int), ((0 : Int), ((0 : Int), ((0 : Int), ((0 : Int), false))))))).2.2.2.2.1, ((s2.getD x.toNat ((0 : Int), ((0 : Int), ((0 : Int), ((0 : Int), ((0 : Int), ((0 : Int), false))))))).2.2.2.2.2.1, (s2.getD x.toNat ((0 : Int), ((0 : Int), ((0 : Int), ((0 : Int), ((0 : Int), ((0 : Int), false))))))).2.2.2.2.2.2)))))))) then (some false) else (k8_2 (IntKind.wrap .i64 (x + (1 : Int))))) else none) else none) else (some true))
def F8 (n : Nat) (s1 : List (Int × Int × Int × Int × Int × Int × Bool)) (s2 : List (Int × Int × Int × Int × Int × Int × Bool)) : Option Bool := (bif (((s1.length : Nat) : Int) != ((s2.length : Nat) : Int)) then (some false) else (loopF (F8_l2 n s1 s2) n (0 : Int)))
theorem F8_ok (n : Nat) (s1 : List (Int × Int × Int × Int × Int × Int × Bool)) (s2 : List (Int × Int × Int × Int × Int × Int × Bool)) (r : Bool) (h : F8 n s1 s2 = some r) : PureC Try.prog 8 [(.sl (.st (.pair (.int .i64) (.pair (.int .i64) (.pair (.int .i64) (.pair (.int .i64) (.pair (.int .i64) (.pair (.int .i64) .bool))))))) s1), (.sl (.st (.pair (.int .i64) (.pair (.int .i64) (.pair (.int .i64) (.pair (.int .i64) (.pair (.int .i64) (.pair (.int .i64) .bool))))))) s2)] (.bool r) [] := by
 refine PureC.mkS Try.func8 rfl rfl ?_
 intro w0 fz0 hfz
 replace h : (bif (((s1.length : Nat) : Int) != ((s2.length : Nat) : Int)) then (some false) else (loopF (F8_l2 n s1 s2) n (0 : Int))) = some r := h
 refine TS.seq ?_
 have hq := (ai tv tv)
 refine TS.reg [] ?_ ?_
 ·apply prop_of ?_ hq
  kernel_rfl
 refine XS.then ?_
 refine TS.seq ?_
 refine TS.seq ?_
 have hq := (ai tv (ai tv (ai tv (ai tv (ai tv tv)))))
 refine TS.reg [] ?_ ?_
 ·apply prop_of ?_ hq
  kernel_rfl
 refine XS.then ?_
 rcases bif_some h with ⟨c1, h⟩ | ⟨c2, h⟩
 ·refine TS.cond (((s1.length : Nat) : Int) != ((s2.length : Nat) : Int)) ?_ (fun hcz => ?_) (fun hcz => by rw [c1] at hcz; cases hcz)
  ·kernel_rfl
  refine TS.seq ?_
  have hq := (ai tv tv)
  refine TS.reg [] ?_ ?_
  ·apply prop_of ?_ hq
   kernel_rfl
  refine XS.then ?_
  refine TS.ret ?_
  refine XS.passR ?_
  obtain rfl : false = r := Option.some.inj h
  exact XS.fin [] ((True) ∧ (True)) (by kernel_rfl) ⟨trivial, trivial⟩
 ·refine TS.cond (((s1.length : Nat) : Int) != ((s2.length : Nat) : Int)) ?_ (fun hcz => by rw [c2] at hcz; cases hcz) (fun hcz => ?_)
  ·kernel_rfl
  refine TS.skip ?_
  refine XS.then ?_
  refine TS.seq ?_
  refine TS.seq ?_
  have hq := (ai tv (ai tv (ai tv tv)))
  refine TS.reg [] ?_ ?_
  ·apply prop_of ?_ hq
   kernel_rfl
  refine XS.then ?_
  refine TS.block ?_
  refine TS.reLoop [] (mkMask 26 [0, 1, 12, 13]) (D := Int) (fun d => match d with | x => (mkTs 26 [(0, (.sl (.st (.pair (.int .i64) (.pair (.int .i64) (.pair (.int .i64) (.pair (.int .i64) (.pair (.int .i64) (.pair (.int .i64) .bool))))))) s1)), (1, (.sl (.st (.pair (.int .i64) (.pair (.int .i64) (.pair (.int .i64) (.pair (.int .i64) (.pair (.int .i64) (.pair (.int .i64) .bool))))))) s2)), (12, (.int .i64 ((s1.length : Nat) : Int))), (13, (.int .i64 x))], [])) (fun n' d => loopF (F8_l2 n s1 s2) n' d = some r) n (0 : Int) h ?_ (fun d => loopF_zero _ d r) ?_
  ·kernel_rfl
  ·rintro n2 x h
   replace h : (bif (decide (x < ((s1.length : Nat) : Int))) then (bif inb x s1.length then (bif inb x s2.length then (bif (!(Sh.beq (.st (.pair (.int .i64) (.pair (.int .i64) (.pair (.int .i64) (.pair (.int .i64) (.pair (.int .i64) (.pair (.int .i64) .bool))))))) ((s1.getD x.toNat ((0 : Int), ((0 : Int), ((0 : Int), ((0 : Int), ((0 : Int), ((0 : Int), false))))))).1, ((s1.getD x.toNat ((0 : Int), ((0 : Int), ((0 : Int), ((0 : Int), ((0 : Int), ((0 : Int), false))))))).2.1, ((s1.getD x.toNat ((0 : Int), ((0 : Int), ((0 : Int), ((0 : Int), ((0 : Int), ((0 : Int), false))))))).2.2.1, ((s1.getD x.toNat ((0 : Int), ((0 : Int), ((0 : Int), ((0 : Int), ((0 : Int), ((0 : Int), false))))))).2.2.2.1, ((s1.getD x.toNat ((0 : Int), ((0 : Int), ((0 : Int), ((0 : Int), ((0 : Int), ((0 : Int), false))))))).2.2.2.2.1, ((s1.getD x.toNat ((0 : Int), ((0 : Int), ((0 : Int), ((0 : Int), ((0 : Int), ((0 : Int), false))))))).2.2.2.2.2.1, (s1.getD x.toNat ((0 : Int), ((0 : Int), ((0 : Int), ((0 : Int), ((0 : Int), ((0 : Int), false))))))).2.2.2.2.2.2)))))) ((s2.getD x.toNat ((0 : Int), ((0 : Int), ((0 : Int), ((0 : Int), ((0 : Int), ((0 : Int), false))))))).1, ((s2.getD x.toNat ((0 : Int), ((0 : Int), ((0 : Int), ((0 : Int), ((0 : Int), ((0 : Int), false))))))).2.1, ((s2.getD x.toNat ((0 : Int), ((0 : Int), ((0 : Int), ((0 : Int), ((0 : Int), ((0 : Int), false))))))).2.2.1, ((s2.getD x.toNat ((0 : Int), ((0 : Int), ((0 : Int), ((0 : Int), ((0 : Int), ((0 : Int), false))))))).2.2.2.1, ((s2.getD x.toNat ((0 : Int), ((0 : Int), ((0 : Int), ((0 : Int), ((0 : Int), ((0 : Int), false))))))).2.2.2.2.1, ((s2.getD x.toNat ((0 : Int), ((0 : Int), ((0 : Int), ((0 : Int), ((0 : Int), ((0 : Int), false))))))).2.2.2.2.2.1, (s2.getD x.toNat ((0 : Int), ((0 : Int), ((0 : Int), ((0 : Int), ((0 : Int), ((0 : Int), false))))))).2.2.2.2.2.2)))))))) then (some false) else ((loopF (F8_l2 n s1 s2) n2) (IntKind.wrap .i64 (x + (1 : Int))))) else none) else none) else (some true)) = some r := h
   refine TS.seq ?_
   have hq := (ai tv tv)
   refine TS.reg [] ?_ ?_
   ·apply prop_of ?_ hq
    kernel_rfl
   refine XS.then ?_
   refine TS.seq ?_
   rcases bif_some h with ⟨c3, h⟩ | ⟨c4, h⟩
   ·refine TS.cond (decide (x < ((s1.length : Nat) : Int))) ?_ (fun hcz => ?_) (fun hcz => by rw [c3] at hcz; cases hcz)
    ·kernel_rfl
    refine TS.skip ?_
    refine XS.then ?_
    refine TS.seq ?_
    refine TS.block ?_
    refine TS.seq ?_
    have hq := (ai tv (ai tv tv))
    refine TS.reg [] ?_ ?_
    ·apply prop_of ?_ hq
     kernel_rfl
    refine XS.then ?_
    refine TS.seq ?_
    obtain ⟨t5, h⟩ := test_some h
    obtain ⟨t6, h⟩ := test_some h
    have hq := (ai (ai tv (ai tv (ai (inb_ok t5) (ai tv (ai tv (ai tv (ai (inb_ok t6) (ai tv (ai tv tv))))))))) tv)
    refine TS.draw 9 [] [] (by kernel_rfl) ?_ ?_
    ·apply prop_of ?_ hq
     kernel_rfl
    refine XS.then ?_
    rcases bif_some h with ⟨c7, h⟩ | ⟨c8, h⟩
    ·refine TS.cond (!(Sh.beq (.st (.pair (.int .i64) (.pair (.int .i64) (.pair (.int .i64) (.pair (.int .i64) (.pair (.int .i64) (.pair (.int .i64) .bool))))))) ((s1.getD x.toNat ((0 : Int), ((0 : Int), ((0 : Int), ((0 : Int), ((0 : Int), ((0 : Int), false))))))).1, ((s1.getD x.toNat ((0 : Int), ((0 : Int), ((0 : Int), ((0 : Int), ((0 : Int), ((0 : Int), false))))))).2.1, ((s1.getD x.toNat ((0 : Int), ((0 : Int), ((0 : Int), ((0 : Int), ((0 : Int), ((0 : Int), false))))))).2.2.1, ((s1.getD x.toNat ((0 : Int), ((0 : Int), ((0 : Int), ((0 : Int), ((0 : Int), ((0 : Int), false))))))).2.2.2.1, ((s1.getD x.toNat ((0 : Int), ((0 : Int), ((0 : Int), ((0 : Int), ((0 : Int), ((0 : Int), false))))))).2.2.2.2.1, ((s1.getD x.toNat ((0 : Int), ((0 : Int), ((0 : Int), ((0 : Int), ((0 : Int), ((0 : Int), false))))))).2.2.2.2.2.1, (s1.getD x.toNat ((0 : Int), ((0 : Int), ((0 : Int), ((0 : Int), ((0 : Int), ((0 : Int), false))))))).2.2.2.2.2.2)))))) ((s2.getD x.toNat ((0 : Int), ((0 : Int), ((0 : Int), ((0 : Int), ((0 : Int), ((0 : Int), false))))))).1, ((s2.getD x.toNat ((0 : Int), ((0 : Int), ((0 : Int), ((0 : Int), ((0 : Int), ((0 : Int), false))))))).2.1, ((s2.getD x.toNat ((0 : Int), ((0 : Int), ((0 : Int), ((0 : Int), ((0 : Int), ((0 : Int), false))))))).2.2.1, ((s2.getD x.toNat ((0 : Int), ((0 : Int), ((0 : Int), ((0 : Int), ((0 : Int), ((0 : Int), false))))))).2.2.2.1, ((s2.getD x.toNat ((0 : Int), ((0 : Int), ((0 : Int), ((0 : Int), ((0 : Int), ((0 : Int), false))))))).2.2.2.2.1, ((s2.getD x.toNat ((0 : Int), ((0 : Int), ((0 : Int), ((0 : Int), ((0 : Int), ((0 : Int), false))))))).2.2.2.2.2.1, (s2.getD x.toNat ((0 : Int), ((0 : Int), ((0 : Int), ((0 : Int), ((0 : Int), ((0 : Int), false))))))).2.2.2.2.2.2)))))))) ?_ (fun hcz => ?_) (fun hcz => by rw [c7] at hcz; cases hcz)
     ·kernel_rfl
     refine TS.seq ?_
     have hq := (ai tv tv)
     refine TS.reg [] ?_ ?_
     ·apply prop_of ?_ hq
      kernel_rfl
     refine XS.then ?_
     refine TS.ret ?_
     refine XS.blockRet ?_
     refine XS.passR ?_
     refine XS.passR ?_
     refine XS.blockRet ?_
     refine XS.passR ?_
     obtain rfl : false = r := Option.some.inj h
     exact XS.fin [] ((True) ∧ (True)) (by kernel_rfl) ⟨trivial, trivial⟩
    ·refine TS.cond (!(Sh.beq (.st (.pair (.int .i64) (.pair (.int .i64) (.pair (.int .i64) (.pair (.int .i64) (.pair (.int .i64) (.pair (.int .i64) .bool))))))) ((s1.getD x.toNat ((0 : Int), ((0 : Int), ((0 : Int), ((0 : Int), ((0 : Int), ((0 : Int), false))))))).1, ((s1.getD x.toNat ((0 : Int), ((0 : Int), ((0 : Int), ((0 : Int), ((0 : Int), ((0 : Int), false))))))).2.1, ((s1.getD x.toNat ((0 : Int), ((0 : Int), ((0 : Int), ((0 : Int), ((0 : Int), ((0 : Int), false))))))).2.2.1, ((s1.getD x.toNat ((0 : Int), ((0 : Int), ((0 : Int), ((0 : Int), ((0 : Int), ((0 : Int), false))))))).2.2.2.1, ((s1.getD x.toNat ((0 : Int), ((0 : Int), ((0 : Int), ((0 : Int), ((0 : Int), ((0 : Int), false))))))).2.2.2.2.1, ((s1.getD x.toNat ((0 : Int), ((0 : Int), ((0 : Int), ((0 : Int), ((0 : Int), ((0 : Int), false))))))).2.2.2.2.2.1, (s1.getD x.toNat ((0 : Int), ((0 : Int), ((0 : Int), ((0 : Int), ((0 : Int), ((0 : Int), false))))))).2.2.2.2.2.2)))))) ((s2.getD x.toNat ((0 : Int), ((0 : Int), ((0 : Int), ((0 : Int), ((0 : Int), ((0 : Int), false))))))).1, ((s2.getD x.toNat ((0 : Int), ((0 : Int), ((0 : Int), ((0 : Int), ((0 : Int), ((0 : Int), false))))))).2.1, ((s2.getD x.toNat ((0 : Int), ((0 : Int), ((0 : Int), ((0 : Int), ((0 : Int), ((0 : Int), false))))))).2.2.1, ((s2.getD x.toNat ((0 : Int), ((0 : Int), ((0 : Int), ((0 : Int), ((0 : Int), ((0 : Int), false))))))).2.2.2.1, ((s2.getD x.toNat ((0 : Int), ((0 : Int), ((0 : Int), ((0 : Int), ((0 : Int), ((0 : Int), false))))))).2.2.2.2.1, ((s2.getD x.toNat ((0 : Int), ((0 : Int), ((0 : Int), ((0 : Int), ((0 : Int), ((0 : Int), false))))))).2.2.2.2.2.1, (s2.getD x.toNat ((0 : Int), ((0 : Int), ((0 : Int), ((0 : Int), ((0 : Int), ((0 : Int), false))))))).2.2.2.2.2.2)))))))) ?_ (fun hcz => by rw [c8] at hcz; cases hcz) (fun hcz => ?_)
     ·kernel_rfl
     refine TS.skip ?_
     refine XS.blockEnd ?_
     refine XS.then ?_
     have hq := (ai tv (ai tv tv))
     refine TS.reg [] ?_ ?_
     ·apply prop_of ?_ hq
      kernel_rfl
     refine XS.reAny [] (mkMask 26 [0, 1, 12, 13]) (IntKind.wrap .i64 (x + (1 : Int))) h ?_
     kernel_rfl
   ·refine TS.cond (decide (x < ((s1.length : Nat) : Int))) ?_ (fun hcz => by rw [c4] at hcz; cases hcz) (fun hcz => ?_)
    ·kernel_rfl
    refine TS.exit ?_
    refine XS.passE ?_
    refine XS.passE ?_
    refine XS.out ?_
    refine XS.then ?_
    refine TS.seq ?_
    have hq := (ai tv tv)
    refine TS.reg [] ?_ ?_
    ·apply prop_of ?_ hq
     kernel_rfl
    refine XS.then ?_
    refine TS.ret ?_
    obtain rfl : true = r := Option.some.inj h
    exact XS.fin [] ((True) ∧ (True)) (by kernel_rfl) ⟨trivial, trivial⟩

/-! plugtree/pluglaw.ReportFields -/
def F3 (n : Nat) (l : List (Int × Int)) : Option Bool := ((F6 n l).bind fun y_2 => ((F7 n l).bind fun y_3 => ((F8 n y_2.2 y_3.2).bind fun y_4 => (bif y_4 then (some (y_2.1 == y_3.1)) else (some false)))))
theorem F3_ok (n : Nat) (l : List (Int × Int)) (r : Bool) (h : F3 n l = some r) : PureC Try.prog 3 [(.sl (.st (.pair (.int .i64) (.int .i64))) l)] (.bool r) [] := by
 refine PureC.mkS Try.func3 rfl rfl ?_
 intro w0 fz0 hfz
 replace h : ((F6 n l).bind fun y_2 => ((F7 n l).bind fun y_3 => ((F8 n y_2.2 y_3.2).bind fun y_4 => (bif y_4 then (some (y_2.1 == y_3.1)) else (some false))))) = some r := h
 refine TS.seq ?_
 have hq := (ai tv tv)
 refine TS.reg [] ?_ ?_
 ·apply prop_of ?_ hq
  kernel_rfl
 refine XS.then ?_
 refine TS.seq ?_
 obtain ⟨y_2, hx1, h⟩ := bind_some' h
 have hq := (ai tv (ai (F6_ok n l y_2 hx1) (ai tv (ai tv (ai tv (ai tv (ai tv tv)))))))
 refine TS.reg [.none, (.call (.tup (.cons (.row 0) (.cons (.int .i64 y_2.1) .nil))) [(.row 29 (.st (.pair (.int .i64) (.pair (.int .i64) (.pair (.int .i64) (.pair (.int .i64) (.pair (.int .i64) (.pair (.int .i64) .bool))))))) y_2.2)])] ?_ ?_
 ·apply prop_of ?_ hq
  kernel_rfl
 refine XS.then ?_
 refine TS.seq ?_
 obtain ⟨y_3, hx2, h⟩ := bind_some' h
 have hq := (ai tv (ai (F7_ok n l y_3 hx2) (ai tv (ai tv (ai tv (ai tv (ai tv tv)))))))
 refine TS.reg [.none, (.call (.tup (.cons (.row 0) (.cons (.int .i64 y_3.1) .nil))) [(.row 29 (.st (.pair (.int .i64) (.pair (.int .i64) (.pair (.int .i64) (.pair (.int .i64) (.pair (.int .i64) (.pair (.int .i64) .bool))))))) y_3.2)])] ?_ ?_
 ·apply prop_of ?_ hq
  kernel_rfl
 refine XS.then ?_
 refine TS.seq ?_
 obtain ⟨y_4, hx3, h⟩ := bind_some' h
 rcases bif_some h with ⟨c4, h⟩ | ⟨c5, h⟩
 ·have hq := (ai tv (ai tv (ai (ai (ai tv (ai tv tv)) (F8_ok n y_2.2 y_3.2 y_4 hx3)) (ai (ai tv c4) (ai tv (ai tv (ai tv (ai tv (ai tv tv)))))))))
  refine TS.reg [.none, .none, (.call (.bool y_4) []), .dec true] ?_ ?_
  ·apply prop_of ?_ hq
   kernel_rfl
  refine XS.then ?_
  refine TS.ret ?_
  obtain rfl : (y_2.1 == y_3.1) = r := Option.some.inj h
  exact XS.fin [] ((True) ∧ (True)) (by kernel_rfl) ⟨trivial, trivial⟩
 ·have hq := (ai tv (ai tv (ai (ai (ai tv (ai tv tv)) (F8_ok n y_2.2 y_3.2 y_4 hx3)) (ai (ai tv c5) (ai tv (ai tv tv))))))
  refine TS.reg [.none, .none, (.call (.bool y_4) []), .dec false] ?_ ?_
  ·apply prop_of ?_ hq
   kernel_rfl
  refine XS.then ?_
  refine TS.ret ?_
  obtain rfl : false = r := Option.some.inj h
  exact XS.fin [] ((True) ∧ (True)) (by kernel_rfl) ⟨trivial, trivial⟩
end Go.Proofs.Ytkhodpmgmmkpnaa
