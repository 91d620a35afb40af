/- Functions of the program, as functions of values. -/
import Derived.Test.YtnibbbmjjdkkgaaFgcx1
import Derived.Test.YtnibbbmjjdkkgaaChecked
namespace Go.Proofs.Ytnibbbmjjdkkgaa
open Go Go.RowKit
set_option linter.unusedVariables false
set_option maxRecDepth 100000

/-! plugtree/plugref.DeviceText -/
def F34_j8 (n : Nat) (d_Usb : Int) (d_Vendor : Int) (d_Product : Int) (d_Release : Int) (y_4 : (List UInt8) × Bool) (y_5 : (List UInt8) × Bool) : Bool → Option ((List UInt8) × Int)
  | x_2 => (bif x_2 then (some (([] : List UInt8), (1 : Int))) else ((F23 n d_Usb).bind fun y_6 => (bif (decide (([18, 1] : List UInt8).length + y_6.length ≤ 9223372036854775807)) then (bif (decide ((([18, 1] : List UInt8) ++ y_6).length + y_4.1.length ≤ 9223372036854775807)) then ((F23 n d_Vendor).bind fun y_7 => (bif (decide (((([18, 1] : List UInt8) ++ y_6) ++ y_4.1).length + y_7.length ≤ 9223372036854775807)) then ((F23 n d_Product).bind fun y_8 => (bif (decide ((((([18, 1] : List UInt8) ++ y_6) ++ y_4.1) ++ y_7).length + y_8.length ≤ 9223372036854775807)) then ((F23 n d_Release).bind fun y_9 => (bif (decide (((((([18, 1] : List UInt8) ++ y_6) ++ y_4.1) ++ y_7) ++ y_8).length + y_9.length ≤ 9223372036854775807)) then (bif (decide ((((((([18, 1] : List UInt8) ++ y_6) ++ y_4.1) ++ y_7) ++ y_8) ++ y_9).length + y_5.1.length ≤ 9223372036854775807)) then (some (((((((([18, 1] : List UInt8) ++ y_6) ++ y_4.1) ++ y_7) ++ y_8) ++ y_9) ++ y_5.1), (0 : Int))) else none) else none)) else none)) else none)) else none) else none)))
def F34_l7 (n : Nat) (d_Usb : Int) (d_Class : Int) (d_Sub : Int) (d_Proto : Int) (d_Max0 : Int) (d_Vendor : Int) (d_Product : Int) (d_Release : Int) (d_Maker : Int) (d_Name : Int) (d_Serial : Int) (d_Configs : Int) (k34_7 : Int → Option ((List UInt8) × Int)) : Int → Option ((List UInt8) × Int)
  | x => (bif (decide (x < (([d_Usb, d_Vendor, d_Product, d_Release].length : Nat) : Int))) then (bif inb x ([d_Usb, d_Vendor, d_Product, d_Release].length) then ((F49 n ([d_Usb, d_Vendor, d_Product, d_Release].getD x.toNat (0 : Int)) (0 : Int) (65535 : Int)).bind fun y_3 => (bif (!y_3) then (some (([] : List UInt8), (1 : Int))) else (k34_7 (IntKind.wrap .i64 (x + (1 : Int)))))) else none) else ((F21 n [d_Class, d_Sub, d_Proto, d_Max0]).bind fun y_4 => ((F21 n [d_Maker, d_Name, d_Serial, d_Configs]).bind fun y_5 => (bif (!y_4.2) then (F34_j8 n d_Usb d_Vendor d_Product d_Release y_4 y_5 true) else (bif (!y_5.2) then (F34_j8 n d_Usb d_Vendor d_Product d_Release y_4 y_5 true) else (bif (decide (d_Configs < (1 : Int))) then (F34_j8 n d_Usb d_Vendor d_Product d_Release y_4 y_5 true) else ((F54 n [(8 : Int), (16 : Int), (32 : Int), (64 : Int)] d_Max0).bind fun y_10 => (F34_j8 n d_Usb d_Vendor d_Product d_Release y_4 y_5 (!y_10)))))))))
def F34 (n : Nat) (d_Usb : Int) (d_Class : Int) (d_Sub : Int) (d_Proto : Int) (d_Max0 : Int) (d_Vendor : Int) (d_Product : Int) (d_Release : Int) (d_Maker : Int) (d_Name : Int) (d_Serial : Int) (d_Configs : Int) : Option ((List UInt8) × Int) := (loopF (F34_l7 n d_Usb d_Class d_Sub d_Proto d_Max0 d_Vendor d_Product d_Release d_Maker d_Name d_Serial d_Configs) n (0 : Int))
theorem F34_ok (n : Nat) (d_Usb : Int) (d_Class : Int) (d_Sub : Int) (d_Proto : Int) (d_Max0 : Int) (d_Vendor : Int) (d_Product : Int) (d_Release : Int) (d_Maker : Int) (d_Name : Int) (d_Serial : Int) (d_Configs : Int) (r : (List UInt8) × Int) (h : F34 n d_Usb d_Class d_Sub d_Proto d_Max0 d_Vendor d_Product d_Release d_Maker d_Name d_Serial d_Configs = some r) : PureC Try.prog 34 [(.st (.cons (.int .i64 d_Usb) (.cons (.int .i64 d_Class) (.cons (.int .i64 d_Sub) (.cons (.int .i64 d_Proto) (.cons (.int .i64 d_Max0) (.cons (.int .i64 d_Vendor) (.cons (.int .i64 d_Product) (.cons (.int .i64 d_Release) (.cons (.int .i64 d_Maker) (.cons (.int .i64 d_Name) (.cons (.int .i64 d_Serial) (.int .i64 d_Configs)))))))))))))] (.tup (.cons (.str r.1) (.cons (.int .i64 r.2) .nil))) [] := by
  refine PureC.mkS Try.func34 rfl rfl ?_
  intro w0 fz0 hfz
  replace h : (loopF (F34_l7 n d_Usb d_Class d_Sub d_Proto d_Max0 d_Vendor d_Product d_Release d_Maker d_Name d_Serial d_Configs) n (0 : Int)) = some r := h
  refine TS.seq ?_
  have hq : (True) ∧ ((True) ∧ ((True) ∧ (True))) := ⟨trivial, ⟨trivial, ⟨trivial, trivial⟩⟩⟩
  refine TS.reg [] ?_ ?_
  · apply prop_of ?_ hq
    kernel_rfl
  refine XS.then ?_
  refine TS.seq ?_
  refine TS.seq ?_
  have hq : (True) ∧ ((True) ∧ ((True) ∧ ((True) ∧ ((True) ∧ ((True) ∧ ((True) ∧ ((True) ∧ (((0 < 4 ∧ True) ∧ ((1 < 4 ∧ True) ∧ ((2 < 4 ∧ True) ∧ ((3 < 4 ∧ True) ∧ (True))))) ∧ ((True) ∧ ((True) ∧ (True))))))))))) := ⟨trivial, ⟨trivial, ⟨trivial, ⟨trivial, ⟨trivial, ⟨trivial, ⟨trivial, ⟨trivial, ⟨⟨⟨by decide, trivial⟩, ⟨⟨by decide, trivial⟩, ⟨⟨by decide, trivial⟩, ⟨⟨by decide, trivial⟩, trivial⟩⟩⟩⟩, ⟨trivial, ⟨trivial, trivial⟩⟩⟩⟩⟩⟩⟩⟩⟩⟩⟩
  refine TS.reg [] ?_ ?_
  · apply prop_of ?_ hq
    kernel_rfl
  refine XS.then ?_
  refine TS.block ?_
  refine TS.reLoop [0, 1] (mkMask 92 [1, 18, 19, 20]) (D := Int) (fun d => match d with | x => (mkTs 92 [(1, (.ptr 0 [])), (18, (.row 1)), (19, (.int .i64 (([d_Usb, d_Vendor, d_Product, d_Release].length : Nat) : Int))), (20, (.int .i64 x))], [(.box 34 (.st (.cons (.int .i64 d_Usb) (.cons (.int .i64 d_Class) (.cons (.int .i64 d_Sub) (.cons (.int .i64 d_Proto) (.cons (.int .i64 d_Max0) (.cons (.int .i64 d_Vendor) (.cons (.int .i64 d_Product) (.cons (.int .i64 d_Release) (.cons (.int .i64 d_Maker) (.cons (.int .i64 d_Name) (.cons (.int .i64 d_Serial) (.int .i64 d_Configs)))))))))))))), (.row 3 (.int .i64) [d_Usb, d_Vendor, d_Product, d_Release])])) (fun n' d => loopF (F34_l7 n d_Usb d_Class d_Sub d_Proto d_Max0 d_Vendor d_Product d_Release d_Maker d_Name d_Serial d_Configs) n' d = some r) n (0 : Int) h ?_ (fun d => loopF_zero _ d r) ?_
  · kernel_rfl
  · rintro n7 x h
    replace h : (bif (decide (x < (([d_Usb, d_Vendor, d_Product, d_Release].length : Nat) : Int))) then (bif inb x ([d_Usb, d_Vendor, d_Product, d_Release].length) then ((F49 n ([d_Usb, d_Vendor, d_Product, d_Release].getD x.toNat (0 : Int)) (0 : Int) (65535 : Int)).bind fun y_3 => (bif (!y_3) then (some (([] : List UInt8), (1 : Int))) else ((loopF (F34_l7 n d_Usb d_Class d_Sub d_Proto d_Max0 d_Vendor d_Product d_Release d_Maker d_Name d_Serial d_Configs) n7) (IntKind.wrap .i64 (x + (1 : Int)))))) else none) else ((F21 n [d_Class, d_Sub, d_Proto, d_Max0]).bind fun y_4 => ((F21 n [d_Maker, d_Name, d_Serial, d_Configs]).bind fun y_5 => (bif (!y_4.2) then (F34_j8 n d_Usb d_Vendor d_Product d_Release y_4 y_5 true) else (bif (!y_5.2) then (F34_j8 n d_Usb d_Vendor d_Product d_Release y_4 y_5 true) else (bif (decide (d_Configs < (1 : Int))) then (F34_j8 n d_Usb d_Vendor d_Product d_Release y_4 y_5 true) else ((F54 n [(8 : Int), (16 : Int), (32 : Int), (64 : Int)] d_Max0).bind fun y_10 => (F34_j8 n d_Usb d_Vendor d_Product d_Release y_4 y_5 (!y_10))))))))) = some r := h
    refine TS.seq ?_
    have hq : (True) ∧ (True) := ⟨trivial, trivial⟩
    refine TS.reg [] ?_ ?_
    · apply prop_of ?_ hq
      kernel_rfl
    refine XS.then ?_
    refine TS.seq ?_
    rcases bif_some h with ⟨c1, h⟩ | ⟨c2, h⟩
    · refine TS.cond (decide (x < (([d_Usb, d_Vendor, d_Product, d_Release].length : Nat) : Int))) ?_ (fun hcz => ?_) (fun hcz => by rw [c1] at hcz; cases hcz)
      · kernel_rfl
      refine TS.skip ?_
      refine XS.then ?_
      refine TS.seq ?_
      refine TS.block ?_
      refine TS.seq ?_
      obtain ⟨t3, h⟩ := test_some h
      have hq : (inR x ([d_Usb, d_Vendor, d_Product, d_Release].length)) ∧ ((x.toNat < [d_Usb, d_Vendor, d_Product, d_Release].length ∧ (True)) ∧ ((True) ∧ (True))) := ⟨inb_ok t3, ⟨⟨inR_lt (inb_ok t3), trivial⟩, ⟨trivial, trivial⟩⟩⟩
      refine TS.reg [] ?_ ?_
      · apply prop_of ?_ hq
        kernel_rfl
      refine XS.then ?_
      refine TS.seq ?_
      obtain ⟨y_3, hx4, h⟩ := bind_some' h
      have hq : (True) ∧ ((PureC Try.prog 49 [(.int .i64 ([d_Usb, d_Vendor, d_Product, d_Release].getD x.toNat (0 : Int))), (.int .i64 (0 : Int)), (.int .i64 (65535 : Int))] (.bool y_3) []) ∧ ((True) ∧ (True))) := ⟨trivial, ⟨F49_ok n ([d_Usb, d_Vendor, d_Product, d_Release].getD x.toNat (0 : Int)) (0 : Int) (65535 : Int) y_3 hx4, ⟨trivial, trivial⟩⟩⟩
      refine TS.reg [.none, (.call (.bool y_3) [])] ?_ ?_
      · apply prop_of ?_ hq
        kernel_rfl
      refine XS.then ?_
      rcases bif_some h with ⟨c5, h⟩ | ⟨c6, h⟩
      · refine TS.cond (!y_3) ?_ (fun hcz => ?_) (fun hcz => by rw [c5] at hcz; cases hcz)
        · kernel_rfl
        refine TS.seq ?_
        have hq : (True) ∧ ((True) ∧ (True)) := ⟨trivial, ⟨trivial, trivial⟩⟩
        refine TS.reg [] ?_ ?_
        · apply prop_of ?_ hq
          kernel_rfl
        refine XS.then ?_
        refine TS.ret ?_
        refine XS.blockRet ?_
        refine XS.passR ?_
        refine XS.passR ?_
        refine XS.blockRet ?_
        refine XS.passR ?_
        obtain rfl : (([] : List UInt8), (1 : Int)) = r := Option.some.inj h
        exact XS.fin [] ((True) ∧ ((True) ∧ (True))) (by kernel_rfl) ⟨trivial, ⟨trivial, trivial⟩⟩
      · refine TS.cond (!y_3) ?_ (fun hcz => by rw [c6] at hcz; cases hcz) (fun hcz => ?_)
        · kernel_rfl
        refine TS.skip ?_
        refine XS.blockEnd ?_
        refine XS.then ?_
        have hq : (True) ∧ ((True) ∧ (True)) := ⟨trivial, ⟨trivial, trivial⟩⟩
        refine TS.reg [] ?_ ?_
        · apply prop_of ?_ hq
          kernel_rfl
        refine XS.reAny [0, 1] (mkMask 92 [1, 18, 19, 20]) (IntKind.wrap .i64 (x + (1 : Int))) h ?_
        kernel_rfl
    · refine TS.cond (decide (x < (([d_Usb, d_Vendor, d_Product, d_Release].length : Nat) : Int))) ?_ (fun hcz => by rw [c2] at hcz; cases hcz) (fun hcz => ?_)
      · kernel_rfl
      refine TS.exit ?_
      refine XS.passE ?_
      refine XS.passE ?_
      refine XS.out ?_
      refine XS.then ?_
      refine TS.seq ?_
      obtain ⟨y_4, hx7, h⟩ := bind_some' h
      have hq : (True) ∧ ((True) ∧ ((True) ∧ ((True) ∧ ((True) ∧ ((True) ∧ ((True) ∧ ((True) ∧ (((0 < 4 ∧ True) ∧ ((1 < 4 ∧ True) ∧ ((2 < 4 ∧ True) ∧ ((3 < 4 ∧ True) ∧ (True))))) ∧ ((((True) ∧ (True)) ∧ PureC Try.prog 21 [(.sl (.int .i64) [d_Class, d_Sub, d_Proto, d_Max0])] (.tup (.cons (.str y_4.1) (.cons (.bool y_4.2) .nil))) []) ∧ ((True) ∧ ((True) ∧ ((True) ∧ ((True) ∧ ((True) ∧ (True))))))))))))))) := ⟨trivial, ⟨trivial, ⟨trivial, ⟨trivial, ⟨trivial, ⟨trivial, ⟨trivial, ⟨trivial, ⟨⟨⟨by decide, trivial⟩, ⟨⟨by decide, trivial⟩, ⟨⟨by decide, trivial⟩, ⟨⟨by decide, trivial⟩, trivial⟩⟩⟩⟩, ⟨⟨⟨trivial, trivial⟩, F21_ok n [d_Class, d_Sub, d_Proto, d_Max0] y_4 hx7⟩, ⟨trivial, ⟨trivial, ⟨trivial, ⟨trivial, ⟨trivial, trivial⟩⟩⟩⟩⟩⟩⟩⟩⟩⟩⟩⟩⟩⟩⟩
      refine TS.reg [.none, .none, .none, .none, .none, .none, .none, .none, .none, (.call (.tup (.cons (.str y_4.1) (.cons (.bool y_4.2) .nil))) [])] ?_ ?_
      · apply prop_of ?_ hq
        kernel_rfl
      refine XS.then ?_
      refine TS.seq ?_
      obtain ⟨y_5, hx8, h⟩ := bind_some' h
      have hq : (True) ∧ ((True) ∧ ((True) ∧ ((True) ∧ ((True) ∧ ((True) ∧ ((True) ∧ ((True) ∧ (((0 < 4 ∧ True) ∧ ((1 < 4 ∧ True) ∧ ((2 < 4 ∧ True) ∧ ((3 < 4 ∧ True) ∧ (True))))) ∧ ((((True) ∧ (True)) ∧ PureC Try.prog 21 [(.sl (.int .i64) [d_Maker, d_Name, d_Serial, d_Configs])] (.tup (.cons (.str y_5.1) (.cons (.bool y_5.2) .nil))) []) ∧ ((True) ∧ ((True) ∧ ((True) ∧ ((True) ∧ ((True) ∧ (True))))))))))))))) := ⟨trivial, ⟨trivial, ⟨trivial, ⟨trivial, ⟨trivial, ⟨trivial, ⟨trivial, ⟨trivial, ⟨⟨⟨by decide, trivial⟩, ⟨⟨by decide, trivial⟩, ⟨⟨by decide, trivial⟩, ⟨⟨by decide, trivial⟩, trivial⟩⟩⟩⟩, ⟨⟨⟨trivial, trivial⟩, F21_ok n [d_Maker, d_Name, d_Serial, d_Configs] y_5 hx8⟩, ⟨trivial, ⟨trivial, ⟨trivial, ⟨trivial, ⟨trivial, trivial⟩⟩⟩⟩⟩⟩⟩⟩⟩⟩⟩⟩⟩⟩⟩
      refine TS.reg [.none, .none, .none, .none, .none, .none, .none, .none, .none, (.call (.tup (.cons (.str y_5.1) (.cons (.bool y_5.2) .nil))) [])] ?_ ?_
      · apply prop_of ?_ hq
        kernel_rfl
      refine XS.then ?_
      refine TS.seq ?_
      refine TS.seq ?_
      refine TS.cut (D := Bool) (fun d => match d with | x_2 => (mkTs 92 [(1, (.ptr 0 [])), (6, (.str y_4.1)), (8, (.str y_5.1)), (71, (.bool x_2))], [(.box 34 (.st (.cons (.int .i64 d_Usb) (.cons (.int .i64 d_Class) (.cons (.int .i64 d_Sub) (.cons (.int .i64 d_Proto) (.cons (.int .i64 d_Max0) (.cons (.int .i64 d_Vendor) (.cons (.int .i64 d_Product) (.cons (.int .i64 d_Release) (.cons (.int .i64 d_Maker) (.cons (.int .i64 d_Name) (.cons (.int .i64 d_Serial) (.int .i64 d_Configs))))))))))))))])) (fun d => F34_j8 n d_Usb d_Vendor d_Product d_Release y_4 y_5 d = some r) ?_ ?_
      · rintro x_2 h
        replace h : (bif x_2 then (some (([] : List UInt8), (1 : Int))) else ((F23 n d_Usb).bind fun y_6 => (bif (decide (([18, 1] : List UInt8).length + y_6.length ≤ 9223372036854775807)) then (bif (decide ((([18, 1] : List UInt8) ++ y_6).length + y_4.1.length ≤ 9223372036854775807)) then ((F23 n d_Vendor).bind fun y_7 => (bif (decide (((([18, 1] : List UInt8) ++ y_6) ++ y_4.1).length + y_7.length ≤ 9223372036854775807)) then ((F23 n d_Product).bind fun y_8 => (bif (decide ((((([18, 1] : List UInt8) ++ y_6) ++ y_4.1) ++ y_7).length + y_8.length ≤ 9223372036854775807)) then ((F23 n d_Release).bind fun y_9 => (bif (decide (((((([18, 1] : List UInt8) ++ y_6) ++ y_4.1) ++ y_7) ++ y_8).length + y_9.length ≤ 9223372036854775807)) then (bif (decide ((((((([18, 1] : List UInt8) ++ y_6) ++ y_4.1) ++ y_7) ++ y_8) ++ y_9).length + y_5.1.length ≤ 9223372036854775807)) then (some (((((((([18, 1] : List UInt8) ++ y_6) ++ y_4.1) ++ y_7) ++ y_8) ++ y_9) ++ y_5.1), (0 : Int))) else none) else none)) else none)) else none)) else none) else none))) = some r := h
        refine XS.then ?_
        rcases bif_some h with ⟨c9, h⟩ | ⟨c10, h⟩
        · refine TS.cond x_2 ?_ (fun hcz => ?_) (fun hcz => by rw [c9] at hcz; cases hcz)
          · kernel_rfl
          refine TS.seq ?_
          have hq : (True) ∧ ((True) ∧ (True)) := ⟨trivial, ⟨trivial, trivial⟩⟩
          refine TS.reg [] ?_ ?_
          · apply prop_of ?_ hq
            kernel_rfl
          refine XS.then ?_
          refine TS.ret ?_
          refine XS.passR ?_
          obtain rfl : (([] : List UInt8), (1 : Int)) = r := Option.some.inj h
          exact XS.fin [] ((True) ∧ ((True) ∧ (True))) (by kernel_rfl) ⟨trivial, ⟨trivial, trivial⟩⟩
        · refine TS.cond x_2 ?_ (fun hcz => by rw [c10] at hcz; cases hcz) (fun hcz => ?_)
          · kernel_rfl
          refine TS.skip ?_
          refine XS.then ?_
          refine TS.seq ?_
          obtain ⟨y_6, hx11, h⟩ := bind_some' h
          obtain ⟨t12, h⟩ := test_some h
          obtain ⟨t13, h⟩ := test_some h
          obtain ⟨y_7, hx14, h⟩ := bind_some' h
          obtain ⟨t15, h⟩ := test_some h
          obtain ⟨y_8, hx16, h⟩ := bind_some' h
          obtain ⟨t17, h⟩ := test_some h
          obtain ⟨y_9, hx18, h⟩ := bind_some' h
          obtain ⟨t19, h⟩ := test_some h
          obtain ⟨t20, h⟩ := test_some h
          have hq : ((True) ∧ ((True) ∧ ((PureC Try.prog 23 [(.int .i64 d_Usb)] (.str y_6) []) ∧ ((([18, 1] : List UInt8).length + y_6.length ≤ 9223372036854775807) ∧ ((True) ∧ (((([18, 1] : List UInt8) ++ y_6).length + y_4.1.length ≤ 9223372036854775807) ∧ ((True) ∧ ((True) ∧ ((PureC Try.prog 23 [(.int .i64 d_Vendor)] (.str y_7) []) ∧ ((((([18, 1] : List UInt8) ++ y_6) ++ y_4.1).length + y_7.length ≤ 9223372036854775807) ∧ ((True) ∧ ((True) ∧ ((PureC Try.prog 23 [(.int .i64 d_Product)] (.str y_8) []) ∧ (((((([18, 1] : List UInt8) ++ y_6) ++ y_4.1) ++ y_7).length + y_8.length ≤ 9223372036854775807) ∧ ((True) ∧ ((True) ∧ ((PureC Try.prog 23 [(.int .i64 d_Release)] (.str y_9) []) ∧ ((((((([18, 1] : List UInt8) ++ y_6) ++ y_4.1) ++ y_7) ++ y_8).length + y_9.length ≤ 9223372036854775807) ∧ ((True) ∧ (((((((([18, 1] : List UInt8) ++ y_6) ++ y_4.1) ++ y_7) ++ y_8) ++ y_9).length + y_5.1.length ≤ 9223372036854775807) ∧ (True))))))))))))))))))))) ∧ ((True) ∧ ((True) ∧ (True))) := ⟨⟨trivial, ⟨trivial, ⟨F23_ok n d_Usb y_6 hx11, ⟨of_decide_eq_true t12, ⟨trivial, ⟨of_decide_eq_true t13, ⟨trivial, ⟨trivial, ⟨F23_ok n d_Vendor y_7 hx14, ⟨of_decide_eq_true t15, ⟨trivial, ⟨trivial, ⟨F23_ok n d_Product y_8 hx16, ⟨of_decide_eq_true t17, ⟨trivial, ⟨trivial, ⟨F23_ok n d_Release y_9 hx18, ⟨of_decide_eq_true t19, ⟨trivial, ⟨of_decide_eq_true t20, trivial⟩⟩⟩⟩⟩⟩⟩⟩⟩⟩⟩⟩⟩⟩⟩⟩⟩⟩⟩⟩, ⟨trivial, ⟨trivial, trivial⟩⟩⟩
          refine TS.draw 20 [] [.none, .none, (.call (.str y_6) []), .none, .none, .none, .none, .none, (.call (.str y_7) []), .none, .none, .none, (.call (.str y_8) []), .none, .none, .none, (.call (.str y_9) [])] (by kernel_rfl) ?_ ?_
          · apply prop_of ?_ hq
            kernel_rfl
          refine XS.then ?_
          refine TS.ret ?_
          obtain rfl : (((((((([18, 1] : List UInt8) ++ y_6) ++ y_4.1) ++ y_7) ++ y_8) ++ y_9) ++ y_5.1), (0 : Int)) = r := Option.some.inj h
          exact XS.fin [] ((True) ∧ ((True) ∧ (True))) (by kernel_rfl) ⟨trivial, ⟨trivial, trivial⟩⟩
      · rcases bif_some h with ⟨c21, h⟩ | ⟨c22, h⟩
        · have hq : (True) ∧ ((True) ∧ (((True) ∧ (!y_4.2) = true) ∧ ((True) ∧ ((True) ∧ ((True) ∧ ((True) ∧ ((True) ∧ (True)))))))) := ⟨trivial, ⟨trivial, ⟨⟨trivial, c21⟩, ⟨trivial, ⟨trivial, ⟨trivial, ⟨trivial, ⟨trivial, trivial⟩⟩⟩⟩⟩⟩⟩⟩
          refine TS.reg [.none, .none, .dec true] ?_ ?_
          · apply prop_of ?_ hq
            kernel_rfl
          refine XS.reAny [0] (mkMask 92 [1, 6, 8, 71]) true h ?_
          kernel_rfl
        · rcases bif_some h with ⟨c23, h⟩ | ⟨c24, h⟩
          · have hq : (True) ∧ ((True) ∧ (((True) ∧ (!y_4.2) = false) ∧ ((True) ∧ ((True) ∧ ((True) ∧ (((True) ∧ (!y_5.2) = true) ∧ ((True) ∧ ((True) ∧ ((True) ∧ (True)))))))))) := ⟨trivial, ⟨trivial, ⟨⟨trivial, c22⟩, ⟨trivial, ⟨trivial, ⟨trivial, ⟨⟨trivial, c23⟩, ⟨trivial, ⟨trivial, ⟨trivial, trivial⟩⟩⟩⟩⟩⟩⟩⟩⟩⟩
            refine TS.reg [.none, .none, .dec false, .none, .none, .none, .dec true] ?_ ?_
            · apply prop_of ?_ hq
              kernel_rfl
            refine XS.reAny [0] (mkMask 92 [1, 6, 8, 71]) true h ?_
            kernel_rfl
          · rcases bif_some h with ⟨c25, h⟩ | ⟨c26, h⟩
            · have hq : (True) ∧ ((True) ∧ (((True) ∧ (!y_4.2) = false) ∧ ((True) ∧ ((True) ∧ ((True) ∧ (((True) ∧ (!y_5.2) = false) ∧ ((True) ∧ ((True) ∧ ((True) ∧ ((True) ∧ (((True) ∧ (decide (d_Configs < (1 : Int))) = true) ∧ ((True) ∧ (True))))))))))))) := ⟨trivial, ⟨trivial, ⟨⟨trivial, c22⟩, ⟨trivial, ⟨trivial, ⟨trivial, ⟨⟨trivial, c24⟩, ⟨trivial, ⟨trivial, ⟨trivial, ⟨trivial, ⟨⟨trivial, c25⟩, ⟨trivial, trivial⟩⟩⟩⟩⟩⟩⟩⟩⟩⟩⟩⟩⟩
              refine TS.reg [.none, .none, .dec false, .none, .none, .none, .dec false, .none, .none, .none, .none, .dec true] ?_ ?_
              · apply prop_of ?_ hq
                kernel_rfl
              refine XS.reAny [0] (mkMask 92 [1, 6, 8, 71]) true h ?_
              kernel_rfl
            · obtain ⟨y_10, hx27, h⟩ := bind_some' h
              have hq : (True) ∧ ((True) ∧ (((True) ∧ (!y_4.2) = false) ∧ ((True) ∧ ((True) ∧ ((True) ∧ (((True) ∧ (!y_5.2) = false) ∧ ((True) ∧ ((True) ∧ ((True) ∧ ((True) ∧ (((True) ∧ (decide (d_Configs < (1 : Int))) = false) ∧ (((0 < 4 ∧ True) ∧ ((1 < 4 ∧ True) ∧ ((2 < 4 ∧ True) ∧ ((3 < 4 ∧ True) ∧ (True))))) ∧ ((True) ∧ ((True) ∧ ((((True) ∧ ((True) ∧ (True))) ∧ PureC Try.prog 54 [(.sl (.int .i64) [(8 : Int), (16 : Int), (32 : Int), (64 : Int)]), (.int .i64 d_Max0)] (.bool y_10) []) ∧ ((True) ∧ ((True) ∧ (True)))))))))))))))))) := ⟨trivial, ⟨trivial, ⟨⟨trivial, c22⟩, ⟨trivial, ⟨trivial, ⟨trivial, ⟨⟨trivial, c24⟩, ⟨trivial, ⟨trivial, ⟨trivial, ⟨trivial, ⟨⟨trivial, c26⟩, ⟨⟨⟨by decide, trivial⟩, ⟨⟨by decide, trivial⟩, ⟨⟨by decide, trivial⟩, ⟨⟨by decide, trivial⟩, trivial⟩⟩⟩⟩, ⟨trivial, ⟨trivial, ⟨⟨⟨trivial, ⟨trivial, trivial⟩⟩, F54_ok n [(8 : Int), (16 : Int), (32 : Int), (64 : Int)] d_Max0 y_10 hx27⟩, ⟨trivial, ⟨trivial, trivial⟩⟩⟩⟩⟩⟩⟩⟩⟩⟩⟩⟩⟩⟩⟩⟩⟩⟩
              refine TS.reg [.none, .none, .dec false, .none, .none, .none, .dec false, .none, .none, .none, .none, .dec false, .none, .none, .none, (.call (.bool y_10) [])] ?_ ?_
              · apply prop_of ?_ hq
                kernel_rfl
              refine XS.reAny [0] (mkMask 92 [1, 6, 8, 71]) (!y_10) h ?_
              kernel_rfl

/-! slices.Clone[[]plugtree/api.End,plugtree/api.End] -/
def F50 (n : Nat) (s : List (Int × Bool × Int × Int × Int)) : Option (List (Int × Bool × Int × Int × Int)) := (bif (decide (([] : List (Int × Bool × Int × Int × Int)).length + s.length ≤ 3518437208883)) then (some (([] : List (Int × Bool × Int × Int × Int)) ++ s)) else none)
theorem F50_ok (n : Nat) (s : List (Int × Bool × Int × Int × Int)) (r : List (Int × Bool × Int × Int × Int)) (h : F50 n s = some r) : PureC Try.prog 50 [(.sl (.st (.pair (.int .i64) (.pair .bool (.pair (.int .i64) (.pair (.int .i64) (.int .i64)))))) s)] (.row 0) [(.row 54 (.st (.pair (.int .i64) (.pair .bool (.pair (.int .i64) (.pair (.int .i64) (.int .i64)))))) r)] := by
  refine PureC.mkS Try.func50 rfl rfl ?_
  intro w0 fz0 hfz
  replace h : (bif (decide (([] : List (Int × Bool × Int × Int × Int)).length + s.length ≤ 3518437208883)) then (some (([] : List (Int × Bool × Int × Int × Int)) ++ s)) else none) = some r := h
  refine TS.seq ?_
  have hq : (True) ∧ (True) := ⟨trivial, trivial⟩
  refine TS.reg [] ?_ ?_
  · apply prop_of ?_ hq
    kernel_rfl
  refine XS.then ?_
  refine TS.seq ?_
  refine TS.seq ?_
  have hq : (True) ∧ (True) := ⟨trivial, trivial⟩
  refine TS.nilReg 1 [] (.st (.pair (.int .i64) (.pair .bool (.pair (.int .i64) (.pair (.int .i64) (.int .i64)))))) s ?_ (by kernel_rfl) ?_
  · apply prop_of ?_ hq
    kernel_rfl
  · intro b2 hb4
    cases b2
    · clear hb4
      refine XS.then ?_
      refine TS.no ?_ ?_
      · kernel_rfl
      refine TS.skip ?_
      refine XS.then ?_
      refine TS.seq ?_
      obtain ⟨t1, h⟩ := test_some h
      have hq : (True) ∧ ((True) ∧ ((([] : List (Int × Bool × Int × Int × Int)).length + s.length ≤ 3518437208883) ∧ ((True) ∧ (True)))) := ⟨trivial, ⟨trivial, ⟨of_decide_eq_true t1, ⟨trivial, trivial⟩⟩⟩⟩
      refine TS.reg [] ?_ ?_
      · apply prop_of ?_ hq
        kernel_rfl
      refine XS.then ?_
      refine TS.ret ?_
      obtain rfl : (([] : List (Int × Bool × Int × Int × Int)) ++ s) = r := Option.some.inj h
      exact XS.fin [1] ((True) ∧ (True)) (by kernel_rfl) ⟨trivial, trivial⟩
    · have e3 := hb4 rfl
      replace h : (some ([] : List (Int × Bool × Int × Int × Int))) = some r := by first | exact h | (rw [e3] at h ⊢; exact h) | simpa [e3] using h
      refine XS.then ?_
      refine TS.yes ?_ ?_
      · kernel_rfl
      refine TS.seq ?_
      have hq : (True) ∧ (True) := ⟨trivial, trivial⟩
      refine TS.reg [] ?_ ?_
      · apply prop_of ?_ hq
        kernel_rfl
      refine XS.then ?_
      refine TS.ret ?_
      refine XS.passR ?_
      obtain rfl : ([] : List (Int × Bool × Int × Int × Int)) = r := Option.some.inj h
      refine XS.wk (.row false 2 [] 54 (.st (.pair (.int .i64) (.pair .bool (.pair (.int .i64) (.pair (.int .i64) (.int .i64))))))) ?_
      exact XS.fin [0] ((True) ∧ (True)) (by kernel_rfl) ⟨trivial, trivial⟩

/-! plugtree/plugref.faceError -/
def F22_l44 (n : Nat) (k22_42 : Int → Option Int) (f_Ends : List (Int × Bool × Int × Int × Int)) (x_2 : Int) (y_4 : List (Int × Bool × Int × Int × Int)) (k22_44 : Int → Option Int) : Int → Option Int
  | x_4 => (bif (decide (x_4 < (((y_4 ++ (f_Ends.take x_2.toNat)).length : Nat) : Int))) then (bif inb x_4 ((y_4 ++ (f_Ends.take x_2.toNat)).length) then (bif (((y_4 ++ (f_Ends.take x_2.toNat)).getD x_4.toNat ((0 : Int), (false, ((0 : Int), ((0 : Int), (0 : Int)))))).1 == (f_Ends.getD x_2.toNat ((0 : Int), (false, ((0 : Int), ((0 : Int), (0 : Int)))))).1) then (bif (((y_4 ++ (f_Ends.take x_2.toNat)).getD x_4.toNat ((0 : Int), (false, ((0 : Int), ((0 : Int), (0 : Int)))))).2.1 == (f_Ends.getD x_2.toNat ((0 : Int), (false, ((0 : Int), ((0 : Int), (0 : Int)))))).2.1) then (some (13 : Int)) else (k22_44 (IntKind.wrap .i64 (x_4 + (1 : Int))))) else (k22_44 (IntKind.wrap .i64 (x_4 + (1 : Int))))) else none) else (k22_42 (IntKind.wrap .i64 (x_2 + (1 : Int)))))
def F22_j43 (n : Nat) (k22_42 : Int → Option Int) (f_Ends : List (Int × Bool × Int × Int × Int)) (ahead : List (Int × Bool × Int × Int × Int)) (x_2 : Int) : Bool → Option Int
  | x_3 => (bif x_3 then (some (1 : Int)) else ((F50 n ahead).bind fun y_4 => (bif subB f_Ends.length none (some x_2) then (bif (decide (y_4.length + (f_Ends.take x_2.toNat).length ≤ 3518437208883)) then (loopF (F22_l44 n k22_42 f_Ends x_2 y_4) n (0 : Int)) else none) else none)))
def F22_l42 (n : Nat) (f_Ends : List (Int × Bool × Int × Int × Int)) (ahead : List (Int × Bool × Int × Int × Int)) (k22_42 : Int → Option Int) : Int → Option Int
  | x_2 => (bif (decide (x_2 < ((f_Ends.length : Nat) : Int))) then (bif inb x_2 f_Ends.length then ((F49 n ((f_Ends.getD x_2.toNat ((0 : Int), (false, ((0 : Int), ((0 : Int), (0 : Int)))))).1) (1 : Int) (15 : Int)).bind fun y_5 => (bif (!y_5) then (F22_j43 n k22_42 f_Ends ahead x_2 true) else ((F49 n ((f_Ends.getD x_2.toNat ((0 : Int), (false, ((0 : Int), ((0 : Int), (0 : Int)))))).2.2.1) (0 : Int) (3 : Int)).bind fun y_6 => (bif (!y_6) then (F22_j43 n k22_42 f_Ends ahead x_2 true) else ((F49 n ((f_Ends.getD x_2.toNat ((0 : Int), (false, ((0 : Int), ((0 : Int), (0 : Int)))))).2.2.2.1) (1 : Int) (64 : Int)).bind fun y_7 => (bif (!y_7) then (F22_j43 n k22_42 f_Ends ahead x_2 true) else ((F49 n ((f_Ends.getD x_2.toNat ((0 : Int), (false, ((0 : Int), ((0 : Int), (0 : Int)))))).2.2.2.2) (0 : Int) (255 : Int)).bind fun y_8 => (F22_j43 n k22_42 f_Ends ahead x_2 (!y_8))))))))) else none) else (some (0 : Int)))
def F22_l37 (n : Nat) (f_Extra : List (List UInt8)) (f_Ends : List (Int × Bool × Int × Int × Int)) (ahead : List (Int × Bool × Int × Int × Int)) (k22_37 : Int → Option Int) : Int → Option Int
  | x => (bif (decide (x < ((f_Extra.length : Nat) : Int))) then (bif inb x f_Extra.length then ((F49 n (((f_Extra.getD x.toNat ([] : List UInt8)).length : Nat) : Int) (2 : Int) (32 : Int)).bind fun y_3 => (bif (!y_3) then (some (1 : Int)) else (bif inb (0 : Int) ((f_Extra.getD x.toNat ([] : List UInt8)).length) then (bif ((IntKind.wrap .i64 (((((f_Extra.getD x.toNat ([] : List UInt8)).getD 0 0).toNat : Nat) : Int))) != (((f_Extra.getD x.toNat ([] : List UInt8)).length : Nat) : Int)) then (some (1 : Int)) else (bif inb (1 : Int) ((f_Extra.getD x.toNat ([] : List UInt8)).length) then (bif (decide (((((f_Extra.getD x.toNat ([] : List UInt8)).getD 1 0).toNat : Nat) : Int) ≤ (5 : Int))) then (some (1 : Int)) else (k22_37 (IntKind.wrap .i64 (x + (1 : Int))))) else none)) else none))) else none) else (bif (decide (((f_Ends.length : Nat) : Int) > (4 : Int))) then (some (2 : Int)) else (loopF (F22_l42 n f_Ends ahead) n (0 : Int))))
def F22 (n : Nat) (f_Class : Int) (f_Sub : Int) (f_Proto : Int) (f_Name : Int) (f_Extra : List (List UInt8)) (f_Ends : List (Int × Bool × Int × Int × Int)) (ahead : List (Int × Bool × Int × Int × Int)) : Option Int := ((F21 n [f_Class, f_Sub, f_Proto, f_Name]).bind fun y_2 => (bif (!y_2.2) then (some (1 : Int)) else (bif (decide (((f_Extra.length : Nat) : Int) > (2 : Int))) then (some (2 : Int)) else (loopF (F22_l37 n f_Extra f_Ends ahead) n (0 : Int)))))
theorem F22_ok (n : Nat) (f_Class : Int) (f_Sub : Int) (f_Proto : Int) (f_Name : Int) (f_Extra : List (List UInt8)) (f_Ends : List (Int × Bool × Int × Int × Int)) (ahead : List (Int × Bool × Int × Int × Int)) (r : Int) (h : F22 n f_Class f_Sub f_Proto f_Name f_Extra f_Ends ahead = some r) : PureC Try.prog 22 [(.st (.cons (.int .i64 f_Class) (.cons (.int .i64 f_Sub) (.cons (.int .i64 f_Proto) (.cons (.int .i64 f_Name) (.cons (.sl .str f_Extra) (.sl (.st (.pair (.int .i64) (.pair .bool (.pair (.int .i64) (.pair (.int .i64) (.int .i64)))))) f_Ends))))))), (.sl (.st (.pair (.int .i64) (.pair .bool (.pair (.int .i64) (.pair (.int .i64) (.int .i64)))))) ahead)] (.int .i64 r) [] := by
  refine PureC.mkS Try.func22 rfl rfl ?_
  intro w0 fz0 hfz
  replace h : ((F21 n [f_Class, f_Sub, f_Proto, f_Name]).bind fun y_2 => (bif (!y_2.2) then (some (1 : Int)) else (bif (decide (((f_Extra.length : Nat) : Int) > (2 : Int))) then (some (2 : Int)) else (loopF (F22_l37 n f_Extra f_Ends ahead) n (0 : Int))))) = some r := h
  refine TS.seq ?_
  have hq : (True) ∧ ((True) ∧ (True)) := ⟨trivial, ⟨trivial, trivial⟩⟩
  refine TS.reg [] ?_ ?_
  · apply prop_of ?_ hq
    kernel_rfl
  refine XS.then ?_
  refine TS.seq ?_
  refine TS.seq ?_
  obtain ⟨y_2, hx1, h⟩ := bind_some' h
  have hq : (True) ∧ ((True) ∧ ((True) ∧ ((True) ∧ ((True) ∧ ((True) ∧ ((True) ∧ ((True) ∧ (((0 < 4 ∧ True) ∧ ((1 < 4 ∧ True) ∧ ((2 < 4 ∧ True) ∧ ((3 < 4 ∧ True) ∧ (True))))) ∧ ((((True) ∧ (True)) ∧ PureC Try.prog 21 [(.sl (.int .i64) [f_Class, f_Sub, f_Proto, f_Name])] (.tup (.cons (.str y_2.1) (.cons (.bool y_2.2) .nil))) []) ∧ ((True) ∧ ((True) ∧ ((True) ∧ ((True) ∧ ((True) ∧ (True))))))))))))))) := ⟨trivial, ⟨trivial, ⟨trivial, ⟨trivial, ⟨trivial, ⟨trivial, ⟨trivial, ⟨trivial, ⟨⟨⟨by decide, trivial⟩, ⟨⟨by decide, trivial⟩, ⟨⟨by decide, trivial⟩, ⟨⟨by decide, trivial⟩, trivial⟩⟩⟩⟩, ⟨⟨⟨trivial, trivial⟩, F21_ok n [f_Class, f_Sub, f_Proto, f_Name] y_2 hx1⟩, ⟨trivial, ⟨trivial, ⟨trivial, ⟨trivial, ⟨trivial, trivial⟩⟩⟩⟩⟩⟩⟩⟩⟩⟩⟩⟩⟩⟩⟩
  refine TS.reg [.none, .none, .none, .none, .none, .none, .none, .none, .none, (.call (.tup (.cons (.str y_2.1) (.cons (.bool y_2.2) .nil))) [])] ?_ ?_
  · apply prop_of ?_ hq
    kernel_rfl
  refine XS.then ?_
  refine TS.seq ?_
  have hq : (True) ∧ ((True) ∧ (True)) := ⟨trivial, ⟨trivial, trivial⟩⟩
  refine TS.reg [] ?_ ?_
  · apply prop_of ?_ hq
    kernel_rfl
  refine XS.then ?_
  rcases bif_some h with ⟨c2, h⟩ | ⟨c3, h⟩
  · refine TS.cond (!y_2.2) ?_ (fun hcz => ?_) (fun hcz => by rw [c2] at hcz; cases hcz)
    · kernel_rfl
    refine TS.seq ?_
    have hq : (True) ∧ (True) := ⟨trivial, trivial⟩
    refine TS.reg [] ?_ ?_
    · apply prop_of ?_ hq
      kernel_rfl
    refine XS.then ?_
    refine TS.ret ?_
    refine XS.passR ?_
    obtain rfl : (1 : Int) = r := Option.some.inj h
    exact XS.fin [] ((True) ∧ (True)) (by kernel_rfl) ⟨trivial, trivial⟩
  · refine TS.cond (!y_2.2) ?_ (fun hcz => by rw [c3] at hcz; cases hcz) (fun hcz => ?_)
    · kernel_rfl
    refine TS.skip ?_
    refine XS.then ?_
    refine TS.seq ?_
    refine TS.seq ?_
    have hq : (True) ∧ ((True) ∧ ((True) ∧ ((True) ∧ (True)))) := ⟨trivial, ⟨trivial, ⟨trivial, ⟨trivial, trivial⟩⟩⟩⟩
    refine TS.reg [] ?_ ?_
    · apply prop_of ?_ hq
      kernel_rfl
    refine XS.then ?_
    rcases bif_some h with ⟨c4, h⟩ | ⟨c5, h⟩
    · refine TS.cond (decide (((f_Extra.length : Nat) : Int) > (2 : Int))) ?_ (fun hcz => ?_) (fun hcz => by rw [c4] at hcz; cases hcz)
      · kernel_rfl
      refine TS.seq ?_
      have hq : (True) ∧ (True) := ⟨trivial, trivial⟩
      refine TS.reg [] ?_ ?_
      · apply prop_of ?_ hq
        kernel_rfl
      refine XS.then ?_
      refine TS.ret ?_
      refine XS.passR ?_
      obtain rfl : (2 : Int) = r := Option.some.inj h
      exact XS.fin [] ((True) ∧ (True)) (by kernel_rfl) ⟨trivial, trivial⟩
    · refine TS.cond (decide (((f_Extra.length : Nat) : Int) > (2 : Int))) ?_ (fun hcz => by rw [c5] at hcz; cases hcz) (fun hcz => ?_)
      · kernel_rfl
      refine TS.skip ?_
      refine XS.then ?_
      refine TS.seq ?_
      refine TS.seq ?_
      have hq : (True) ∧ ((True) ∧ ((True) ∧ ((True) ∧ (True)))) := ⟨trivial, ⟨trivial, ⟨trivial, ⟨trivial, trivial⟩⟩⟩⟩
      refine TS.reg [] ?_ ?_
      · apply prop_of ?_ hq
        kernel_rfl
      refine XS.then ?_
      refine TS.block ?_
      refine TS.reLoop [0] (mkMask 117 [1, 2, 33, 34, 35]) (D := Int) (fun d => match d with | x => (mkTs 117 [(1, (.sl (.st (.pair (.int .i64) (.pair .bool (.pair (.int .i64) (.pair (.int .i64) (.int .i64)))))) ahead)), (2, (.ptr 0 [])), (33, (.sl .str f_Extra)), (34, (.int .i64 ((f_Extra.length : Nat) : Int))), (35, (.int .i64 x))], [(.box 49 (.st (.cons (.int .i64 f_Class) (.cons (.int .i64 f_Sub) (.cons (.int .i64 f_Proto) (.cons (.int .i64 f_Name) (.cons (.sl .str f_Extra) (.sl (.st (.pair (.int .i64) (.pair .bool (.pair (.int .i64) (.pair (.int .i64) (.int .i64)))))) f_Ends))))))))])) (fun n' d => loopF (F22_l37 n f_Extra f_Ends ahead) n' d = some r) n (0 : Int) h ?_ (fun d => loopF_zero _ d r) ?_
      · kernel_rfl
      · rintro n37 x h
        replace h : (bif (decide (x < ((f_Extra.length : Nat) : Int))) then (bif inb x f_Extra.length then ((F49 n (((f_Extra.getD x.toNat ([] : List UInt8)).length : Nat) : Int) (2 : Int) (32 : Int)).bind fun y_3 => (bif (!y_3) then (some (1 : Int)) else (bif inb (0 : Int) ((f_Extra.getD x.toNat ([] : List UInt8)).length) then (bif ((IntKind.wrap .i64 (((((f_Extra.getD x.toNat ([] : List UInt8)).getD 0 0).toNat : Nat) : Int))) != (((f_Extra.getD x.toNat ([] : List UInt8)).length : Nat) : Int)) then (some (1 : Int)) else (bif inb (1 : Int) ((f_Extra.getD x.toNat ([] : List UInt8)).length) then (bif (decide (((((f_Extra.getD x.toNat ([] : List UInt8)).getD 1 0).toNat : Nat) : Int) ≤ (5 : Int))) then (some (1 : Int)) else ((loopF (F22_l37 n f_Extra f_Ends ahead) n37) (IntKind.wrap .i64 (x + (1 : Int))))) else none)) else none))) else none) else (bif (decide (((f_Ends.length : Nat) : Int) > (4 : Int))) then (some (2 : Int)) else (loopF (F22_l42 n f_Ends ahead) n (0 : Int)))) = some r := h
        refine TS.seq ?_
        have hq : (True) ∧ (True) := ⟨trivial, trivial⟩
        refine TS.reg [] ?_ ?_
        · apply prop_of ?_ hq
          kernel_rfl
        refine XS.then ?_
        refine TS.seq ?_
        rcases bif_some h with ⟨c6, h⟩ | ⟨c7, h⟩
        · refine TS.cond (decide (x < ((f_Extra.length : Nat) : Int))) ?_ (fun hcz => ?_) (fun hcz => by rw [c6] at hcz; cases hcz)
          · kernel_rfl
          refine TS.skip ?_
          refine XS.then ?_
          refine TS.seq ?_
          refine TS.block ?_
          refine TS.seq ?_
          obtain ⟨t8, h⟩ := test_some h
          have hq : (inR x f_Extra.length) ∧ ((True) ∧ ((True) ∧ (True))) := ⟨inb_ok t8, ⟨trivial, ⟨trivial, trivial⟩⟩⟩
          refine TS.reg [] ?_ ?_
          · apply prop_of ?_ hq
            kernel_rfl
          refine XS.then ?_
          refine TS.seq ?_
          obtain ⟨y_3, hx9, h⟩ := bind_some' h
          rcases bif_some h with ⟨c10, h⟩ | ⟨c11, h⟩
          · have hq : (True) ∧ ((True) ∧ ((PureC Try.prog 49 [(.int .i64 (((f_Extra.getD x.toNat ([] : List UInt8)).length : Nat) : Int)), (.int .i64 (2 : Int)), (.int .i64 (32 : Int))] (.bool y_3) []) ∧ ((True) ∧ (((True) ∧ (!y_3) = true) ∧ ((True) ∧ ((True) ∧ ((True) ∧ (True)))))))) := ⟨trivial, ⟨trivial, ⟨F49_ok n (((f_Extra.getD x.toNat ([] : List UInt8)).length : Nat) : Int) (2 : Int) (32 : Int) y_3 hx9, ⟨trivial, ⟨⟨trivial, c10⟩, ⟨trivial, ⟨trivial, ⟨trivial, trivial⟩⟩⟩⟩⟩⟩⟩⟩
            refine TS.reg [.none, .none, (.call (.bool y_3) []), .none, .dec true] ?_ ?_
            · apply prop_of ?_ hq
              kernel_rfl
            refine XS.then ?_
            refine TS.yes ?_ ?_
            · kernel_rfl
            refine TS.seq ?_
            have hq : (True) ∧ (True) := ⟨trivial, trivial⟩
            refine TS.reg [] ?_ ?_
            · apply prop_of ?_ hq
              kernel_rfl
            refine XS.then ?_
            refine TS.ret ?_
            refine XS.blockRet ?_
            refine XS.passR ?_
            refine XS.passR ?_
            refine XS.blockRet ?_
            refine XS.passR ?_
            obtain rfl : (1 : Int) = r := Option.some.inj h
            exact XS.fin [] ((True) ∧ (True)) (by kernel_rfl) ⟨trivial, trivial⟩
          · obtain ⟨t12, h⟩ := test_some h
            rcases bif_some h with ⟨c13, h⟩ | ⟨c14, h⟩
            · have hq : (True) ∧ ((True) ∧ ((PureC Try.prog 49 [(.int .i64 (((f_Extra.getD x.toNat ([] : List UInt8)).length : Nat) : Int)), (.int .i64 (2 : Int)), (.int .i64 (32 : Int))] (.bool y_3) []) ∧ ((True) ∧ (((True) ∧ (!y_3) = false) ∧ ((True) ∧ ((inR (0 : Int) ((f_Extra.getD x.toNat ([] : List UInt8)).length)) ∧ ((True) ∧ ((True) ∧ ((True) ∧ ((True) ∧ ((True) ∧ (((True) ∧ ((IntKind.wrap .i64 (((((f_Extra.getD x.toNat ([] : List UInt8)).getD 0 0).toNat : Nat) : Int))) != (((f_Extra.getD x.toNat ([] : List UInt8)).length : Nat) : Int)) = true) ∧ ((True) ∧ (True)))))))))))))) := ⟨trivial, ⟨trivial, ⟨F49_ok n (((f_Extra.getD x.toNat ([] : List UInt8)).length : Nat) : Int) (2 : Int) (32 : Int) y_3 hx9, ⟨trivial, ⟨⟨trivial, c11⟩, ⟨trivial, ⟨inb_ok t12, ⟨trivial, ⟨trivial, ⟨trivial, ⟨trivial, ⟨trivial, ⟨⟨trivial, c13⟩, ⟨trivial, trivial⟩⟩⟩⟩⟩⟩⟩⟩⟩⟩⟩⟩⟩⟩
              refine TS.reg [.none, .none, (.call (.bool y_3) []), .none, .dec false, .none, .none, .none, .none, .none, .none, .none, .dec true] ?_ ?_
              · apply prop_of ?_ hq
                kernel_rfl
              refine XS.then ?_
              refine TS.yes ?_ ?_
              · kernel_rfl
              refine TS.seq ?_
              have hq : (True) ∧ (True) := ⟨trivial, trivial⟩
              refine TS.reg [] ?_ ?_
              · apply prop_of ?_ hq
                kernel_rfl
              refine XS.then ?_
              refine TS.ret ?_
              refine XS.blockRet ?_
              refine XS.passR ?_
              refine XS.passR ?_
              refine XS.blockRet ?_
              refine XS.passR ?_
              obtain rfl : (1 : Int) = r := Option.some.inj h
              exact XS.fin [] ((True) ∧ (True)) (by kernel_rfl) ⟨trivial, trivial⟩
            · obtain ⟨t15, h⟩ := test_some h
              have hq : (True) ∧ ((True) ∧ ((PureC Try.prog 49 [(.int .i64 (((f_Extra.getD x.toNat ([] : List UInt8)).length : Nat) : Int)), (.int .i64 (2 : Int)), (.int .i64 (32 : Int))] (.bool y_3) []) ∧ ((True) ∧ (((True) ∧ (!y_3) = false) ∧ ((True) ∧ ((inR (0 : Int) ((f_Extra.getD x.toNat ([] : List UInt8)).length)) ∧ ((True) ∧ ((True) ∧ ((True) ∧ ((True) ∧ ((True) ∧ (((True) ∧ ((IntKind.wrap .i64 (((((f_Extra.getD x.toNat ([] : List UInt8)).getD 0 0).toNat : Nat) : Int))) != (((f_Extra.getD x.toNat ([] : List UInt8)).length : Nat) : Int)) = false) ∧ ((True) ∧ ((inR (1 : Int) ((f_Extra.getD x.toNat ([] : List UInt8)).length)) ∧ ((True) ∧ ((True) ∧ (True))))))))))))))))) := ⟨trivial, ⟨trivial, ⟨F49_ok n (((f_Extra.getD x.toNat ([] : List UInt8)).length : Nat) : Int) (2 : Int) (32 : Int) y_3 hx9, ⟨trivial, ⟨⟨trivial, c11⟩, ⟨trivial, ⟨inb_ok t12, ⟨trivial, ⟨trivial, ⟨trivial, ⟨trivial, ⟨trivial, ⟨⟨trivial, c14⟩, ⟨trivial, ⟨inb_ok t15, ⟨trivial, ⟨trivial, trivial⟩⟩⟩⟩⟩⟩⟩⟩⟩⟩⟩⟩⟩⟩⟩⟩⟩
              refine TS.reg [.none, .none, (.call (.bool y_3) []), .none, .dec false, .none, .none, .none, .none, .none, .none, .none, .dec false] ?_ ?_
              · apply prop_of ?_ hq
                kernel_rfl
              refine XS.then ?_
              rcases bif_some h with ⟨c16, h⟩ | ⟨c17, h⟩
              · refine TS.cond (decide (((((f_Extra.getD x.toNat ([] : List UInt8)).getD 1 0).toNat : Nat) : Int) ≤ (5 : Int))) ?_ (fun hcz => ?_) (fun hcz => by rw [c16] at hcz; cases hcz)
                · kernel_rfl
                refine TS.seq ?_
                have hq : (True) ∧ (True) := ⟨trivial, trivial⟩
                refine TS.reg [] ?_ ?_
                · apply prop_of ?_ hq
                  kernel_rfl
                refine XS.then ?_
                refine TS.ret ?_
                refine XS.blockRet ?_
                refine XS.passR ?_
                refine XS.passR ?_
                refine XS.blockRet ?_
                refine XS.passR ?_
                obtain rfl : (1 : Int) = r := Option.some.inj h
                exact XS.fin [] ((True) ∧ (True)) (by kernel_rfl) ⟨trivial, trivial⟩
              · refine TS.cond (decide (((((f_Extra.getD x.toNat ([] : List UInt8)).getD 1 0).toNat : Nat) : Int) ≤ (5 : Int))) ?_ (fun hcz => by rw [c17] at hcz; cases hcz) (fun hcz => ?_)
                · kernel_rfl
                refine TS.skip ?_
                refine XS.blockEnd ?_
                refine XS.then ?_
                have hq : (True) ∧ ((True) ∧ (True)) := ⟨trivial, ⟨trivial, trivial⟩⟩
                refine TS.reg [] ?_ ?_
                · apply prop_of ?_ hq
                  kernel_rfl
                refine XS.reAny [0] (mkMask 117 [1, 2, 33, 34, 35]) (IntKind.wrap .i64 (x + (1 : Int))) h ?_
                kernel_rfl
        · refine TS.cond (decide (x < ((f_Extra.length : Nat) : Int))) ?_ (fun hcz => by rw [c7] at hcz; cases hcz) (fun hcz => ?_)
          · kernel_rfl
          refine TS.exit ?_
          refine XS.passE ?_
          refine XS.passE ?_
          refine XS.out ?_
          refine XS.then ?_
          refine TS.seq ?_
          refine TS.seq ?_
          have hq : (True) ∧ ((True) ∧ ((True) ∧ ((True) ∧ (True)))) := ⟨trivial, ⟨trivial, ⟨trivial, ⟨trivial, trivial⟩⟩⟩⟩
          refine TS.reg [] ?_ ?_
          · apply prop_of ?_ hq
            kernel_rfl
          refine XS.then ?_
          rcases bif_some h with ⟨c18, h⟩ | ⟨c19, h⟩
          · refine TS.cond (decide (((f_Ends.length : Nat) : Int) > (4 : Int))) ?_ (fun hcz => ?_) (fun hcz => by rw [c18] at hcz; cases hcz)
            · kernel_rfl
            refine TS.seq ?_
            have hq : (True) ∧ (True) := ⟨trivial, trivial⟩
            refine TS.reg [] ?_ ?_
            · apply prop_of ?_ hq
              kernel_rfl
            refine XS.then ?_
            refine TS.ret ?_
            refine XS.passR ?_
            obtain rfl : (2 : Int) = r := Option.some.inj h
            exact XS.fin [] ((True) ∧ (True)) (by kernel_rfl) ⟨trivial, trivial⟩
          · refine TS.cond (decide (((f_Ends.length : Nat) : Int) > (4 : Int))) ?_ (fun hcz => by rw [c19] at hcz; cases hcz) (fun hcz => ?_)
            · kernel_rfl
            refine TS.skip ?_
            refine XS.then ?_
            refine TS.seq ?_
            refine TS.seq ?_
            have hq : (True) ∧ ((True) ∧ ((True) ∧ ((True) ∧ (True)))) := ⟨trivial, ⟨trivial, ⟨trivial, ⟨trivial, trivial⟩⟩⟩⟩
            refine TS.reg [] ?_ ?_
            · apply prop_of ?_ hq
              kernel_rfl
            refine XS.then ?_
            refine TS.block ?_
            refine TS.reLoop [0] (mkMask 117 [1, 2, 62, 63, 64]) (D := Int) (fun d => match d with | x_2 => (mkTs 117 [(1, (.sl (.st (.pair (.int .i64) (.pair .bool (.pair (.int .i64) (.pair (.int .i64) (.int .i64)))))) ahead)), (2, (.ptr 0 [])), (62, (.sl (.st (.pair (.int .i64) (.pair .bool (.pair (.int .i64) (.pair (.int .i64) (.int .i64)))))) f_Ends)), (63, (.int .i64 ((f_Ends.length : Nat) : Int))), (64, (.int .i64 x_2))], [(.box 49 (.st (.cons (.int .i64 f_Class) (.cons (.int .i64 f_Sub) (.cons (.int .i64 f_Proto) (.cons (.int .i64 f_Name) (.cons (.sl .str f_Extra) (.sl (.st (.pair (.int .i64) (.pair .bool (.pair (.int .i64) (.pair (.int .i64) (.int .i64)))))) f_Ends))))))))])) (fun n' d => loopF (F22_l42 n f_Ends ahead) n' d = some r) n (0 : Int) h ?_ (fun d => loopF_zero _ d r) ?_
            · kernel_rfl
            · rintro n42 x_2 h
              replace h : (bif (decide (x_2 < ((f_Ends.length : Nat) : Int))) then (bif inb x_2 f_Ends.length then ((F49 n ((f_Ends.getD x_2.toNat ((0 : Int), (false, ((0 : Int), ((0 : Int), (0 : Int)))))).1) (1 : Int) (15 : Int)).bind fun y_5 => (bif (!y_5) then (F22_j43 n (loopF (F22_l42 n f_Ends ahead) n42) f_Ends ahead x_2 true) else ((F49 n ((f_Ends.getD x_2.toNat ((0 : Int), (false, ((0 : Int), ((0 : Int), (0 : Int)))))).2.2.1) (0 : Int) (3 : Int)).bind fun y_6 => (bif (!y_6) then (F22_j43 n (loopF (F22_l42 n f_Ends ahead) n42) f_Ends ahead x_2 true) else ((F49 n ((f_Ends.getD x_2.toNat ((0 : Int), (false, ((0 : Int), ((0 : Int), (0 : Int)))))).2.2.2.1) (1 : Int) (64 : Int)).bind fun y_7 => (bif (!y_7) then (F22_j43 n (loopF (F22_l42 n f_Ends ahead) n42) f_Ends ahead x_2 true) else ((F49 n ((f_Ends.getD x_2.toNat ((0 : Int), (false, ((0 : Int), ((0 : Int), (0 : Int)))))).2.2.2.2) (0 : Int) (255 : Int)).bind fun y_8 => (F22_j43 n (loopF (F22_l42 n f_Ends ahead) n42) f_Ends ahead x_2 (!y_8))))))))) else none) else (some (0 : Int))) = some r := h
              refine TS.seq ?_
              have hq : (True) ∧ (True) := ⟨trivial, trivial⟩
              refine TS.reg [] ?_ ?_
              · apply prop_of ?_ hq
                kernel_rfl
              refine XS.then ?_
              refine TS.seq ?_
              rcases bif_some h with ⟨c20, h⟩ | ⟨c21, h⟩
              · refine TS.cond (decide (x_2 < ((f_Ends.length : Nat) : Int))) ?_ (fun hcz => ?_) (fun hcz => by rw [c20] at hcz; cases hcz)
                · kernel_rfl
                refine TS.skip ?_
                refine XS.then ?_
                refine TS.seq ?_
                refine TS.block ?_
                refine TS.seq ?_
                obtain ⟨t22, h⟩ := test_some h
                have hq : (True) ∧ ((inR x_2 f_Ends.length) ∧ ((True) ∧ ((True) ∧ ((True) ∧ ((True) ∧ (True)))))) := ⟨trivial, ⟨inb_ok t22, ⟨trivial, ⟨trivial, ⟨trivial, ⟨trivial, trivial⟩⟩⟩⟩⟩⟩
                refine TS.reg [] ?_ ?_
                · apply prop_of ?_ hq
                  kernel_rfl
                refine XS.then ?_
                refine TS.seq ?_
                refine TS.seq ?_
                refine TS.cut (D := Bool) (fun d => match d with | x_3 => (mkTs 117 [(1, (.sl (.st (.pair (.int .i64) (.pair .bool (.pair (.int .i64) (.pair (.int .i64) (.int .i64)))))) ahead)), (2, (.ptr 0 [])), (9, (.int .i64 x_2)), (10, (.ptr 1 [])), (62, (.sl (.st (.pair (.int .i64) (.pair .bool (.pair (.int .i64) (.pair (.int .i64) (.int .i64)))))) f_Ends)), (63, (.int .i64 ((f_Ends.length : Nat) : Int))), (64, (.int .i64 x_2)), (90, (.bool x_3))], [(.box 49 (.st (.cons (.int .i64 f_Class) (.cons (.int .i64 f_Sub) (.cons (.int .i64 f_Proto) (.cons (.int .i64 f_Name) (.cons (.sl .str f_Extra) (.sl (.st (.pair (.int .i64) (.pair .bool (.pair (.int .i64) (.pair (.int .i64) (.int .i64)))))) f_Ends)))))))), (.box 54 (.st (.cons (.int .i64 (f_Ends.getD x_2.toNat ((0 : Int), (false, ((0 : Int), ((0 : Int), (0 : Int)))))).1) (.cons (.bool (f_Ends.getD x_2.toNat ((0 : Int), (false, ((0 : Int), ((0 : Int), (0 : Int)))))).2.1) (.cons (.int .i64 (f_Ends.getD x_2.toNat ((0 : Int), (false, ((0 : Int), ((0 : Int), (0 : Int)))))).2.2.1) (.cons (.int .i64 (f_Ends.getD x_2.toNat ((0 : Int), (false, ((0 : Int), ((0 : Int), (0 : Int)))))).2.2.2.1) (.int .i64 (f_Ends.getD x_2.toNat ((0 : Int), (false, ((0 : Int), ((0 : Int), (0 : Int)))))).2.2.2.2)))))))])) (fun d => F22_j43 n (loopF (F22_l42 n f_Ends ahead) n42) f_Ends ahead x_2 d = some r) ?_ ?_
                · rintro x_3 h
                  replace h : (bif x_3 then (some (1 : Int)) else ((F50 n ahead).bind fun y_4 => (bif subB f_Ends.length none (some x_2) then (bif (decide (y_4.length + (f_Ends.take x_2.toNat).length ≤ 3518437208883)) then (loopF (F22_l44 n (loopF (F22_l42 n f_Ends ahead) n42) f_Ends x_2 y_4) n (0 : Int)) else none) else none))) = some r := h
                  refine XS.then ?_
                  rcases bif_some h with ⟨c23, h⟩ | ⟨c24, h⟩
                  · refine TS.cond x_3 ?_ (fun hcz => ?_) (fun hcz => by rw [c23] at hcz; cases hcz)
                    · kernel_rfl
                    refine TS.seq ?_
                    have hq : (True) ∧ (True) := ⟨trivial, trivial⟩
                    refine TS.reg [] ?_ ?_
                    · apply prop_of ?_ hq
                      kernel_rfl
                    refine XS.then ?_
                    refine TS.ret ?_
                    refine XS.passR ?_
                    refine XS.blockRet ?_
                    refine XS.passR ?_
                    refine XS.passR ?_
                    refine XS.blockRet ?_
                    refine XS.passR ?_
                    obtain rfl : (1 : Int) = r := Option.some.inj h
                    exact XS.fin [] ((True) ∧ (True)) (by kernel_rfl) ⟨trivial, trivial⟩
                  · refine TS.cond x_3 ?_ (fun hcz => by rw [c24] at hcz; cases hcz) (fun hcz => ?_)
                    · kernel_rfl
                    refine TS.skip ?_
                    refine XS.then ?_
                    refine TS.seq ?_
                    obtain ⟨y_4, hx25, h⟩ := bind_some' h
                    obtain ⟨t26, h⟩ := test_some h
                    obtain ⟨t27, h⟩ := test_some h
                    have hq : ((True) ∧ ((PureC Try.prog 50 [(.sl (.st (.pair (.int .i64) (.pair .bool (.pair (.int .i64) (.pair (.int .i64) (.int .i64)))))) ahead)] (.row 0) [(.row 54 (.st (.pair (.int .i64) (.pair .bool (.pair (.int .i64) (.pair (.int .i64) (.int .i64)))))) y_4)]) ∧ ((True) ∧ ((True) ∧ ((True) ∧ ((subC f_Ends.length none (some x_2)) ∧ (True))))))) ∧ ((y_4.length + (f_Ends.take x_2.toNat).length ≤ 3518437208883) ∧ ((True) ∧ (True))) := ⟨⟨trivial, ⟨F50_ok n ahead y_4 hx25, ⟨trivial, ⟨trivial, ⟨trivial, ⟨subB_ok t26, trivial⟩⟩⟩⟩⟩⟩, ⟨of_decide_eq_true t27, ⟨trivial, trivial⟩⟩⟩
                    refine TS.drawF 8 [0, 1, 2, 3, 4, 5, 6, 7] 6 [] [.none, (.call (.row 0) [(.row 54 (.st (.pair (.int .i64) (.pair .bool (.pair (.int .i64) (.pair (.int .i64) (.int .i64)))))) y_4)])] (by kernel_rfl) (by kernel_rfl) (by kernel_rfl) ?_ ?_
                    · apply prop_of ?_ hq
                      kernel_rfl
                    refine XS.then ?_
                    refine TS.block ?_
                    refine TS.reLoop [0, 1, 3] (mkMask 117 [1, 2, 10, 62, 63, 64, 97, 98, 99]) (D := Int) (fun d => match d with | x_4 => (mkTs 117 [(1, (.sl (.st (.pair (.int .i64) (.pair .bool (.pair (.int .i64) (.pair (.int .i64) (.int .i64)))))) ahead)), (2, (.ptr 0 [])), (10, (.ptr 1 [])), (62, (.sl (.st (.pair (.int .i64) (.pair .bool (.pair (.int .i64) (.pair (.int .i64) (.int .i64)))))) f_Ends)), (63, (.int .i64 ((f_Ends.length : Nat) : Int))), (64, (.int .i64 x_2)), (97, (.row 2)), (98, (.int .i64 (((y_4 ++ (f_Ends.take x_2.toNat)).length : Nat) : Int))), (99, (.int .i64 x_4))], [(.box 49 (.st (.cons (.int .i64 f_Class) (.cons (.int .i64 f_Sub) (.cons (.int .i64 f_Proto) (.cons (.int .i64 f_Name) (.cons (.sl .str f_Extra) (.sl (.st (.pair (.int .i64) (.pair .bool (.pair (.int .i64) (.pair (.int .i64) (.int .i64)))))) f_Ends)))))))), (.box 54 (.st (.cons (.int .i64 (f_Ends.getD x_2.toNat ((0 : Int), (false, ((0 : Int), ((0 : Int), (0 : Int)))))).1) (.cons (.bool (f_Ends.getD x_2.toNat ((0 : Int), (false, ((0 : Int), ((0 : Int), (0 : Int)))))).2.1) (.cons (.int .i64 (f_Ends.getD x_2.toNat ((0 : Int), (false, ((0 : Int), ((0 : Int), (0 : Int)))))).2.2.1) (.cons (.int .i64 (f_Ends.getD x_2.toNat ((0 : Int), (false, ((0 : Int), ((0 : Int), (0 : Int)))))).2.2.2.1) (.int .i64 (f_Ends.getD x_2.toNat ((0 : Int), (false, ((0 : Int), ((0 : Int), (0 : Int)))))).2.2.2.2))))))), (.row 54 (.st (.pair (.int .i64) (.pair .bool (.pair (.int .i64) (.pair (.int .i64) (.int .i64)))))) (y_4 ++ (f_Ends.take x_2.toNat)))])) (fun n' d => loopF (F22_l44 n (loopF (F22_l42 n f_Ends ahead) n42) f_Ends x_2 y_4) n' d = some r) n (0 : Int) h ?_ (fun d => loopF_zero _ d r) ?_
                    · kernel_rfl
                    · rintro n44 x_4 h
                      replace h : (bif (decide (x_4 < (((y_4 ++ (f_Ends.take x_2.toNat)).length : Nat) : Int))) then (bif inb x_4 ((y_4 ++ (f_Ends.take x_2.toNat)).length) then (bif (((y_4 ++ (f_Ends.take x_2.toNat)).getD x_4.toNat ((0 : Int), (false, ((0 : Int), ((0 : Int), (0 : Int)))))).1 == (f_Ends.getD x_2.toNat ((0 : Int), (false, ((0 : Int), ((0 : Int), (0 : Int)))))).1) then (bif (((y_4 ++ (f_Ends.take x_2.toNat)).getD x_4.toNat ((0 : Int), (false, ((0 : Int), ((0 : Int), (0 : Int)))))).2.1 == (f_Ends.getD x_2.toNat ((0 : Int), (false, ((0 : Int), ((0 : Int), (0 : Int)))))).2.1) then (some (13 : Int)) else ((loopF (F22_l44 n (loopF (F22_l42 n f_Ends ahead) n42) f_Ends x_2 y_4) n44) (IntKind.wrap .i64 (x_4 + (1 : Int))))) else ((loopF (F22_l44 n (loopF (F22_l42 n f_Ends ahead) n42) f_Ends x_2 y_4) n44) (IntKind.wrap .i64 (x_4 + (1 : Int))))) else none) else ((loopF (F22_l42 n f_Ends ahead) n42) (IntKind.wrap .i64 (x_2 + (1 : Int))))) = some r := h
                      refine TS.seq ?_
                      have hq : (True) ∧ (True) := ⟨trivial, trivial⟩
                      refine TS.reg [] ?_ ?_
                      · apply prop_of ?_ hq
                        kernel_rfl
                      refine XS.then ?_
                      refine TS.seq ?_
                      rcases bif_some h with ⟨c28, h⟩ | ⟨c29, h⟩
                      · refine TS.cond (decide (x_4 < (((y_4 ++ (f_Ends.take x_2.toNat)).length : Nat) : Int))) ?_ (fun hcz => ?_) (fun hcz => by rw [c28] at hcz; cases hcz)
                        · kernel_rfl
                        refine TS.skip ?_
                        refine XS.then ?_
                        refine TS.seq ?_
                        refine TS.block ?_
                        refine TS.seq ?_
                        obtain ⟨t30, h⟩ := test_some h
                        have hq : (inR x_4 ((y_4 ++ (f_Ends.take x_2.toNat)).length)) ∧ ((x_4.toNat < (y_4 ++ (f_Ends.take x_2.toNat)).length ∧ (True)) ∧ ((True) ∧ ((True) ∧ (True)))) := ⟨inb_ok t30, ⟨⟨inR_lt (inb_ok t30), trivial⟩, ⟨trivial, ⟨trivial, trivial⟩⟩⟩⟩
                        refine TS.reg [] ?_ ?_
                        · apply prop_of ?_ hq
                          kernel_rfl
                        refine XS.then ?_
                        refine TS.seq ?_
                        rcases bif_some h with ⟨c31, h⟩ | ⟨c32, h⟩
                        · have hq : (True) ∧ ((True) ∧ ((True) ∧ ((True) ∧ ((True) ∧ (((True) ∧ (((y_4 ++ (f_Ends.take x_2.toNat)).getD x_4.toNat ((0 : Int), (false, ((0 : Int), ((0 : Int), (0 : Int)))))).1 == (f_Ends.getD x_2.toNat ((0 : Int), (false, ((0 : Int), ((0 : Int), (0 : Int)))))).1) = true) ∧ ((True) ∧ ((True) ∧ ((True) ∧ ((True) ∧ ((True) ∧ ((True) ∧ (True)))))))))))) := ⟨trivial, ⟨trivial, ⟨trivial, ⟨trivial, ⟨trivial, ⟨⟨trivial, c31⟩, ⟨trivial, ⟨trivial, ⟨trivial, ⟨trivial, ⟨trivial, ⟨trivial, trivial⟩⟩⟩⟩⟩⟩⟩⟩⟩⟩⟩⟩
                          refine TS.reg [.none, .none, .none, .none, .none, .dec true] ?_ ?_
                          · apply prop_of ?_ hq
                            kernel_rfl
                          refine XS.then ?_
                          rcases bif_some h with ⟨c33, h⟩ | ⟨c34, h⟩
                          · refine TS.cond (((y_4 ++ (f_Ends.take x_2.toNat)).getD x_4.toNat ((0 : Int), (false, ((0 : Int), ((0 : Int), (0 : Int)))))).2.1 == (f_Ends.getD x_2.toNat ((0 : Int), (false, ((0 : Int), ((0 : Int), (0 : Int)))))).2.1) ?_ (fun hcz => ?_) (fun hcz => by rw [c33] at hcz; cases hcz)
                            · kernel_rfl
                            refine TS.seq ?_
                            have hq : (True) ∧ (True) := ⟨trivial, trivial⟩
                            refine TS.reg [] ?_ ?_
                            · apply prop_of ?_ hq
                              kernel_rfl
                            refine XS.then ?_
                            refine TS.ret ?_
                            refine XS.blockRet ?_
                            refine XS.passR ?_
                            refine XS.passR ?_
                            refine XS.blockRet ?_
                            refine XS.blockRet ?_
                            refine XS.passR ?_
                            refine XS.passR ?_
                            refine XS.blockRet ?_
                            refine XS.passR ?_
                            obtain rfl : (13 : Int) = r := Option.some.inj h
                            exact XS.fin [] ((True) ∧ (True)) (by kernel_rfl) ⟨trivial, trivial⟩
                          · refine TS.cond (((y_4 ++ (f_Ends.take x_2.toNat)).getD x_4.toNat ((0 : Int), (false, ((0 : Int), ((0 : Int), (0 : Int)))))).2.1 == (f_Ends.getD x_2.toNat ((0 : Int), (false, ((0 : Int), ((0 : Int), (0 : Int)))))).2.1) ?_ (fun hcz => by rw [c34] at hcz; cases hcz) (fun hcz => ?_)
                            · kernel_rfl
                            refine TS.skip ?_
                            refine XS.blockEnd ?_
                            refine XS.then ?_
                            have hq : (True) ∧ ((True) ∧ (True)) := ⟨trivial, ⟨trivial, trivial⟩⟩
                            refine TS.reg [] ?_ ?_
                            · apply prop_of ?_ hq
                              kernel_rfl
                            refine XS.reAny [0, 1, 2] (mkMask 117 [1, 2, 10, 62, 63, 64, 97, 98, 99]) (IntKind.wrap .i64 (x_4 + (1 : Int))) h ?_
                            kernel_rfl
                        · have hq : (True) ∧ ((True) ∧ ((True) ∧ ((True) ∧ ((True) ∧ (((True) ∧ (((y_4 ++ (f_Ends.take x_2.toNat)).getD x_4.toNat ((0 : Int), (false, ((0 : Int), ((0 : Int), (0 : Int)))))).1 == (f_Ends.getD x_2.toNat ((0 : Int), (false, ((0 : Int), ((0 : Int), (0 : Int)))))).1) = false) ∧ ((True) ∧ (True))))))) := ⟨trivial, ⟨trivial, ⟨trivial, ⟨trivial, ⟨trivial, ⟨⟨trivial, c32⟩, ⟨trivial, trivial⟩⟩⟩⟩⟩⟩⟩
                          refine TS.reg [.none, .none, .none, .none, .none, .dec false] ?_ ?_
                          · apply prop_of ?_ hq
                            kernel_rfl
                          refine XS.then ?_
                          refine TS.no ?_ ?_
                          · kernel_rfl
                          refine TS.skip ?_
                          refine XS.blockEnd ?_
                          refine XS.then ?_
                          have hq : (True) ∧ ((True) ∧ (True)) := ⟨trivial, ⟨trivial, trivial⟩⟩
                          refine TS.reg [] ?_ ?_
                          · apply prop_of ?_ hq
                            kernel_rfl
                          refine XS.reAny [0, 1, 2] (mkMask 117 [1, 2, 10, 62, 63, 64, 97, 98, 99]) (IntKind.wrap .i64 (x_4 + (1 : Int))) h ?_
                          kernel_rfl
                      · refine TS.cond (decide (x_4 < (((y_4 ++ (f_Ends.take x_2.toNat)).length : Nat) : Int))) ?_ (fun hcz => by rw [c29] at hcz; cases hcz) (fun hcz => ?_)
                        · kernel_rfl
                        refine TS.exit ?_
                        refine XS.passE ?_
                        refine XS.passE ?_
                        refine XS.out ?_
                        refine XS.blockEnd ?_
                        refine XS.then ?_
                        have hq : (True) ∧ ((True) ∧ (True)) := ⟨trivial, ⟨trivial, trivial⟩⟩
                        refine TS.reg [] ?_ ?_
                        · apply prop_of ?_ hq
                          kernel_rfl
                        refine XS.reAny [0] (mkMask 117 [1, 2, 62, 63, 64]) (IntKind.wrap .i64 (x_2 + (1 : Int))) h ?_
                        kernel_rfl
                · obtain ⟨y_5, hx35, h⟩ := bind_some' h
                  rcases bif_some h with ⟨c36, h⟩ | ⟨c37, h⟩
                  · have hq : (True) ∧ ((True) ∧ ((PureC Try.prog 49 [(.int .i64 (f_Ends.getD x_2.toNat ((0 : Int), (false, ((0 : Int), ((0 : Int), (0 : Int)))))).1), (.int .i64 (1 : Int)), (.int .i64 (15 : Int))] (.bool y_5) []) ∧ ((True) ∧ (((True) ∧ (!y_5) = true) ∧ ((True) ∧ ((True) ∧ ((True) ∧ ((True) ∧ ((True) ∧ (True)))))))))) := ⟨trivial, ⟨trivial, ⟨F49_ok n ((f_Ends.getD x_2.toNat ((0 : Int), (false, ((0 : Int), ((0 : Int), (0 : Int)))))).1) (1 : Int) (15 : Int) y_5 hx35, ⟨trivial, ⟨⟨trivial, c36⟩, ⟨trivial, ⟨trivial, ⟨trivial, ⟨trivial, ⟨trivial, trivial⟩⟩⟩⟩⟩⟩⟩⟩⟩⟩
                    refine TS.reg [.none, .none, (.call (.bool y_5) []), .none, .dec true] ?_ ?_
                    · apply prop_of ?_ hq
                      kernel_rfl
                    refine XS.reAny [0, 1] (mkMask 117 [1, 2, 9, 10, 62, 63, 64, 90]) true h ?_
                    kernel_rfl
                  · obtain ⟨y_6, hx38, h⟩ := bind_some' h
                    rcases bif_some h with ⟨c39, h⟩ | ⟨c40, h⟩
                    · have hq : (True) ∧ ((True) ∧ ((PureC Try.prog 49 [(.int .i64 (f_Ends.getD x_2.toNat ((0 : Int), (false, ((0 : Int), ((0 : Int), (0 : Int)))))).1), (.int .i64 (1 : Int)), (.int .i64 (15 : Int))] (.bool y_5) []) ∧ ((True) ∧ (((True) ∧ (!y_5) = false) ∧ ((True) ∧ ((True) ∧ ((PureC Try.prog 49 [(.int .i64 (f_Ends.getD x_2.toNat ((0 : Int), (false, ((0 : Int), ((0 : Int), (0 : Int)))))).2.2.1), (.int .i64 (0 : Int)), (.int .i64 (3 : Int))] (.bool y_6) []) ∧ ((True) ∧ ((True) ∧ (((True) ∧ (!y_6) = true) ∧ ((True) ∧ ((True) ∧ ((True) ∧ (True)))))))))))))) := ⟨trivial, ⟨trivial, ⟨F49_ok n ((f_Ends.getD x_2.toNat ((0 : Int), (false, ((0 : Int), ((0 : Int), (0 : Int)))))).1) (1 : Int) (15 : Int) y_5 hx35, ⟨trivial, ⟨⟨trivial, c37⟩, ⟨trivial, ⟨trivial, ⟨F49_ok n ((f_Ends.getD x_2.toNat ((0 : Int), (false, ((0 : Int), ((0 : Int), (0 : Int)))))).2.2.1) (0 : Int) (3 : Int) y_6 hx38, ⟨trivial, ⟨trivial, ⟨⟨trivial, c39⟩, ⟨trivial, ⟨trivial, ⟨trivial, trivial⟩⟩⟩⟩⟩⟩⟩⟩⟩⟩⟩⟩⟩⟩
                      refine TS.reg [.none, .none, (.call (.bool y_5) []), .none, .dec false, .none, .none, (.call (.bool y_6) []), .none, .none, .dec true] ?_ ?_
                      · apply prop_of ?_ hq
                        kernel_rfl
                      refine XS.reAny [0, 1] (mkMask 117 [1, 2, 9, 10, 62, 63, 64, 90]) true h ?_
                      kernel_rfl
                    · obtain ⟨y_7, hx41, h⟩ := bind_some' h
                      rcases bif_some h with ⟨c42, h⟩ | ⟨c43, h⟩
                      · have hq : (True) ∧ ((True) ∧ ((PureC Try.prog 49 [(.int .i64 (f_Ends.getD x_2.toNat ((0 : Int), (false, ((0 : Int), ((0 : Int), (0 : Int)))))).1), (.int .i64 (1 : Int)), (.int .i64 (15 : Int))] (.bool y_5) []) ∧ ((True) ∧ (((True) ∧ (!y_5) = false) ∧ ((True) ∧ ((True) ∧ ((PureC Try.prog 49 [(.int .i64 (f_Ends.getD x_2.toNat ((0 : Int), (false, ((0 : Int), ((0 : Int), (0 : Int)))))).2.2.1), (.int .i64 (0 : Int)), (.int .i64 (3 : Int))] (.bool y_6) []) ∧ ((True) ∧ ((True) ∧ (((True) ∧ (!y_6) = false) ∧ ((True) ∧ ((True) ∧ ((PureC Try.prog 49 [(.int .i64 (f_Ends.getD x_2.toNat ((0 : Int), (false, ((0 : Int), ((0 : Int), (0 : Int)))))).2.2.2.1), (.int .i64 (1 : Int)), (.int .i64 (64 : Int))] (.bool y_7) []) ∧ ((True) ∧ ((True) ∧ (((True) ∧ (!y_7) = true) ∧ ((True) ∧ (True)))))))))))))))))) := ⟨trivial, ⟨trivial, ⟨F49_ok n ((f_Ends.getD x_2.toNat ((0 : Int), (false, ((0 : Int), ((0 : Int), (0 : Int)))))).1) (1 : Int) (15 : Int) y_5 hx35, ⟨trivial, ⟨⟨trivial, c37⟩, ⟨trivial, ⟨trivial, ⟨F49_ok n ((f_Ends.getD x_2.toNat ((0 : Int), (false, ((0 : Int), ((0 : Int), (0 : Int)))))).2.2.1) (0 : Int) (3 : Int) y_6 hx38, ⟨trivial, ⟨trivial, ⟨⟨trivial, c40⟩, ⟨trivial, ⟨trivial, ⟨F49_ok n ((f_Ends.getD x_2.toNat ((0 : Int), (false, ((0 : Int), ((0 : Int), (0 : Int)))))).2.2.2.1) (1 : Int) (64 : Int) y_7 hx41, ⟨trivial, ⟨trivial, ⟨⟨trivial, c42⟩, ⟨trivial, trivial⟩⟩⟩⟩⟩⟩⟩⟩⟩⟩⟩⟩⟩⟩⟩⟩⟩⟩
                        refine TS.reg [.none, .none, (.call (.bool y_5) []), .none, .dec false, .none, .none, (.call (.bool y_6) []), .none, .none, .dec false, .none, .none, (.call (.bool y_7) []), .none, .none, .dec true] ?_ ?_
                        · apply prop_of ?_ hq
                          kernel_rfl
                        refine XS.reAny [0, 1] (mkMask 117 [1, 2, 9, 10, 62, 63, 64, 90]) true h ?_
                        kernel_rfl
                      · obtain ⟨y_8, hx44, h⟩ := bind_some' h
                        have hq : (True) ∧ ((True) ∧ ((PureC Try.prog 49 [(.int .i64 (f_Ends.getD x_2.toNat ((0 : Int), (false, ((0 : Int), ((0 : Int), (0 : Int)))))).1), (.int .i64 (1 : Int)), (.int .i64 (15 : Int))] (.bool y_5) []) ∧ ((True) ∧ (((True) ∧ (!y_5) = false) ∧ ((True) ∧ ((True) ∧ ((PureC Try.prog 49 [(.int .i64 (f_Ends.getD x_2.toNat ((0 : Int), (false, ((0 : Int), ((0 : Int), (0 : Int)))))).2.2.1), (.int .i64 (0 : Int)), (.int .i64 (3 : Int))] (.bool y_6) []) ∧ ((True) ∧ ((True) ∧ (((True) ∧ (!y_6) = false) ∧ ((True) ∧ ((True) ∧ ((PureC Try.prog 49 [(.int .i64 (f_Ends.getD x_2.toNat ((0 : Int), (false, ((0 : Int), ((0 : Int), (0 : Int)))))).2.2.2.1), (.int .i64 (1 : Int)), (.int .i64 (64 : Int))] (.bool y_7) []) ∧ ((True) ∧ ((True) ∧ (((True) ∧ (!y_7) = false) ∧ ((True) ∧ ((True) ∧ ((PureC Try.prog 49 [(.int .i64 (f_Ends.getD x_2.toNat ((0 : Int), (false, ((0 : Int), ((0 : Int), (0 : Int)))))).2.2.2.2), (.int .i64 (0 : Int)), (.int .i64 (255 : Int))] (.bool y_8) []) ∧ ((True) ∧ ((True) ∧ (True)))))))))))))))))))))) := ⟨trivial, ⟨trivial, ⟨F49_ok n ((f_Ends.getD x_2.toNat ((0 : Int), (false, ((0 : Int), ((0 : Int), (0 : Int)))))).1) (1 : Int) (15 : Int) y_5 hx35, ⟨trivial, ⟨⟨trivial, c37⟩, ⟨trivial, ⟨trivial, ⟨F49_ok n ((f_Ends.getD x_2.toNat ((0 : Int), (false, ((0 : Int), ((0 : Int), (0 : Int)))))).2.2.1) (0 : Int) (3 : Int) y_6 hx38, ⟨trivial, ⟨trivial, ⟨⟨trivial, c40⟩, ⟨trivial, ⟨trivial, ⟨F49_ok n ((f_Ends.getD x_2.toNat ((0 : Int), (false, ((0 : Int), ((0 : Int), (0 : Int)))))).2.2.2.1) (1 : Int) (64 : Int) y_7 hx41, ⟨trivial, ⟨trivial, ⟨⟨trivial, c43⟩, ⟨trivial, ⟨trivial, ⟨F49_ok n ((f_Ends.getD x_2.toNat ((0 : Int), (false, ((0 : Int), ((0 : Int), (0 : Int)))))).2.2.2.2) (0 : Int) (255 : Int) y_8 hx44, ⟨trivial, ⟨trivial, trivial⟩⟩⟩⟩⟩⟩⟩⟩⟩⟩⟩⟩⟩⟩⟩⟩⟩⟩⟩⟩⟩⟩
                        refine TS.reg [.none, .none, (.call (.bool y_5) []), .none, .dec false, .none, .none, (.call (.bool y_6) []), .none, .none, .dec false, .none, .none, (.call (.bool y_7) []), .none, .none, .dec false, .none, .none, (.call (.bool y_8) [])] ?_ ?_
                        · apply prop_of ?_ hq
                          kernel_rfl
                        refine XS.reAny [0, 1] (mkMask 117 [1, 2, 9, 10, 62, 63, 64, 90]) (!y_8) h ?_
                        kernel_rfl
              · refine TS.cond (decide (x_2 < ((f_Ends.length : Nat) : Int))) ?_ (fun hcz => by rw [c21] at hcz; cases hcz) (fun hcz => ?_)
                · kernel_rfl
                refine TS.exit ?_
                refine XS.passE ?_
                refine XS.passE ?_
                refine XS.out ?_
                refine XS.then ?_
                refine TS.seq ?_
                have hq : (True) ∧ (True) := ⟨trivial, trivial⟩
                refine TS.reg [] ?_ ?_
                · apply prop_of ?_ hq
                  kernel_rfl
                refine XS.then ?_
                refine TS.ret ?_
                obtain rfl : (0 : Int) = r := Option.some.inj h
                exact XS.fin [] ((True) ∧ (True)) (by kernel_rfl) ⟨trivial, trivial⟩

/-! plugtree/plugref.ConfigText -/
def F8_j26 (n : Nat) (k8_25 : ((List UInt8) × Int) → Option ((List UInt8) × Int)) (c_Faces : List (Int × Int × Int × Int × (List (List UInt8)) × List (Int × Bool × Int × Int × Int))) (x : Int) (rest_2 : List UInt8) (x_2 : Int) : Int → Option ((List UInt8) × Int)
  | a => ((F21 n ([(7 : Int), (5 : Int), a, (((c_Faces.getD x.toNat ((0 : Int), ((0 : Int), ((0 : Int), ((0 : Int), (([] : List (List UInt8)), ([] : List (Int × Bool × Int × Int × Int)))))))).2.2.2.2.2).getD x_2.toNat ((0 : Int), (false, ((0 : Int), ((0 : Int), (0 : Int)))))).2.2.1, (((c_Faces.getD x.toNat ((0 : Int), ((0 : Int), ((0 : Int), ((0 : Int), (([] : List (List UInt8)), ([] : List (Int × Bool × Int × Int × Int)))))))).2.2.2.2.2).getD x_2.toNat ((0 : Int), (false, ((0 : Int), ((0 : Int), (0 : Int)))))).2.2.2.1, (0 : Int), (((c_Faces.getD x.toNat ((0 : Int), ((0 : Int), ((0 : Int), ((0 : Int), (([] : List (List UInt8)), ([] : List (Int × Bool × Int × Int × Int)))))))).2.2.2.2.2).getD x_2.toNat ((0 : Int), (false, ((0 : Int), ((0 : Int), (0 : Int)))))).2.2.2.2])).bind fun y_7 => (bif (decide (rest_2.length + y_7.1.length ≤ 9223372036854775807)) then (k8_25 ((rest_2 ++ y_7.1), (IntKind.wrap .i64 (x_2 + (1 : Int))))) else none))
def F8_l25 (n : Nat) (k8_22 : ((List UInt8) × Int × (List (Int × Bool × Int × Int × Int))) → Option ((List UInt8) × Int)) (c_Faces : List (Int × Int × Int × Int × (List (List UInt8)) × List (Int × Bool × Int × Int × Int))) (x : Int) (m1 : List (Int × Bool × Int × Int × Int)) (k8_25 : ((List UInt8) × Int) → Option ((List UInt8) × Int)) : ((List UInt8) × Int) → Option ((List UInt8) × Int)
  | (rest_2, x_2) => (bif (decide (x_2 < ((((c_Faces.getD x.toNat ((0 : Int), ((0 : Int), ((0 : Int), ((0 : Int), (([] : List (List UInt8)), ([] : List (Int × Bool × Int × Int × Int)))))))).2.2.2.2.2).length : Nat) : Int))) then (bif inb x_2 (((c_Faces.getD x.toNat ((0 : Int), ((0 : Int), ((0 : Int), ((0 : Int), (([] : List (List UInt8)), ([] : List (Int × Bool × Int × Int × Int)))))))).2.2.2.2.2).length) then (bif (((c_Faces.getD x.toNat ((0 : Int), ((0 : Int), ((0 : Int), ((0 : Int), (([] : List (List UInt8)), ([] : List (Int × Bool × Int × Int × Int)))))))).2.2.2.2.2).getD x_2.toNat ((0 : Int), (false, ((0 : Int), ((0 : Int), (0 : Int)))))).2.1 then (F8_j26 n k8_25 c_Faces x rest_2 x_2 (IntKind.wrap .i64 ((((c_Faces.getD x.toNat ((0 : Int), ((0 : Int), ((0 : Int), ((0 : Int), (([] : List (List UInt8)), ([] : List (Int × Bool × Int × Int × Int)))))))).2.2.2.2.2).getD x_2.toNat ((0 : Int), (false, ((0 : Int), ((0 : Int), (0 : Int)))))).1 + (128 : Int)))) else (F8_j26 n k8_25 c_Faces x rest_2 x_2 (((c_Faces.getD x.toNat ((0 : Int), ((0 : Int), ((0 : Int), ((0 : Int), (([] : List (List UInt8)), ([] : List (Int × Bool × Int × Int × Int)))))))).2.2.2.2.2).getD x_2.toNat ((0 : Int), (false, ((0 : Int), ((0 : Int), (0 : Int)))))).1)) else none) else (k8_22 (rest_2, (IntKind.wrap .i64 (x + (1 : Int))), (m1 ++ (c_Faces.getD x.toNat ((0 : Int), ((0 : Int), ((0 : Int), ((0 : Int), (([] : List (List UInt8)), ([] : List (Int × Bool × Int × Int × Int)))))))).2.2.2.2.2))))
def F8_l22 (n : Nat) (c_Faces : List (Int × Int × Int × Int × (List (List UInt8)) × List (Int × Bool × Int × Int × Int))) (y_3 : (List UInt8) × Bool) (k8_22 : ((List UInt8) × Int × (List (Int × Bool × Int × Int × Int))) → Option ((List UInt8) × Int)) : ((List UInt8) × Int × (List (Int × Bool × Int × Int × Int))) → Option ((List UInt8) × Int)
  | (rest, x, m1) => (bif (decide (x < ((c_Faces.length : Nat) : Int))) then (bif inb x c_Faces.length then ((F22 n ((c_Faces.getD x.toNat ((0 : Int), ((0 : Int), ((0 : Int), ((0 : Int), (([] : List (List UInt8)), ([] : List (Int × Bool × Int × Int × Int)))))))).1) ((c_Faces.getD x.toNat ((0 : Int), ((0 : Int), ((0 : Int), ((0 : Int), (([] : List (List UInt8)), ([] : List (Int × Bool × Int × Int × Int)))))))).2.1) ((c_Faces.getD x.toNat ((0 : Int), ((0 : Int), ((0 : Int), ((0 : Int), (([] : List (List UInt8)), ([] : List (Int × Bool × Int × Int × Int)))))))).2.2.1) ((c_Faces.getD x.toNat ((0 : Int), ((0 : Int), ((0 : Int), ((0 : Int), (([] : List (List UInt8)), ([] : List (Int × Bool × Int × Int × Int)))))))).2.2.2.1) ((c_Faces.getD x.toNat ((0 : Int), ((0 : Int), ((0 : Int), ((0 : Int), (([] : List (List UInt8)), ([] : List (Int × Bool × Int × Int × Int)))))))).2.2.2.2.1) ((c_Faces.getD x.toNat ((0 : Int), ((0 : Int), ((0 : Int), ((0 : Int), (([] : List (List UInt8)), ([] : List (Int × Bool × Int × Int × Int)))))))).2.2.2.2.2) m1).bind fun y_4 => (bif (y_4 != (0 : Int)) then (some (([] : List UInt8), y_4)) else (bif (decide (m1.length + ((c_Faces.getD x.toNat ((0 : Int), ((0 : Int), ((0 : Int), ((0 : Int), (([] : List (List UInt8)), ([] : List (Int × Bool × Int × Int × Int)))))))).2.2.2.2.2).length ≤ 3518437208883)) then ((F21 n ([(9 : Int), (4 : Int), x, (0 : Int), ((((c_Faces.getD x.toNat ((0 : Int), ((0 : Int), ((0 : Int), ((0 : Int), (([] : List (List UInt8)), ([] : List (Int × Bool × Int × Int × Int)))))))).2.2.2.2.2).length : Nat) : Int), (c_Faces.getD x.toNat ((0 : Int), ((0 : Int), ((0 : Int), ((0 : Int), (([] : List (List UInt8)), ([] : List (Int × Bool × Int × Int × Int)))))))).1, (c_Faces.getD x.toNat ((0 : Int), ((0 : Int), ((0 : Int), ((0 : Int), (([] : List (List UInt8)), ([] : List (Int × Bool × Int × Int × Int)))))))).2.1, (c_Faces.getD x.toNat ((0 : Int), ((0 : Int), ((0 : Int), ((0 : Int), (([] : List (List UInt8)), ([] : List (Int × Bool × Int × Int × Int)))))))).2.2.1, (c_Faces.getD x.toNat ((0 : Int), ((0 : Int), ((0 : Int), ((0 : Int), (([] : List (List UInt8)), ([] : List (Int × Bool × Int × Int × Int)))))))).2.2.2.1])).bind fun y_5 => ((F19 n ((c_Faces.getD x.toNat ((0 : Int), ((0 : Int), ((0 : Int), ((0 : Int), (([] : List (List UInt8)), ([] : List (Int × Bool × Int × Int × Int)))))))).2.2.2.2.1) ([] : List UInt8)).bind fun y_6 => (bif (decide (y_5.1.length + y_6.length ≤ 9223372036854775807)) then (bif (decide (rest.length + (y_5.1 ++ y_6).length ≤ 9223372036854775807)) then (loopF (F8_l25 n k8_22 c_Faces x m1) n ((rest ++ (y_5.1 ++ y_6)), (0 : Int))) else none) else none))) else none))) else none) else ((F21 n [((c_Faces.length : Nat) : Int)]).bind fun y_8 => ((F23 n (IntKind.wrap .i64 ((9 : Int) + ((rest.length : Nat) : Int)))).bind fun y_9 => (bif (decide (([9, 2] : List UInt8).length + y_9.length ≤ 9223372036854775807)) then (bif (decide ((([9, 2] : List UInt8) ++ y_9).length + y_8.1.length ≤ 9223372036854775807)) then (bif (decide (((([9, 2] : List UInt8) ++ y_9) ++ y_8.1).length + y_3.1.length ≤ 9223372036854775807)) then (bif (decide ((((([9, 2] : List UInt8) ++ y_9) ++ y_8.1) ++ y_3.1).length + rest.length ≤ 9223372036854775807)) then (some (((((([9, 2] : List UInt8) ++ y_9) ++ y_8.1) ++ y_3.1) ++ rest), (0 : Int))) else none) else none) else none) else none))))
def F8 (n : Nat) (c_Value : Int) (c_Name : Int) (c_Attr : Int) (c_Power : Int) (c_Faces : List (Int × Int × Int × Int × (List (List UInt8)) × List (Int × Bool × Int × Int × Int))) : Option ((List UInt8) × Int) := ((F21 n [c_Value, c_Name, c_Attr, c_Power]).bind fun y_3 => (bif (!y_3.2) then (some (([] : List UInt8), (1 : Int))) else (bif (c_Value == (0 : Int)) then (some (([] : List UInt8), (1 : Int))) else (bif (decide (((c_Faces.length : Nat) : Int) > (4 : Int))) then (some (([] : List UInt8), (2 : Int))) else (loopF (F8_l22 n c_Faces y_3) n (([] : List UInt8), (0 : Int), ([] : List (Int × Bool × Int × Int × Int))))))))
theorem F8_ok (n : Nat) (c_Value : Int) (c_Name : Int) (c_Attr : Int) (c_Power : Int) (c_Faces : List (Int × Int × Int × Int × (List (List UInt8)) × List (Int × Bool × Int × Int × Int))) (r : (List UInt8) × Int) (h : F8 n c_Value c_Name c_Attr c_Power c_Faces = some r) : PureC Try.prog 8 [(.st (.cons (.int .i64 c_Value) (.cons (.int .i64 c_Name) (.cons (.int .i64 c_Attr) (.cons (.int .i64 c_Power) (.sl (.st (.pair (.int .i64) (.pair (.int .i64) (.pair (.int .i64) (.pair (.int .i64) (.pair (.sl .str) (.sl (.st (.pair (.int .i64) (.pair .bool (.pair (.int .i64) (.pair (.int .i64) (.int .i64))))))))))))) c_Faces))))))] (.tup (.cons (.str r.1) (.cons (.int .i64 r.2) .nil))) [] := by
  refine PureC.mkS Try.func8 rfl rfl ?_
  intro w0 fz0 hfz
  replace h : ((F21 n [c_Value, c_Name, c_Attr, c_Power]).bind fun y_3 => (bif (!y_3.2) then (some (([] : List UInt8), (1 : Int))) else (bif (c_Value == (0 : Int)) then (some (([] : List UInt8), (1 : Int))) else (bif (decide (((c_Faces.length : Nat) : Int) > (4 : Int))) then (some (([] : List UInt8), (2 : Int))) else (loopF (F8_l22 n c_Faces y_3) n (([] : List UInt8), (0 : Int), ([] : List (Int × Bool × Int × Int × Int)))))))) = some r := h
  refine TS.seq ?_
  have hq : (True) ∧ ((True) ∧ ((True) ∧ (True))) := ⟨trivial, ⟨trivial, ⟨trivial, trivial⟩⟩⟩
  refine TS.reg [] ?_ ?_
  · apply prop_of ?_ hq
    kernel_rfl
  refine XS.then ?_
  refine TS.seq ?_
  obtain ⟨y_3, hx1, h⟩ := bind_some' h
  have hq : (True) ∧ ((True) ∧ ((True) ∧ ((True) ∧ ((True) ∧ ((True) ∧ ((True) ∧ ((True) ∧ (((0 < 4 ∧ True) ∧ ((1 < 4 ∧ True) ∧ ((2 < 4 ∧ True) ∧ ((3 < 4 ∧ True) ∧ (True))))) ∧ ((((True) ∧ (True)) ∧ PureC Try.prog 21 [(.sl (.int .i64) [c_Value, c_Name, c_Attr, c_Power])] (.tup (.cons (.str y_3.1) (.cons (.bool y_3.2) .nil))) []) ∧ ((True) ∧ ((True) ∧ ((True) ∧ ((True) ∧ ((True) ∧ (True))))))))))))))) := ⟨trivial, ⟨trivial, ⟨trivial, ⟨trivial, ⟨trivial, ⟨trivial, ⟨trivial, ⟨trivial, ⟨⟨⟨by decide, trivial⟩, ⟨⟨by decide, trivial⟩, ⟨⟨by decide, trivial⟩, ⟨⟨by decide, trivial⟩, trivial⟩⟩⟩⟩, ⟨⟨⟨trivial, trivial⟩, F21_ok n [c_Value, c_Name, c_Attr, c_Power] y_3 hx1⟩, ⟨trivial, ⟨trivial, ⟨trivial, ⟨trivial, ⟨trivial, trivial⟩⟩⟩⟩⟩⟩⟩⟩⟩⟩⟩⟩⟩⟩⟩
  refine TS.reg [.none, .none, .none, .none, .none, .none, .none, .none, .none, (.call (.tup (.cons (.str y_3.1) (.cons (.bool y_3.2) .nil))) [])] ?_ ?_
  · apply prop_of ?_ hq
    kernel_rfl
  refine XS.then ?_
  refine TS.seq ?_
  refine TS.seq ?_
  rcases bif_some h with ⟨c2, h⟩ | ⟨c3, h⟩
  · have hq : (True) ∧ ((True) ∧ (((True) ∧ (!y_3.2) = true) ∧ ((True) ∧ (True)))) := ⟨trivial, ⟨trivial, ⟨⟨trivial, c2⟩, ⟨trivial, trivial⟩⟩⟩⟩
    refine TS.reg [.none, .none, .dec true] ?_ ?_
    · apply prop_of ?_ hq
      kernel_rfl
    refine XS.then ?_
    refine TS.yes ?_ ?_
    · kernel_rfl
    refine TS.seq ?_
    have hq : (True) ∧ ((True) ∧ (True)) := ⟨trivial, ⟨trivial, trivial⟩⟩
    refine TS.reg [] ?_ ?_
    · apply prop_of ?_ hq
      kernel_rfl
    refine XS.then ?_
    refine TS.ret ?_
    refine XS.passR ?_
    obtain rfl : (([] : List UInt8), (1 : Int)) = r := Option.some.inj h
    exact XS.fin [] ((True) ∧ ((True) ∧ (True))) (by kernel_rfl) ⟨trivial, ⟨trivial, trivial⟩⟩
  · have hq : (True) ∧ ((True) ∧ (((True) ∧ (!y_3.2) = false) ∧ ((True) ∧ ((True) ∧ ((True) ∧ ((True) ∧ (True))))))) := ⟨trivial, ⟨trivial, ⟨⟨trivial, c3⟩, ⟨trivial, ⟨trivial, ⟨trivial, ⟨trivial, trivial⟩⟩⟩⟩⟩⟩⟩
    refine TS.reg [.none, .none, .dec false] ?_ ?_
    · apply prop_of ?_ hq
      kernel_rfl
    refine XS.then ?_
    rcases bif_some h with ⟨c4, h⟩ | ⟨c5, h⟩
    · refine TS.cond (c_Value == (0 : Int)) ?_ (fun hcz => ?_) (fun hcz => by rw [c4] at hcz; cases hcz)
      · kernel_rfl
      refine TS.seq ?_
      have hq : (True) ∧ ((True) ∧ (True)) := ⟨trivial, ⟨trivial, trivial⟩⟩
      refine TS.reg [] ?_ ?_
      · apply prop_of ?_ hq
        kernel_rfl
      refine XS.then ?_
      refine TS.ret ?_
      refine XS.passR ?_
      obtain rfl : (([] : List UInt8), (1 : Int)) = r := Option.some.inj h
      exact XS.fin [] ((True) ∧ ((True) ∧ (True))) (by kernel_rfl) ⟨trivial, ⟨trivial, trivial⟩⟩
    · refine TS.cond (c_Value == (0 : Int)) ?_ (fun hcz => by rw [c5] at hcz; cases hcz) (fun hcz => ?_)
      · kernel_rfl
      refine TS.skip ?_
      refine XS.then ?_
      refine TS.seq ?_
      refine TS.seq ?_
      have hq : (True) ∧ ((True) ∧ ((True) ∧ ((True) ∧ (True)))) := ⟨trivial, ⟨trivial, ⟨trivial, ⟨trivial, trivial⟩⟩⟩⟩
      refine TS.reg [] ?_ ?_
      · apply prop_of ?_ hq
        kernel_rfl
      refine XS.then ?_
      rcases bif_some h with ⟨c6, h⟩ | ⟨c7, h⟩
      · refine TS.cond (decide (((c_Faces.length : Nat) : Int) > (4 : Int))) ?_ (fun hcz => ?_) (fun hcz => by rw [c6] at hcz; cases hcz)
        · kernel_rfl
        refine TS.seq ?_
        have hq : (True) ∧ ((True) ∧ (True)) := ⟨trivial, ⟨trivial, trivial⟩⟩
        refine TS.reg [] ?_ ?_
        · apply prop_of ?_ hq
          kernel_rfl
        refine XS.then ?_
        refine TS.ret ?_
        refine XS.passR ?_
        obtain rfl : (([] : List UInt8), (2 : Int)) = r := Option.some.inj h
        exact XS.fin [] ((True) ∧ ((True) ∧ (True))) (by kernel_rfl) ⟨trivial, ⟨trivial, trivial⟩⟩
      · refine TS.cond (decide (((c_Faces.length : Nat) : Int) > (4 : Int))) ?_ (fun hcz => by rw [c7] at hcz; cases hcz) (fun hcz => ?_)
        · kernel_rfl
        refine TS.skip ?_
        refine XS.then ?_
        refine TS.seq ?_
        have hq : (True) ∧ (True) := ⟨trivial, trivial⟩
        refine TS.reg [] ?_ ?_
        · apply prop_of ?_ hq
          kernel_rfl
        refine XS.then ?_
        refine TS.seq ?_
        have hq : (True) ∧ (True) := ⟨trivial, trivial⟩
        refine TS.reg [] ?_ ?_
        · apply prop_of ?_ hq
          kernel_rfl
        refine XS.then ?_
        refine TS.seq ?_
        refine TS.seq ?_
        have hq : (True) ∧ ((True) ∧ ((True) ∧ ((True) ∧ (True)))) := ⟨trivial, ⟨trivial, ⟨trivial, ⟨trivial, trivial⟩⟩⟩⟩
        refine TS.reg [] ?_ ?_
        · apply prop_of ?_ hq
          kernel_rfl
        refine XS.then ?_
        refine TS.block ?_
        refine TS.wk (.row false 6 [] 54 (.st (.pair (.int .i64) (.pair .bool (.pair (.int .i64) (.pair (.int .i64) (.int .i64))))))) ?_
        refine TS.reLoop [0, 2] (mkMask 135 [1, 4, 6, 7, 45, 46, 47]) (D := (List UInt8) × Int × (List (Int × Bool × Int × Int × Int))) (fun d => match d with | (rest, x, m1) => (mkTs 135 [(1, (.ptr 0 [])), (4, (.str y_3.1)), (6, (.row 1)), (7, (.str rest)), (45, (.sl (.st (.pair (.int .i64) (.pair (.int .i64) (.pair (.int .i64) (.pair (.int .i64) (.pair (.sl .str) (.sl (.st (.pair (.int .i64) (.pair .bool (.pair (.int .i64) (.pair (.int .i64) (.int .i64))))))))))))) c_Faces)), (46, (.int .i64 ((c_Faces.length : Nat) : Int))), (47, (.int .i64 x))], [(.box 24 (.st (.cons (.int .i64 c_Value) (.cons (.int .i64 c_Name) (.cons (.int .i64 c_Attr) (.cons (.int .i64 c_Power) (.sl (.st (.pair (.int .i64) (.pair (.int .i64) (.pair (.int .i64) (.pair (.int .i64) (.pair (.sl .str) (.sl (.st (.pair (.int .i64) (.pair .bool (.pair (.int .i64) (.pair (.int .i64) (.int .i64))))))))))))) c_Faces))))))), (.row 54 (.st (.pair (.int .i64) (.pair .bool (.pair (.int .i64) (.pair (.int .i64) (.int .i64)))))) m1)])) (fun n' d => loopF (F8_l22 n c_Faces y_3) n' d = some r) n (([] : List UInt8), (0 : Int), ([] : List (Int × Bool × Int × Int × Int))) h ?_ (fun d => loopF_zero _ d r) ?_
        · kernel_rfl
        · rintro n22 ⟨rest, x, m1⟩ h
          replace h : (bif (decide (x < ((c_Faces.length : Nat) : Int))) then (bif inb x c_Faces.length then ((F22 n ((c_Faces.getD x.toNat ((0 : Int), ((0 : Int), ((0 : Int), ((0 : Int), (([] : List (List UInt8)), ([] : List (Int × Bool × Int × Int × Int)))))))).1) ((c_Faces.getD x.toNat ((0 : Int), ((0 : Int), ((0 : Int), ((0 : Int), (([] : List (List UInt8)), ([] : List (Int × Bool × Int × Int × Int)))))))).2.1) ((c_Faces.getD x.toNat ((0 : Int), ((0 : Int), ((0 : Int), ((0 : Int), (([] : List (List UInt8)), ([] : List (Int × Bool × Int × Int × Int)))))))).2.2.1) ((c_Faces.getD x.toNat ((0 : Int), ((0 : Int), ((0 : Int), ((0 : Int), (([] : List (List UInt8)), ([] : List (Int × Bool × Int × Int × Int)))))))).2.2.2.1) ((c_Faces.getD x.toNat ((0 : Int), ((0 : Int), ((0 : Int), ((0 : Int), (([] : List (List UInt8)), ([] : List (Int × Bool × Int × Int × Int)))))))).2.2.2.2.1) ((c_Faces.getD x.toNat ((0 : Int), ((0 : Int), ((0 : Int), ((0 : Int), (([] : List (List UInt8)), ([] : List (Int × Bool × Int × Int × Int)))))))).2.2.2.2.2) m1).bind fun y_4 => (bif (y_4 != (0 : Int)) then (some (([] : List UInt8), y_4)) else (bif (decide (m1.length + ((c_Faces.getD x.toNat ((0 : Int), ((0 : Int), ((0 : Int), ((0 : Int), (([] : List (List UInt8)), ([] : List (Int × Bool × Int × Int × Int)))))))).2.2.2.2.2).length ≤ 3518437208883)) then ((F21 n ([(9 : Int), (4 : Int), x, (0 : Int), ((((c_Faces.getD x.toNat ((0 : Int), ((0 : Int), ((0 : Int), ((0 : Int), (([] : List (List UInt8)), ([] : List (Int × Bool × Int × Int × Int)))))))).2.2.2.2.2).length : Nat) : Int), (c_Faces.getD x.toNat ((0 : Int), ((0 : Int), ((0 : Int), ((0 : Int), (([] : List (List UInt8)), ([] : List (Int × Bool × Int × Int × Int)))))))).1, (c_Faces.getD x.toNat ((0 : Int), ((0 : Int), ((0 : Int), ((0 : Int), (([] : List (List UInt8)), ([] : List (Int × Bool × Int × Int × Int)))))))).2.1, (c_Faces.getD x.toNat ((0 : Int), ((0 : Int), ((0 : Int), ((0 : Int), (([] : List (List UInt8)), ([] : List (Int × Bool × Int × Int × Int)))))))).2.2.1, (c_Faces.getD x.toNat ((0 : Int), ((0 : Int), ((0 : Int), ((0 : Int), (([] : List (List UInt8)), ([] : List (Int × Bool × Int × Int × Int)))))))).2.2.2.1])).bind fun y_5 => ((F19 n ((c_Faces.getD x.toNat ((0 : Int), ((0 : Int), ((0 : Int), ((0 : Int), (([] : List (List UInt8)), ([] : List (Int × Bool × Int × Int × Int)))))))).2.2.2.2.1) ([] : List UInt8)).bind fun y_6 => (bif (decide (y_5.1.length + y_6.length ≤ 9223372036854775807)) then (bif (decide (rest.length + (y_5.1 ++ y_6).length ≤ 9223372036854775807)) then (loopF (F8_l25 n (loopF (F8_l22 n c_Faces y_3) n22) c_Faces x m1) n ((rest ++ (y_5.1 ++ y_6)), (0 : Int))) else none) else none))) else none))) else none) else ((F21 n [((c_Faces.length : Nat) : Int)]).bind fun y_8 => ((F23 n (IntKind.wrap .i64 ((9 : Int) + ((rest.length : Nat) : Int)))).bind fun y_9 => (bif (decide (([9, 2] : List UInt8).length + y_9.length ≤ 9223372036854775807)) then (bif (decide ((([9, 2] : List UInt8) ++ y_9).length + y_8.1.length ≤ 9223372036854775807)) then (bif (decide (((([9, 2] : List UInt8) ++ y_9) ++ y_8.1).length + y_3.1.length ≤ 9223372036854775807)) then (bif (decide ((((([9, 2] : List UInt8) ++ y_9) ++ y_8.1) ++ y_3.1).length + rest.length ≤ 9223372036854775807)) then (some (((((([9, 2] : List UInt8) ++ y_9) ++ y_8.1) ++ y_3.1) ++ rest), (0 : Int))) else none) else none) else none) else none)))) = some r := h
          refine TS.seq ?_
          have hq : (True) ∧ (True) := ⟨trivial, trivial⟩
          refine TS.reg [] ?_ ?_
          · apply prop_of ?_ hq
            kernel_rfl
          refine XS.then ?_
          refine TS.seq ?_
          rcases bif_some h with ⟨c8, h⟩ | ⟨c9, h⟩
          · refine TS.cond (decide (x < ((c_Faces.length : Nat) : Int))) ?_ (fun hcz => ?_) (fun hcz => by rw [c8] at hcz; cases hcz)
            · kernel_rfl
            refine TS.skip ?_
            refine XS.then ?_
            refine TS.seq ?_
            refine TS.block ?_
            refine TS.seq ?_
            obtain ⟨t10, h⟩ := test_some h
            have hq : (True) ∧ ((inR x c_Faces.length) ∧ ((True) ∧ ((True) ∧ ((True) ∧ ((True) ∧ (True)))))) := ⟨trivial, ⟨inb_ok t10, ⟨trivial, ⟨trivial, ⟨trivial, ⟨trivial, trivial⟩⟩⟩⟩⟩⟩
            refine TS.reg [] ?_ ?_
            · apply prop_of ?_ hq
              kernel_rfl
            refine XS.then ?_
            refine TS.seq ?_
            refine TS.seq ?_
            obtain ⟨y_4, hx11, h⟩ := bind_some' h
            have hq : (True) ∧ ((True) ∧ (((((True) ∧ ((True) ∧ ((True) ∧ ((True) ∧ ((True) ∧ (True)))))) ∧ ((True) ∧ (True))) ∧ PureC Try.prog 22 [(.st (.cons (.int .i64 (c_Faces.getD x.toNat ((0 : Int), ((0 : Int), ((0 : Int), ((0 : Int), (([] : List (List UInt8)), ([] : List (Int × Bool × Int × Int × Int)))))))).1) (.cons (.int .i64 (c_Faces.getD x.toNat ((0 : Int), ((0 : Int), ((0 : Int), ((0 : Int), (([] : List (List UInt8)), ([] : List (Int × Bool × Int × Int × Int)))))))).2.1) (.cons (.int .i64 (c_Faces.getD x.toNat ((0 : Int), ((0 : Int), ((0 : Int), ((0 : Int), (([] : List (List UInt8)), ([] : List (Int × Bool × Int × Int × Int)))))))).2.2.1) (.cons (.int .i64 (c_Faces.getD x.toNat ((0 : Int), ((0 : Int), ((0 : Int), ((0 : Int), (([] : List (List UInt8)), ([] : List (Int × Bool × Int × Int × Int)))))))).2.2.2.1) (.cons (.sl .str (c_Faces.getD x.toNat ((0 : Int), ((0 : Int), ((0 : Int), ((0 : Int), (([] : List (List UInt8)), ([] : List (Int × Bool × Int × Int × Int)))))))).2.2.2.2.1) (.sl (.st (.pair (.int .i64) (.pair .bool (.pair (.int .i64) (.pair (.int .i64) (.int .i64)))))) (c_Faces.getD x.toNat ((0 : Int), ((0 : Int), ((0 : Int), ((0 : Int), (([] : List (List UInt8)), ([] : List (Int × Bool × Int × Int × Int)))))))).2.2.2.2.2))))))), (.sl (.st (.pair (.int .i64) (.pair .bool (.pair (.int .i64) (.pair (.int .i64) (.int .i64)))))) m1)] (.int .i64 y_4) []) ∧ ((True) ∧ (True)))) := ⟨trivial, ⟨trivial, ⟨⟨⟨⟨trivial, ⟨trivial, ⟨trivial, ⟨trivial, ⟨trivial, trivial⟩⟩⟩⟩⟩, ⟨trivial, trivial⟩⟩, F22_ok n ((c_Faces.getD x.toNat ((0 : Int), ((0 : Int), ((0 : Int), ((0 : Int), (([] : List (List UInt8)), ([] : List (Int × Bool × Int × Int × Int)))))))).1) ((c_Faces.getD x.toNat ((0 : Int), ((0 : Int), ((0 : Int), ((0 : Int), (([] : List (List UInt8)), ([] : List (Int × Bool × Int × Int × Int)))))))).2.1) ((c_Faces.getD x.toNat ((0 : Int), ((0 : Int), ((0 : Int), ((0 : Int), (([] : List (List UInt8)), ([] : List (Int × Bool × Int × Int × Int)))))))).2.2.1) ((c_Faces.getD x.toNat ((0 : Int), ((0 : Int), ((0 : Int), ((0 : Int), (([] : List (List UInt8)), ([] : List (Int × Bool × Int × Int × Int)))))))).2.2.2.1) ((c_Faces.getD x.toNat ((0 : Int), ((0 : Int), ((0 : Int), ((0 : Int), (([] : List (List UInt8)), ([] : List (Int × Bool × Int × Int × Int)))))))).2.2.2.2.1) ((c_Faces.getD x.toNat ((0 : Int), ((0 : Int), ((0 : Int), ((0 : Int), (([] : List (List UInt8)), ([] : List (Int × Bool × Int × Int × Int)))))))).2.2.2.2.2) m1 y_4 hx11⟩, ⟨trivial, trivial⟩⟩⟩⟩
            refine TS.reg [.none, .none, (.call (.int .i64 y_4) [])] ?_ ?_
            · apply prop_of ?_ hq
              kernel_rfl
            refine XS.then ?_
            refine TS.seq ?_
            have hq : (True) ∧ ((True) ∧ (True)) := ⟨trivial, ⟨trivial, trivial⟩⟩
            refine TS.reg [] ?_ ?_
            · apply prop_of ?_ hq
              kernel_rfl
            refine XS.then ?_
            rcases bif_some h with ⟨c12, h⟩ | ⟨c13, h⟩
            · refine TS.cond (y_4 != (0 : Int)) ?_ (fun hcz => ?_) (fun hcz => by rw [c12] at hcz; cases hcz)
              · kernel_rfl
              refine TS.seq ?_
              have hq : (True) ∧ ((True) ∧ ((True) ∧ (True))) := ⟨trivial, ⟨trivial, ⟨trivial, trivial⟩⟩⟩
              refine TS.reg [] ?_ ?_
              · apply prop_of ?_ hq
                kernel_rfl
              refine XS.then ?_
              refine TS.ret ?_
              refine XS.passR ?_
              refine XS.blockRet ?_
              refine XS.passR ?_
              refine XS.passR ?_
              refine XS.blockRet ?_
              refine XS.passR ?_
              obtain rfl : (([] : List UInt8), y_4) = r := Option.some.inj h
              exact XS.fin [] ((True) ∧ ((True) ∧ (True))) (by kernel_rfl) ⟨trivial, ⟨trivial, trivial⟩⟩
            · refine TS.cond (y_4 != (0 : Int)) ?_ (fun hcz => by rw [c13] at hcz; cases hcz) (fun hcz => ?_)
              · kernel_rfl
              refine TS.skip ?_
              refine XS.then ?_
              refine TS.seq ?_
              obtain ⟨t14, h⟩ := test_some h
              have hq : (True) ∧ ((True) ∧ ((True) ∧ ((m1.length + ((c_Faces.getD x.toNat ((0 : Int), ((0 : Int), ((0 : Int), ((0 : Int), (([] : List (List UInt8)), ([] : List (Int × Bool × Int × Int × Int)))))))).2.2.2.2.2).length ≤ 3518437208883) ∧ ((True) ∧ (True))))) := ⟨trivial, ⟨trivial, ⟨trivial, ⟨of_decide_eq_true t14, ⟨trivial, trivial⟩⟩⟩⟩⟩
              refine TS.reg [] ?_ ?_
              · apply prop_of ?_ hq
                kernel_rfl
              refine XS.then ?_
              refine TS.seq ?_
              obtain ⟨y_5, hx15, h⟩ := bind_some' h
              have hq : (True) ∧ ((True) ∧ ((True) ∧ ((True) ∧ ((True) ∧ ((True) ∧ ((True) ∧ ((True) ∧ ((True) ∧ ((True) ∧ ((True) ∧ ((True) ∧ (((0 < 9 ∧ True) ∧ ((1 < 9 ∧ True) ∧ ((2 < 9 ∧ True) ∧ ((3 < 9 ∧ True) ∧ ((4 < 9 ∧ True) ∧ ((5 < 9 ∧ True) ∧ ((6 < 9 ∧ True) ∧ ((7 < 9 ∧ True) ∧ ((8 < 9 ∧ True) ∧ (True)))))))))) ∧ ((((True) ∧ (True)) ∧ PureC Try.prog 21 [(.sl (.int .i64) [(9 : Int), (4 : Int), x, (0 : Int), ((((c_Faces.getD x.toNat ((0 : Int), ((0 : Int), ((0 : Int), ((0 : Int), (([] : List (List UInt8)), ([] : List (Int × Bool × Int × Int × Int)))))))).2.2.2.2.2).length : Nat) : Int), (c_Faces.getD x.toNat ((0 : Int), ((0 : Int), ((0 : Int), ((0 : Int), (([] : List (List UInt8)), ([] : List (Int × Bool × Int × Int × Int)))))))).1, (c_Faces.getD x.toNat ((0 : Int), ((0 : Int), ((0 : Int), ((0 : Int), (([] : List (List UInt8)), ([] : List (Int × Bool × Int × Int × Int)))))))).2.1, (c_Faces.getD x.toNat ((0 : Int), ((0 : Int), ((0 : Int), ((0 : Int), (([] : List (List UInt8)), ([] : List (Int × Bool × Int × Int × Int)))))))).2.2.1, (c_Faces.getD x.toNat ((0 : Int), ((0 : Int), ((0 : Int), ((0 : Int), (([] : List (List UInt8)), ([] : List (Int × Bool × Int × Int × Int)))))))).2.2.2.1])] (.tup (.cons (.str y_5.1) (.cons (.bool y_5.2) .nil))) []) ∧ ((True) ∧ ((True) ∧ ((True) ∧ ((True) ∧ ((True) ∧ (True))))))))))))))))))) := ⟨trivial, ⟨trivial, ⟨trivial, ⟨trivial, ⟨trivial, ⟨trivial, ⟨trivial, ⟨trivial, ⟨trivial, ⟨trivial, ⟨trivial, ⟨trivial, ⟨⟨⟨by decide, trivial⟩, ⟨⟨by decide, trivial⟩, ⟨⟨by decide, trivial⟩, ⟨⟨by decide, trivial⟩, ⟨⟨by decide, trivial⟩, ⟨⟨by decide, trivial⟩, ⟨⟨by decide, trivial⟩, ⟨⟨by decide, trivial⟩, ⟨⟨by decide, trivial⟩, trivial⟩⟩⟩⟩⟩⟩⟩⟩⟩, ⟨⟨⟨trivial, trivial⟩, F21_ok n ([(9 : Int), (4 : Int), x, (0 : Int), ((((c_Faces.getD x.toNat ((0 : Int), ((0 : Int), ((0 : Int), ((0 : Int), (([] : List (List UInt8)), ([] : List (Int × Bool × Int × Int × Int)))))))).2.2.2.2.2).length : Nat) : Int), (c_Faces.getD x.toNat ((0 : Int), ((0 : Int), ((0 : Int), ((0 : Int), (([] : List (List UInt8)), ([] : List (Int × Bool × Int × Int × Int)))))))).1, (c_Faces.getD x.toNat ((0 : Int), ((0 : Int), ((0 : Int), ((0 : Int), (([] : List (List UInt8)), ([] : List (Int × Bool × Int × Int × Int)))))))).2.1, (c_Faces.getD x.toNat ((0 : Int), ((0 : Int), ((0 : Int), ((0 : Int), (([] : List (List UInt8)), ([] : List (Int × Bool × Int × Int × Int)))))))).2.2.1, (c_Faces.getD x.toNat ((0 : Int), ((0 : Int), ((0 : Int), ((0 : Int), (([] : List (List UInt8)), ([] : List (Int × Bool × Int × Int × Int)))))))).2.2.2.1]) y_5 hx15⟩, ⟨trivial, ⟨trivial, ⟨trivial, ⟨trivial, ⟨trivial, trivial⟩⟩⟩⟩⟩⟩⟩⟩⟩⟩⟩⟩⟩⟩⟩⟩⟩⟩⟩
              refine TS.reg [.none, .none, .none, .none, .none, .none, .none, .none, .none, .none, .none, .none, .none, (.call (.tup (.cons (.str y_5.1) (.cons (.bool y_5.2) .nil))) [])] ?_ ?_
              · apply prop_of ?_ hq
                kernel_rfl
              refine XS.then ?_
              refine TS.seq ?_
              obtain ⟨y_6, hx16, h⟩ := bind_some' h
              obtain ⟨t17, h⟩ := test_some h
              obtain ⟨t18, h⟩ := test_some h
              have hq : (True) ∧ ((True) ∧ ((True) ∧ ((True) ∧ ((PureC Try.prog 19 [(.sl .str (c_Faces.getD x.toNat ((0 : Int), ((0 : Int), ((0 : Int), ((0 : Int), (([] : List (List UInt8)), ([] : List (Int × Bool × Int × Int × Int)))))))).2.2.2.2.1), (.str ([] : List UInt8))] (.str y_6) []) ∧ ((y_5.1.length + y_6.length ≤ 9223372036854775807) ∧ ((rest.length + (y_5.1 ++ y_6).length ≤ 9223372036854775807) ∧ ((True) ∧ (True)))))))) := ⟨trivial, ⟨trivial, ⟨trivial, ⟨trivial, ⟨F19_ok n ((c_Faces.getD x.toNat ((0 : Int), ((0 : Int), ((0 : Int), ((0 : Int), (([] : List (List UInt8)), ([] : List (Int × Bool × Int × Int × Int)))))))).2.2.2.2.1) ([] : List UInt8) y_6 hx16, ⟨of_decide_eq_true t17, ⟨of_decide_eq_true t18, ⟨trivial, trivial⟩⟩⟩⟩⟩⟩⟩⟩
              refine TS.reg [.none, .none, .none, .none, (.call (.str y_6) [])] ?_ ?_
              · apply prop_of ?_ hq
                kernel_rfl
              refine XS.then ?_
              refine TS.seq ?_
              have hq : (True) ∧ ((True) ∧ ((True) ∧ ((True) ∧ (True)))) := ⟨trivial, ⟨trivial, ⟨trivial, ⟨trivial, trivial⟩⟩⟩⟩
              refine TS.reg [] ?_ ?_
              · apply prop_of ?_ hq
                kernel_rfl
              refine XS.then ?_
              refine TS.block ?_
              refine TS.reLoop [0, 3] (mkMask 135 [1, 4, 6, 7, 45, 46, 47, 87, 88, 89]) (D := (List UInt8) × Int) (fun d => match d with | (rest_2, x_2) => (mkTs 135 [(1, (.ptr 0 [])), (4, (.str y_3.1)), (6, (.row 1)), (7, (.str rest_2)), (45, (.sl (.st (.pair (.int .i64) (.pair (.int .i64) (.pair (.int .i64) (.pair (.int .i64) (.pair (.sl .str) (.sl (.st (.pair (.int .i64) (.pair .bool (.pair (.int .i64) (.pair (.int .i64) (.int .i64))))))))))))) c_Faces)), (46, (.int .i64 ((c_Faces.length : Nat) : Int))), (47, (.int .i64 x)), (87, (.sl (.st (.pair (.int .i64) (.pair .bool (.pair (.int .i64) (.pair (.int .i64) (.int .i64)))))) (c_Faces.getD x.toNat ((0 : Int), ((0 : Int), ((0 : Int), ((0 : Int), (([] : List (List UInt8)), ([] : List (Int × Bool × Int × Int × Int)))))))).2.2.2.2.2)), (88, (.int .i64 ((((c_Faces.getD x.toNat ((0 : Int), ((0 : Int), ((0 : Int), ((0 : Int), (([] : List (List UInt8)), ([] : List (Int × Bool × Int × Int × Int)))))))).2.2.2.2.2).length : Nat) : Int))), (89, (.int .i64 x_2))], [(.box 24 (.st (.cons (.int .i64 c_Value) (.cons (.int .i64 c_Name) (.cons (.int .i64 c_Attr) (.cons (.int .i64 c_Power) (.sl (.st (.pair (.int .i64) (.pair (.int .i64) (.pair (.int .i64) (.pair (.int .i64) (.pair (.sl .str) (.sl (.st (.pair (.int .i64) (.pair .bool (.pair (.int .i64) (.pair (.int .i64) (.int .i64))))))))))))) c_Faces))))))), (.row 54 (.st (.pair (.int .i64) (.pair .bool (.pair (.int .i64) (.pair (.int .i64) (.int .i64)))))) (m1 ++ (c_Faces.getD x.toNat ((0 : Int), ((0 : Int), ((0 : Int), ((0 : Int), (([] : List (List UInt8)), ([] : List (Int × Bool × Int × Int × Int)))))))).2.2.2.2.2))])) (fun n' d => loopF (F8_l25 n (loopF (F8_l22 n c_Faces y_3) n22) c_Faces x m1) n' d = some r) n ((rest ++ (y_5.1 ++ y_6)), (0 : Int)) h ?_ (fun d => loopF_zero _ d r) ?_
              · kernel_rfl
              · rintro n25 ⟨rest_2, x_2⟩ h
                replace h : (bif (decide (x_2 < ((((c_Faces.getD x.toNat ((0 : Int), ((0 : Int), ((0 : Int), ((0 : Int), (([] : List (List UInt8)), ([] : List (Int × Bool × Int × Int × Int)))))))).2.2.2.2.2).length : Nat) : Int))) then (bif inb x_2 (((c_Faces.getD x.toNat ((0 : Int), ((0 : Int), ((0 : Int), ((0 : Int), (([] : List (List UInt8)), ([] : List (Int × Bool × Int × Int × Int)))))))).2.2.2.2.2).length) then (bif (((c_Faces.getD x.toNat ((0 : Int), ((0 : Int), ((0 : Int), ((0 : Int), (([] : List (List UInt8)), ([] : List (Int × Bool × Int × Int × Int)))))))).2.2.2.2.2).getD x_2.toNat ((0 : Int), (false, ((0 : Int), ((0 : Int), (0 : Int)))))).2.1 then (F8_j26 n (loopF (F8_l25 n (loopF (F8_l22 n c_Faces y_3) n22) c_Faces x m1) n25) c_Faces x rest_2 x_2 (IntKind.wrap .i64 ((((c_Faces.getD x.toNat ((0 : Int), ((0 : Int), ((0 : Int), ((0 : Int), (([] : List (List UInt8)), ([] : List (Int × Bool × Int × Int × Int)))))))).2.2.2.2.2).getD x_2.toNat ((0 : Int), (false, ((0 : Int), ((0 : Int), (0 : Int)))))).1 + (128 : Int)))) else (F8_j26 n (loopF (F8_l25 n (loopF (F8_l22 n c_Faces y_3) n22) c_Faces x m1) n25) c_Faces x rest_2 x_2 (((c_Faces.getD x.toNat ((0 : Int), ((0 : Int), ((0 : Int), ((0 : Int), (([] : List (List UInt8)), ([] : List (Int × Bool × Int × Int × Int)))))))).2.2.2.2.2).getD x_2.toNat ((0 : Int), (false, ((0 : Int), ((0 : Int), (0 : Int)))))).1)) else none) else ((loopF (F8_l22 n c_Faces y_3) n22) (rest_2, (IntKind.wrap .i64 (x + (1 : Int))), (m1 ++ (c_Faces.getD x.toNat ((0 : Int), ((0 : Int), ((0 : Int), ((0 : Int), (([] : List (List UInt8)), ([] : List (Int × Bool × Int × Int × Int)))))))).2.2.2.2.2)))) = some r := h
                refine TS.seq ?_
                have hq : (True) ∧ (True) := ⟨trivial, trivial⟩
                refine TS.reg [] ?_ ?_
                · apply prop_of ?_ hq
                  kernel_rfl
                refine XS.then ?_
                refine TS.seq ?_
                rcases bif_some h with ⟨c19, h⟩ | ⟨c20, h⟩
                · refine TS.cond (decide (x_2 < ((((c_Faces.getD x.toNat ((0 : Int), ((0 : Int), ((0 : Int), ((0 : Int), (([] : List (List UInt8)), ([] : List (Int × Bool × Int × Int × Int)))))))).2.2.2.2.2).length : Nat) : Int))) ?_ (fun hcz => ?_) (fun hcz => by rw [c19] at hcz; cases hcz)
                  · kernel_rfl
                  refine TS.skip ?_
                  refine XS.then ?_
                  refine TS.seq ?_
                  refine TS.block ?_
                  refine TS.seq ?_
                  obtain ⟨t21, h⟩ := test_some h
                  have hq : (inR x_2 (((c_Faces.getD x.toNat ((0 : Int), ((0 : Int), ((0 : Int), ((0 : Int), (([] : List (List UInt8)), ([] : List (Int × Bool × Int × Int × Int)))))))).2.2.2.2.2).length)) ∧ ((True) ∧ ((True) ∧ ((True) ∧ (True)))) := ⟨inb_ok t21, ⟨trivial, ⟨trivial, ⟨trivial, trivial⟩⟩⟩⟩
                  refine TS.reg [] ?_ ?_
                  · apply prop_of ?_ hq
                    kernel_rfl
                  refine XS.then ?_
                  refine TS.seq ?_
                  have hq : (True) ∧ ((True) ∧ ((True) ∧ (True))) := ⟨trivial, ⟨trivial, ⟨trivial, trivial⟩⟩⟩
                  refine TS.reg [] ?_ ?_
                  · apply prop_of ?_ hq
                    kernel_rfl
                  refine XS.then ?_
                  refine TS.seq ?_
                  refine TS.seq ?_
                  have hq : (True) ∧ ((True) ∧ (True)) := ⟨trivial, ⟨trivial, trivial⟩⟩
                  refine TS.reg [] ?_ ?_
                  · apply prop_of ?_ hq
                    kernel_rfl
                  refine XS.then ?_
                  refine TS.cut (D := Int) (fun d => match d with | a => (mkTs 135 [(1, (.ptr 0 [])), (4, (.str y_3.1)), (6, (.row 1)), (7, (.str rest_2)), (14, (.ptr 2 [])), (15, (.int .i64 a)), (45, (.sl (.st (.pair (.int .i64) (.pair (.int .i64) (.pair (.int .i64) (.pair (.int .i64) (.pair (.sl .str) (.sl (.st (.pair (.int .i64) (.pair .bool (.pair (.int .i64) (.pair (.int .i64) (.int .i64))))))))))))) c_Faces)), (46, (.int .i64 ((c_Faces.length : Nat) : Int))), (47, (.int .i64 x)), (87, (.sl (.st (.pair (.int .i64) (.pair .bool (.pair (.int .i64) (.pair (.int .i64) (.int .i64)))))) (c_Faces.getD x.toNat ((0 : Int), ((0 : Int), ((0 : Int), ((0 : Int), (([] : List (List UInt8)), ([] : List (Int × Bool × Int × Int × Int)))))))).2.2.2.2.2)), (88, (.int .i64 ((((c_Faces.getD x.toNat ((0 : Int), ((0 : Int), ((0 : Int), ((0 : Int), (([] : List (List UInt8)), ([] : List (Int × Bool × Int × Int × Int)))))))).2.2.2.2.2).length : Nat) : Int))), (89, (.int .i64 x_2))], [(.box 24 (.st (.cons (.int .i64 c_Value) (.cons (.int .i64 c_Name) (.cons (.int .i64 c_Attr) (.cons (.int .i64 c_Power) (.sl (.st (.pair (.int .i64) (.pair (.int .i64) (.pair (.int .i64) (.pair (.int .i64) (.pair (.sl .str) (.sl (.st (.pair (.int .i64) (.pair .bool (.pair (.int .i64) (.pair (.int .i64) (.int .i64))))))))))))) c_Faces))))))), (.row 54 (.st (.pair (.int .i64) (.pair .bool (.pair (.int .i64) (.pair (.int .i64) (.int .i64)))))) (m1 ++ (c_Faces.getD x.toNat ((0 : Int), ((0 : Int), ((0 : Int), ((0 : Int), (([] : List (List UInt8)), ([] : List (Int × Bool × Int × Int × Int)))))))).2.2.2.2.2)), (.box 54 (.st (.cons (.int .i64 (((c_Faces.getD x.toNat ((0 : Int), ((0 : Int), ((0 : Int), ((0 : Int), (([] : List (List UInt8)), ([] : List (Int × Bool × Int × Int × Int)))))))).2.2.2.2.2).getD x_2.toNat ((0 : Int), (false, ((0 : Int), ((0 : Int), (0 : Int)))))).1) (.cons (.bool (((c_Faces.getD x.toNat ((0 : Int), ((0 : Int), ((0 : Int), ((0 : Int), (([] : List (List UInt8)), ([] : List (Int × Bool × Int × Int × Int)))))))).2.2.2.2.2).getD x_2.toNat ((0 : Int), (false, ((0 : Int), ((0 : Int), (0 : Int)))))).2.1) (.cons (.int .i64 (((c_Faces.getD x.toNat ((0 : Int), ((0 : Int), ((0 : Int), ((0 : Int), (([] : List (List UInt8)), ([] : List (Int × Bool × Int × Int × Int)))))))).2.2.2.2.2).getD x_2.toNat ((0 : Int), (false, ((0 : Int), ((0 : Int), (0 : Int)))))).2.2.1) (.cons (.int .i64 (((c_Faces.getD x.toNat ((0 : Int), ((0 : Int), ((0 : Int), ((0 : Int), (([] : List (List UInt8)), ([] : List (Int × Bool × Int × Int × Int)))))))).2.2.2.2.2).getD x_2.toNat ((0 : Int), (false, ((0 : Int), ((0 : Int), (0 : Int)))))).2.2.2.1) (.int .i64 (((c_Faces.getD x.toNat ((0 : Int), ((0 : Int), ((0 : Int), ((0 : Int), (([] : List (List UInt8)), ([] : List (Int × Bool × Int × Int × Int)))))))).2.2.2.2.2).getD x_2.toNat ((0 : Int), (false, ((0 : Int), ((0 : Int), (0 : Int)))))).2.2.2.2)))))))])) (fun d => F8_j26 n (loopF (F8_l25 n (loopF (F8_l22 n c_Faces y_3) n22) c_Faces x m1) n25) c_Faces x rest_2 x_2 d = some r) ?_ ?_
                  · rintro a h
                    replace h : ((F21 n ([(7 : Int), (5 : Int), a, (((c_Faces.getD x.toNat ((0 : Int), ((0 : Int), ((0 : Int), ((0 : Int), (([] : List (List UInt8)), ([] : List (Int × Bool × Int × Int × Int)))))))).2.2.2.2.2).getD x_2.toNat ((0 : Int), (false, ((0 : Int), ((0 : Int), (0 : Int)))))).2.2.1, (((c_Faces.getD x.toNat ((0 : Int), ((0 : Int), ((0 : Int), ((0 : Int), (([] : List (List UInt8)), ([] : List (Int × Bool × Int × Int × Int)))))))).2.2.2.2.2).getD x_2.toNat ((0 : Int), (false, ((0 : Int), ((0 : Int), (0 : Int)))))).2.2.2.1, (0 : Int), (((c_Faces.getD x.toNat ((0 : Int), ((0 : Int), ((0 : Int), ((0 : Int), (([] : List (List UInt8)), ([] : List (Int × Bool × Int × Int × Int)))))))).2.2.2.2.2).getD x_2.toNat ((0 : Int), (false, ((0 : Int), ((0 : Int), (0 : Int)))))).2.2.2.2])).bind fun y_7 => (bif (decide (rest_2.length + y_7.1.length ≤ 9223372036854775807)) then ((loopF (F8_l25 n (loopF (F8_l22 n c_Faces y_3) n22) c_Faces x m1) n25) ((rest_2 ++ y_7.1), (IntKind.wrap .i64 (x_2 + (1 : Int))))) else none)) = some r := h
                    refine XS.then ?_
                    refine TS.seq ?_
                    obtain ⟨y_7, hx22, h⟩ := bind_some' h
                    have hq : (True) ∧ ((True) ∧ ((True) ∧ ((True) ∧ ((True) ∧ ((True) ∧ ((True) ∧ (((0 < 7 ∧ True) ∧ ((1 < 7 ∧ True) ∧ ((2 < 7 ∧ True) ∧ ((3 < 7 ∧ True) ∧ ((4 < 7 ∧ True) ∧ ((5 < 7 ∧ True) ∧ ((6 < 7 ∧ True) ∧ (True)))))))) ∧ ((((True) ∧ (True)) ∧ PureC Try.prog 21 [(.sl (.int .i64) [(7 : Int), (5 : Int), a, (((c_Faces.getD x.toNat ((0 : Int), ((0 : Int), ((0 : Int), ((0 : Int), (([] : List (List UInt8)), ([] : List (Int × Bool × Int × Int × Int)))))))).2.2.2.2.2).getD x_2.toNat ((0 : Int), (false, ((0 : Int), ((0 : Int), (0 : Int)))))).2.2.1, (((c_Faces.getD x.toNat ((0 : Int), ((0 : Int), ((0 : Int), ((0 : Int), (([] : List (List UInt8)), ([] : List (Int × Bool × Int × Int × Int)))))))).2.2.2.2.2).getD x_2.toNat ((0 : Int), (false, ((0 : Int), ((0 : Int), (0 : Int)))))).2.2.2.1, (0 : Int), (((c_Faces.getD x.toNat ((0 : Int), ((0 : Int), ((0 : Int), ((0 : Int), (([] : List (List UInt8)), ([] : List (Int × Bool × Int × Int × Int)))))))).2.2.2.2.2).getD x_2.toNat ((0 : Int), (false, ((0 : Int), ((0 : Int), (0 : Int)))))).2.2.2.2])] (.tup (.cons (.str y_7.1) (.cons (.bool y_7.2) .nil))) []) ∧ ((True) ∧ ((True) ∧ ((True) ∧ ((True) ∧ ((True) ∧ (True)))))))))))))) := ⟨trivial, ⟨trivial, ⟨trivial, ⟨trivial, ⟨trivial, ⟨trivial, ⟨trivial, ⟨⟨⟨by decide, trivial⟩, ⟨⟨by decide, trivial⟩, ⟨⟨by decide, trivial⟩, ⟨⟨by decide, trivial⟩, ⟨⟨by decide, trivial⟩, ⟨⟨by decide, trivial⟩, ⟨⟨by decide, trivial⟩, trivial⟩⟩⟩⟩⟩⟩⟩, ⟨⟨⟨trivial, trivial⟩, F21_ok n ([(7 : Int), (5 : Int), a, (((c_Faces.getD x.toNat ((0 : Int), ((0 : Int), ((0 : Int), ((0 : Int), (([] : List (List UInt8)), ([] : List (Int × Bool × Int × Int × Int)))))))).2.2.2.2.2).getD x_2.toNat ((0 : Int), (false, ((0 : Int), ((0 : Int), (0 : Int)))))).2.2.1, (((c_Faces.getD x.toNat ((0 : Int), ((0 : Int), ((0 : Int), ((0 : Int), (([] : List (List UInt8)), ([] : List (Int × Bool × Int × Int × Int)))))))).2.2.2.2.2).getD x_2.toNat ((0 : Int), (false, ((0 : Int), ((0 : Int), (0 : Int)))))).2.2.2.1, (0 : Int), (((c_Faces.getD x.toNat ((0 : Int), ((0 : Int), ((0 : Int), ((0 : Int), (([] : List (List UInt8)), ([] : List (Int × Bool × Int × Int × Int)))))))).2.2.2.2.2).getD x_2.toNat ((0 : Int), (false, ((0 : Int), ((0 : Int), (0 : Int)))))).2.2.2.2]) y_7 hx22⟩, ⟨trivial, ⟨trivial, ⟨trivial, ⟨trivial, ⟨trivial, trivial⟩⟩⟩⟩⟩⟩⟩⟩⟩⟩⟩⟩⟩⟩
                    refine TS.reg [.none, .none, .none, .none, .none, .none, .none, .none, (.call (.tup (.cons (.str y_7.1) (.cons (.bool y_7.2) .nil))) [])] ?_ ?_
                    · apply prop_of ?_ hq
                      kernel_rfl
                    refine XS.then ?_
                    obtain ⟨t23, h⟩ := test_some h
                    have hq : (True) ∧ ((True) ∧ ((rest_2.length + y_7.1.length ≤ 9223372036854775807) ∧ ((True) ∧ (True)))) := ⟨trivial, ⟨trivial, ⟨of_decide_eq_true t23, ⟨trivial, trivial⟩⟩⟩⟩
                    refine TS.reg [] ?_ ?_
                    · apply prop_of ?_ hq
                      kernel_rfl
                    refine XS.blockEnd ?_
                    refine XS.then ?_
                    have hq : (True) ∧ ((True) ∧ (True)) := ⟨trivial, ⟨trivial, trivial⟩⟩
                    refine TS.reg [] ?_ ?_
                    · apply prop_of ?_ hq
                      kernel_rfl
                    refine XS.reAny [0, 1] (mkMask 135 [1, 4, 6, 7, 45, 46, 47, 87, 88, 89]) ((rest_2 ++ y_7.1), (IntKind.wrap .i64 (x_2 + (1 : Int)))) h ?_
                    kernel_rfl
                  · rcases bif_some h with ⟨c24, h⟩ | ⟨c25, h⟩
                    · refine TS.cond ((((c_Faces.getD x.toNat ((0 : Int), ((0 : Int), ((0 : Int), ((0 : Int), (([] : List (List UInt8)), ([] : List (Int × Bool × Int × Int × Int)))))))).2.2.2.2.2).getD x_2.toNat ((0 : Int), (false, ((0 : Int), ((0 : Int), (0 : Int)))))).2.1) ?_ (fun hcz => ?_) (fun hcz => by rw [c24] at hcz; cases hcz)
                      · kernel_rfl
                      have hq : (True) ∧ ((True) ∧ ((True) ∧ (True))) := ⟨trivial, ⟨trivial, ⟨trivial, trivial⟩⟩⟩
                      refine TS.reg [] ?_ ?_
                      · apply prop_of ?_ hq
                        kernel_rfl
                      refine XS.reAny [0, 1, 2] (mkMask 135 [1, 4, 6, 7, 14, 15, 45, 46, 47, 87, 88, 89]) (IntKind.wrap .i64 ((((c_Faces.getD x.toNat ((0 : Int), ((0 : Int), ((0 : Int), ((0 : Int), (([] : List (List UInt8)), ([] : List (Int × Bool × Int × Int × Int)))))))).2.2.2.2.2).getD x_2.toNat ((0 : Int), (false, ((0 : Int), ((0 : Int), (0 : Int)))))).1 + (128 : Int))) h ?_
                      kernel_rfl
                    · refine TS.cond ((((c_Faces.getD x.toNat ((0 : Int), ((0 : Int), ((0 : Int), ((0 : Int), (([] : List (List UInt8)), ([] : List (Int × Bool × Int × Int × Int)))))))).2.2.2.2.2).getD x_2.toNat ((0 : Int), (false, ((0 : Int), ((0 : Int), (0 : Int)))))).2.1) ?_ (fun hcz => by rw [c25] at hcz; cases hcz) (fun hcz => ?_)
                      · kernel_rfl
                      refine TS.skip ?_
                      refine XS.reAny [0, 1, 2] (mkMask 135 [1, 4, 6, 7, 14, 15, 45, 46, 47, 87, 88, 89]) (((c_Faces.getD x.toNat ((0 : Int), ((0 : Int), ((0 : Int), ((0 : Int), (([] : List (List UInt8)), ([] : List (Int × Bool × Int × Int × Int)))))))).2.2.2.2.2).getD x_2.toNat ((0 : Int), (false, ((0 : Int), ((0 : Int), (0 : Int)))))).1 h ?_
                      kernel_rfl
                · refine TS.cond (decide (x_2 < ((((c_Faces.getD x.toNat ((0 : Int), ((0 : Int), ((0 : Int), ((0 : Int), (([] : List (List UInt8)), ([] : List (Int × Bool × Int × Int × Int)))))))).2.2.2.2.2).length : Nat) : Int))) ?_ (fun hcz => by rw [c20] at hcz; cases hcz) (fun hcz => ?_)
                  · kernel_rfl
                  refine TS.exit ?_
                  refine XS.passE ?_
                  refine XS.passE ?_
                  refine XS.out ?_
                  refine XS.blockEnd ?_
                  refine XS.then ?_
                  have hq : (True) ∧ ((True) ∧ (True)) := ⟨trivial, ⟨trivial, trivial⟩⟩
                  refine TS.reg [] ?_ ?_
                  · apply prop_of ?_ hq
                    kernel_rfl
                  refine XS.reAny [0, 1] (mkMask 135 [1, 4, 6, 7, 45, 46, 47]) (rest_2, (IntKind.wrap .i64 (x + (1 : Int))), (m1 ++ (c_Faces.getD x.toNat ((0 : Int), ((0 : Int), ((0 : Int), ((0 : Int), (([] : List (List UInt8)), ([] : List (Int × Bool × Int × Int × Int)))))))).2.2.2.2.2)) h ?_
                  kernel_rfl
          · refine TS.cond (decide (x < ((c_Faces.length : Nat) : Int))) ?_ (fun hcz => by rw [c9] at hcz; cases hcz) (fun hcz => ?_)
            · kernel_rfl
            refine TS.exit ?_
            refine XS.passE ?_
            refine XS.passE ?_
            refine XS.out ?_
            refine XS.then ?_
            refine TS.seq ?_
            obtain ⟨y_8, hx26, h⟩ := bind_some' h
            have hq : (True) ∧ ((True) ∧ ((True) ∧ (((0 < 1 ∧ True) ∧ (True)) ∧ ((((True) ∧ (True)) ∧ PureC Try.prog 21 [(.sl (.int .i64) [((c_Faces.length : Nat) : Int)])] (.tup (.cons (.str y_8.1) (.cons (.bool y_8.2) .nil))) []) ∧ ((True) ∧ ((True) ∧ ((True) ∧ ((True) ∧ ((True) ∧ (True)))))))))) := ⟨trivial, ⟨trivial, ⟨trivial, ⟨⟨⟨by decide, trivial⟩, trivial⟩, ⟨⟨⟨trivial, trivial⟩, F21_ok n [((c_Faces.length : Nat) : Int)] y_8 hx26⟩, ⟨trivial, ⟨trivial, ⟨trivial, ⟨trivial, ⟨trivial, trivial⟩⟩⟩⟩⟩⟩⟩⟩⟩⟩
            refine TS.reg [.none, .none, .none, .none, (.call (.tup (.cons (.str y_8.1) (.cons (.bool y_8.2) .nil))) [])] ?_ ?_
            · apply prop_of ?_ hq
              kernel_rfl
            refine XS.then ?_
            refine TS.seq ?_
            obtain ⟨y_9, hx27, h⟩ := bind_some' h
            obtain ⟨t28, h⟩ := test_some h
            obtain ⟨t29, h⟩ := test_some h
            obtain ⟨t30, h⟩ := test_some h
            obtain ⟨t31, h⟩ := test_some h
            have hq : (True) ∧ ((True) ∧ ((True) ∧ ((PureC Try.prog 23 [(.int .i64 (IntKind.wrap .i64 ((9 : Int) + ((rest.length : Nat) : Int))))] (.str y_9) []) ∧ ((([9, 2] : List UInt8).length + y_9.length ≤ 9223372036854775807) ∧ ((True) ∧ (((([9, 2] : List UInt8) ++ y_9).length + y_8.1.length ≤ 9223372036854775807) ∧ ((True) ∧ ((((([9, 2] : List UInt8) ++ y_9) ++ y_8.1).length + y_3.1.length ≤ 9223372036854775807) ∧ ((True) ∧ (((((([9, 2] : List UInt8) ++ y_9) ++ y_8.1) ++ y_3.1).length + rest.length ≤ 9223372036854775807) ∧ ((True) ∧ ((True) ∧ (True))))))))))))) := ⟨trivial, ⟨trivial, ⟨trivial, ⟨F23_ok n (IntKind.wrap .i64 ((9 : Int) + ((rest.length : Nat) : Int))) y_9 hx27, ⟨of_decide_eq_true t28, ⟨trivial, ⟨of_decide_eq_true t29, ⟨trivial, ⟨of_decide_eq_true t30, ⟨trivial, ⟨of_decide_eq_true t31, ⟨trivial, ⟨trivial, trivial⟩⟩⟩⟩⟩⟩⟩⟩⟩⟩⟩⟩⟩
            refine TS.reg [.none, .none, .none, (.call (.str y_9) [])] ?_ ?_
            · apply prop_of ?_ hq
              kernel_rfl
            refine XS.then ?_
            refine TS.ret ?_
            obtain rfl : (((((([9, 2] : List UInt8) ++ y_9) ++ y_8.1) ++ y_3.1) ++ rest), (0 : Int)) = r := Option.some.inj h
            exact XS.fin [] ((True) ∧ ((True) ∧ (True))) (by kernel_rfl) ⟨trivial, ⟨trivial, trivial⟩⟩

/-! plugtree/plugref.runeAt -/
def F78_l4 (n : Nat) (s : List UInt8) (vat : Int) (vn : Int) (least : Int) (k78_4 : (Int × Int) → Option (Int × Int)) : (Int × Int) → Option (Int × Int)
  | (b_2, x) => (bif (decide (x < vn)) then (bif (decide ((IntKind.wrap .i64 ((IntKind.wrap .i64 (vat + (1 : Int))) + x)) ≥ ((s.length : Nat) : Int))) then (some ((65533 : Int), (1 : Int))) else (bif inb (IntKind.wrap .i64 ((IntKind.wrap .i64 (vat + (1 : Int))) + x)) s.length then (bif ((IntKind.wrap .u8 ((((s.getD ((IntKind.wrap .i64 ((IntKind.wrap .i64 (vat + (1 : Int))) + x)).toNat) 0).toNat : Nat) : Int).tdiv (64 : Int))) != (2 : Int)) then (some ((65533 : Int), (1 : Int))) else (k78_4 ((IntKind.wrap .i64 ((IntKind.wrap .i64 ((64 : Int) * b_2)) + ((IntKind.wrap .i64 ((((s.getD ((IntKind.wrap .i64 ((IntKind.wrap .i64 (vat + (1 : Int))) + x)).toNat) 0).toNat : Nat) : Int))).tmod (64 : Int)))), (IntKind.wrap .i64 (x + (1 : Int)))))) else none)) else (bif (decide (b_2 < least)) then (some ((65533 : Int), (1 : Int))) else (bif (decide (b_2 > (1114111 : Int))) then (some ((65533 : Int), (1 : Int))) else (bif (decide (b_2 ≥ (55296 : Int))) then (bif (decide (b_2 < (57344 : Int))) then (some ((65533 : Int), (1 : Int))) else (some (b_2, (IntKind.wrap .i64 (vn + (1 : Int)))))) else (some (b_2, (IntKind.wrap .i64 (vn + (1 : Int)))))))))
def F78_j3 (n : Nat) (s : List UInt8) (vat : Int) : (Int × Int × Int) → Option (Int × Int)
  | (b, vn, least) => (loopF (F78_l4 n s vat vn least) n (b, (0 : Int)))
def F78 (n : Nat) (s : List UInt8) (vat : Int) : Option (Int × Int) := (bif inb vat s.length then (bif (decide ((IntKind.wrap .i64 ((((s.getD vat.toNat 0).toNat : Nat) : Int))) < (128 : Int))) then (some ((IntKind.wrap .i64 ((((s.getD vat.toNat 0).toNat : Nat) : Int))), (1 : Int))) else (bif (decide ((IntKind.wrap .i64 ((((s.getD vat.toNat 0).toNat : Nat) : Int))) ≥ (192 : Int))) then (bif (decide ((IntKind.wrap .i64 ((((s.getD vat.toNat 0).toNat : Nat) : Int))) < (224 : Int))) then (F78_j3 n s vat ((IntKind.wrap .i64 ((IntKind.wrap .i64 ((((s.getD vat.toNat 0).toNat : Nat) : Int))) - (192 : Int))), (1 : Int), (128 : Int))) else (bif (decide ((IntKind.wrap .i64 ((((s.getD vat.toNat 0).toNat : Nat) : Int))) ≥ (224 : Int))) then (bif (decide ((IntKind.wrap .i64 ((((s.getD vat.toNat 0).toNat : Nat) : Int))) < (240 : Int))) then (F78_j3 n s vat ((IntKind.wrap .i64 ((IntKind.wrap .i64 ((((s.getD vat.toNat 0).toNat : Nat) : Int))) - (224 : Int))), (2 : Int), (2048 : Int))) else (bif (decide ((IntKind.wrap .i64 ((((s.getD vat.toNat 0).toNat : Nat) : Int))) ≥ (240 : Int))) then (bif (decide ((IntKind.wrap .i64 ((((s.getD vat.toNat 0).toNat : Nat) : Int))) < (248 : Int))) then (F78_j3 n s vat ((IntKind.wrap .i64 ((IntKind.wrap .i64 ((((s.getD vat.toNat 0).toNat : Nat) : Int))) - (240 : Int))), (3 : Int), (65536 : Int))) else (some ((65533 : Int), (1 : Int)))) else (some ((65533 : Int), (1 : Int))))) else (bif (decide ((IntKind.wrap .i64 ((((s.getD vat.toNat 0).toNat : Nat) : Int))) ≥ (240 : Int))) then (bif (decide ((IntKind.wrap .i64 ((((s.getD vat.toNat 0).toNat : Nat) : Int))) < (248 : Int))) then (F78_j3 n s vat ((IntKind.wrap .i64 ((IntKind.wrap .i64 ((((s.getD vat.toNat 0).toNat : Nat) : Int))) - (240 : Int))), (3 : Int), (65536 : Int))) else (some ((65533 : Int), (1 : Int)))) else (some ((65533 : Int), (1 : Int)))))) else (bif (decide ((IntKind.wrap .i64 ((((s.getD vat.toNat 0).toNat : Nat) : Int))) ≥ (224 : Int))) then (bif (decide ((IntKind.wrap .i64 ((((s.getD vat.toNat 0).toNat : Nat) : Int))) < (240 : Int))) then (F78_j3 n s vat ((IntKind.wrap .i64 ((IntKind.wrap .i64 ((((s.getD vat.toNat 0).toNat : Nat) : Int))) - (224 : Int))), (2 : Int), (2048 : Int))) else (bif (decide ((IntKind.wrap .i64 ((((s.getD vat.toNat 0).toNat : Nat) : Int))) ≥ (240 : Int))) then (bif (decide ((IntKind.wrap .i64 ((((s.getD vat.toNat 0).toNat : Nat) : Int))) < (248 : Int))) then (F78_j3 n s vat ((IntKind.wrap .i64 ((IntKind.wrap .i64 ((((s.getD vat.toNat 0).toNat : Nat) : Int))) - (240 : Int))), (3 : Int), (65536 : Int))) else (some ((65533 : Int), (1 : Int)))) else (some ((65533 : Int), (1 : Int))))) else (bif (decide ((IntKind.wrap .i64 ((((s.getD vat.toNat 0).toNat : Nat) : Int))) ≥ (240 : Int))) then (bif (decide ((IntKind.wrap .i64 ((((s.getD vat.toNat 0).toNat : Nat) : Int))) < (248 : Int))) then (F78_j3 n s vat ((IntKind.wrap .i64 ((IntKind.wrap .i64 ((((s.getD vat.toNat 0).toNat : Nat) : Int))) - (240 : Int))), (3 : Int), (65536 : Int))) else (some ((65533 : Int), (1 : Int)))) else (some ((65533 : Int), (1 : Int))))))) else none)
theorem F78_ok (n : Nat) (s : List UInt8) (vat : Int) (r : Int × Int) (h : F78 n s vat = some r) : PureC Try.prog 78 [(.str s), (.int .i64 vat)] (.tup (.cons (.int .i64 r.1) (.cons (.int .i64 r.2) .nil))) [] := by
  refine PureC.mkS Try.func78 rfl rfl ?_
  intro w0 fz0 hfz
  replace h : (bif inb vat s.length then (bif (decide ((IntKind.wrap .i64 ((((s.getD vat.toNat 0).toNat : Nat) : Int))) < (128 : Int))) then (some ((IntKind.wrap .i64 ((((s.getD vat.toNat 0).toNat : Nat) : Int))), (1 : Int))) else (bif (decide ((IntKind.wrap .i64 ((((s.getD vat.toNat 0).toNat : Nat) : Int))) ≥ (192 : Int))) then (bif (decide ((IntKind.wrap .i64 ((((s.getD vat.toNat 0).toNat : Nat) : Int))) < (224 : Int))) then (F78_j3 n s vat ((IntKind.wrap .i64 ((IntKind.wrap .i64 ((((s.getD vat.toNat 0).toNat : Nat) : Int))) - (192 : Int))), (1 : Int), (128 : Int))) else (bif (decide ((IntKind.wrap .i64 ((((s.getD vat.toNat 0).toNat : Nat) : Int))) ≥ (224 : Int))) then (bif (decide ((IntKind.wrap .i64 ((((s.getD vat.toNat 0).toNat : Nat) : Int))) < (240 : Int))) then (F78_j3 n s vat ((IntKind.wrap .i64 ((IntKind.wrap .i64 ((((s.getD vat.toNat 0).toNat : Nat) : Int))) - (224 : Int))), (2 : Int), (2048 : Int))) else (bif (decide ((IntKind.wrap .i64 ((((s.getD vat.toNat 0).toNat : Nat) : Int))) ≥ (240 : Int))) then (bif (decide ((IntKind.wrap .i64 ((((s.getD vat.toNat 0).toNat : Nat) : Int))) < (248 : Int))) then (F78_j3 n s vat ((IntKind.wrap .i64 ((IntKind.wrap .i64 ((((s.getD vat.toNat 0).toNat : Nat) : Int))) - (240 : Int))), (3 : Int), (65536 : Int))) else (some ((65533 : Int), (1 : Int)))) else (some ((65533 : Int), (1 : Int))))) else (bif (decide ((IntKind.wrap .i64 ((((s.getD vat.toNat 0).toNat : Nat) : Int))) ≥ (240 : Int))) then (bif (decide ((IntKind.wrap .i64 ((((s.getD vat.toNat 0).toNat : Nat) : Int))) < (248 : Int))) then (F78_j3 n s vat ((IntKind.wrap .i64 ((IntKind.wrap .i64 ((((s.getD vat.toNat 0).toNat : Nat) : Int))) - (240 : Int))), (3 : Int), (65536 : Int))) else (some ((65533 : Int), (1 : Int)))) else (some ((65533 : Int), (1 : Int)))))) else (bif (decide ((IntKind.wrap .i64 ((((s.getD vat.toNat 0).toNat : Nat) : Int))) ≥ (224 : Int))) then (bif (decide ((IntKind.wrap .i64 ((((s.getD vat.toNat 0).toNat : Nat) : Int))) < (240 : Int))) then (F78_j3 n s vat ((IntKind.wrap .i64 ((IntKind.wrap .i64 ((((s.getD vat.toNat 0).toNat : Nat) : Int))) - (224 : Int))), (2 : Int), (2048 : Int))) else (bif (decide ((IntKind.wrap .i64 ((((s.getD vat.toNat 0).toNat : Nat) : Int))) ≥ (240 : Int))) then (bif (decide ((IntKind.wrap .i64 ((((s.getD vat.toNat 0).toNat : Nat) : Int))) < (248 : Int))) then (F78_j3 n s vat ((IntKind.wrap .i64 ((IntKind.wrap .i64 ((((s.getD vat.toNat 0).toNat : Nat) : Int))) - (240 : Int))), (3 : Int), (65536 : Int))) else (some ((65533 : Int), (1 : Int)))) else (some ((65533 : Int), (1 : Int))))) else (bif (decide ((IntKind.wrap .i64 ((((s.getD vat.toNat 0).toNat : Nat) : Int))) ≥ (240 : Int))) then (bif (decide ((IntKind.wrap .i64 ((((s.getD vat.toNat 0).toNat : Nat) : Int))) < (248 : Int))) then (F78_j3 n s vat ((IntKind.wrap .i64 ((IntKind.wrap .i64 ((((s.getD vat.toNat 0).toNat : Nat) : Int))) - (240 : Int))), (3 : Int), (65536 : Int))) else (some ((65533 : Int), (1 : Int)))) else (some ((65533 : Int), (1 : Int))))))) else none) = some r := h
  refine TS.seq ?_
  have hq : (True) ∧ ((True) ∧ (True)) := ⟨trivial, ⟨trivial, trivial⟩⟩
  refine TS.reg [] ?_ ?_
  · apply prop_of ?_ hq
    kernel_rfl
  refine XS.then ?_
  refine TS.seq ?_
  obtain ⟨t1, h⟩ := test_some h
  have hq : (True) ∧ ((True) ∧ ((inR vat s.length) ∧ ((True) ∧ ((True) ∧ (True))))) := ⟨trivial, ⟨trivial, ⟨inb_ok t1, ⟨trivial, ⟨trivial, trivial⟩⟩⟩⟩⟩
  refine TS.reg [] ?_ ?_
  · apply prop_of ?_ hq
    kernel_rfl
  refine XS.then ?_
  refine TS.seq ?_
  have hq : (True) ∧ ((True) ∧ (True)) := ⟨trivial, ⟨trivial, trivial⟩⟩
  refine TS.reg [] ?_ ?_
  · apply prop_of ?_ hq
    kernel_rfl
  refine XS.then ?_
  refine TS.seq ?_
  refine TS.cut (D := Int × Int × Int) (fun d => match d with | (b, vn, least) => (mkTs 96 [(0, (.str s)), (1, (.int .i64 vat)), (6, (.int .i64 b)), (7, (.int .i64 vn)), (8, (.int .i64 least))], [])) (fun d => F78_j3 n s vat d = some r) ?_ ?_
  · rintro ⟨b, vn, least⟩ h
    replace h : (loopF (F78_l4 n s vat vn least) n (b, (0 : Int))) = some r := h
    refine XS.then ?_
    refine TS.seq ?_
    refine TS.seq ?_
    have hq : (True) ∧ ((True) ∧ (True)) := ⟨trivial, ⟨trivial, trivial⟩⟩
    refine TS.reg [] ?_ ?_
    · apply prop_of ?_ hq
      kernel_rfl
    refine XS.then ?_
    refine TS.block ?_
    refine TS.reLoop [] (mkMask 96 [0, 1, 6, 7, 8, 45, 46]) (D := Int × Int) (fun d => match d with | (b_2, x) => (mkTs 96 [(0, (.str s)), (1, (.int .i64 vat)), (6, (.int .i64 b_2)), (7, (.int .i64 vn)), (8, (.int .i64 least)), (45, (.int .i64 vn)), (46, (.int .i64 x))], [])) (fun n' d => loopF (F78_l4 n s vat vn least) n' d = some r) n (b, (0 : Int)) h ?_ (fun d => loopF_zero _ d r) ?_
    · kernel_rfl
    · rintro n4 ⟨b_2, x⟩ h
      replace h : (bif (decide (x < vn)) then (bif (decide ((IntKind.wrap .i64 ((IntKind.wrap .i64 (vat + (1 : Int))) + x)) ≥ ((s.length : Nat) : Int))) then (some ((65533 : Int), (1 : Int))) else (bif inb (IntKind.wrap .i64 ((IntKind.wrap .i64 (vat + (1 : Int))) + x)) s.length then (bif ((IntKind.wrap .u8 ((((s.getD ((IntKind.wrap .i64 ((IntKind.wrap .i64 (vat + (1 : Int))) + x)).toNat) 0).toNat : Nat) : Int).tdiv (64 : Int))) != (2 : Int)) then (some ((65533 : Int), (1 : Int))) else ((loopF (F78_l4 n s vat vn least) n4) ((IntKind.wrap .i64 ((IntKind.wrap .i64 ((64 : Int) * b_2)) + ((IntKind.wrap .i64 ((((s.getD ((IntKind.wrap .i64 ((IntKind.wrap .i64 (vat + (1 : Int))) + x)).toNat) 0).toNat : Nat) : Int))).tmod (64 : Int)))), (IntKind.wrap .i64 (x + (1 : Int)))))) else none)) else (bif (decide (b_2 < least)) then (some ((65533 : Int), (1 : Int))) else (bif (decide (b_2 > (1114111 : Int))) then (some ((65533 : Int), (1 : Int))) else (bif (decide (b_2 ≥ (55296 : Int))) then (bif (decide (b_2 < (57344 : Int))) then (some ((65533 : Int), (1 : Int))) else (some (b_2, (IntKind.wrap .i64 (vn + (1 : Int)))))) else (some (b_2, (IntKind.wrap .i64 (vn + (1 : Int))))))))) = some r := h
      refine TS.seq ?_
      have hq : (True) ∧ (True) := ⟨trivial, trivial⟩
      refine TS.reg [] ?_ ?_
      · apply prop_of ?_ hq
        kernel_rfl
      refine XS.then ?_
      refine TS.seq ?_
      rcases bif_some h with ⟨c2, h⟩ | ⟨c3, h⟩
      · refine TS.cond (decide (x < vn)) ?_ (fun hcz => ?_) (fun hcz => by rw [c2] at hcz; cases hcz)
        · kernel_rfl
        refine TS.skip ?_
        refine XS.then ?_
        refine TS.seq ?_
        refine TS.block ?_
        refine TS.seq ?_
        have hq : (True) ∧ ((True) ∧ (True)) := ⟨trivial, ⟨trivial, trivial⟩⟩
        refine TS.reg [] ?_ ?_
        · apply prop_of ?_ hq
          kernel_rfl
        refine XS.then ?_
        refine TS.seq ?_
        refine TS.seq ?_
        rcases bif_some h with ⟨c4, h⟩ | ⟨c5, h⟩
        · have hq : (True) ∧ ((True) ∧ ((True) ∧ ((True) ∧ ((True) ∧ ((True) ∧ ((True) ∧ (((True) ∧ (decide ((IntKind.wrap .i64 ((IntKind.wrap .i64 (vat + (1 : Int))) + x)) ≥ ((s.length : Nat) : Int))) = true) ∧ ((True) ∧ (True))))))))) := ⟨trivial, ⟨trivial, ⟨trivial, ⟨trivial, ⟨trivial, ⟨trivial, ⟨trivial, ⟨⟨trivial, c4⟩, ⟨trivial, trivial⟩⟩⟩⟩⟩⟩⟩⟩⟩
          refine TS.reg [.none, .none, .none, .none, .none, .none, .none, .dec true] ?_ ?_
          · apply prop_of ?_ hq
            kernel_rfl
          refine XS.then ?_
          refine TS.yes ?_ ?_
          · kernel_rfl
          refine TS.seq ?_
          have hq : (True) ∧ ((True) ∧ (True)) := ⟨trivial, ⟨trivial, trivial⟩⟩
          refine TS.reg [] ?_ ?_
          · apply prop_of ?_ hq
            kernel_rfl
          refine XS.then ?_
          refine TS.ret ?_
          refine XS.passR ?_
          refine XS.blockRet ?_
          refine XS.passR ?_
          refine XS.passR ?_
          refine XS.blockRet ?_
          refine XS.passR ?_
          obtain rfl : ((65533 : Int), (1 : Int)) = r := Option.some.inj h
          exact XS.fin [] ((True) ∧ ((True) ∧ (True))) (by kernel_rfl) ⟨trivial, ⟨trivial, trivial⟩⟩
        · obtain ⟨t6, h⟩ := test_some h
          have hq : (True) ∧ ((True) ∧ ((True) ∧ ((True) ∧ ((True) ∧ ((True) ∧ ((True) ∧ (((True) ∧ (decide ((IntKind.wrap .i64 ((IntKind.wrap .i64 (vat + (1 : Int))) + x)) ≥ ((s.length : Nat) : Int))) = false) ∧ ((True) ∧ ((True) ∧ ((True) ∧ ((True) ∧ ((True) ∧ ((inR (IntKind.wrap .i64 ((IntKind.wrap .i64 (vat + (1 : Int))) + x)) s.length) ∧ (((64 : Int) ≠ 0) ∧ ((True) ∧ ((True) ∧ (True))))))))))))))))) := ⟨trivial, ⟨trivial, ⟨trivial, ⟨trivial, ⟨trivial, ⟨trivial, ⟨trivial, ⟨⟨trivial, c5⟩, ⟨trivial, ⟨trivial, ⟨trivial, ⟨trivial, ⟨trivial, ⟨inb_ok t6, ⟨by decide, ⟨trivial, ⟨trivial, trivial⟩⟩⟩⟩⟩⟩⟩⟩⟩⟩⟩⟩⟩⟩⟩⟩⟩
          refine TS.reg [.none, .none, .none, .none, .none, .none, .none, .dec false] ?_ ?_
          · apply prop_of ?_ hq
            kernel_rfl
          refine XS.then ?_
          rcases bif_some h with ⟨c7, h⟩ | ⟨c8, h⟩
          · refine TS.cond ((IntKind.wrap .u8 ((((s.getD ((IntKind.wrap .i64 ((IntKind.wrap .i64 (vat + (1 : Int))) + x)).toNat) 0).toNat : Nat) : Int).tdiv (64 : Int))) != (2 : Int)) ?_ (fun hcz => ?_) (fun hcz => by rw [c7] at hcz; cases hcz)
            · kernel_rfl
            refine TS.seq ?_
            have hq : (True) ∧ ((True) ∧ (True)) := ⟨trivial, ⟨trivial, trivial⟩⟩
            refine TS.reg [] ?_ ?_
            · apply prop_of ?_ hq
              kernel_rfl
            refine XS.then ?_
            refine TS.ret ?_
            refine XS.passR ?_
            refine XS.blockRet ?_
            refine XS.passR ?_
            refine XS.passR ?_
            refine XS.blockRet ?_
            refine XS.passR ?_
            obtain rfl : ((65533 : Int), (1 : Int)) = r := Option.some.inj h
            exact XS.fin [] ((True) ∧ ((True) ∧ (True))) (by kernel_rfl) ⟨trivial, ⟨trivial, trivial⟩⟩
          · refine TS.cond ((IntKind.wrap .u8 ((((s.getD ((IntKind.wrap .i64 ((IntKind.wrap .i64 (vat + (1 : Int))) + x)).toNat) 0).toNat : Nat) : Int).tdiv (64 : Int))) != (2 : Int)) ?_ (fun hcz => by rw [c8] at hcz; cases hcz) (fun hcz => ?_)
            · kernel_rfl
            refine TS.skip ?_
            refine XS.then ?_
            have hq : (True) ∧ ((True) ∧ ((True) ∧ ((True) ∧ ((True) ∧ ((True) ∧ ((True) ∧ ((inR (IntKind.wrap .i64 ((IntKind.wrap .i64 (vat + (1 : Int))) + x)) s.length) ∧ ((True) ∧ (((64 : Int) ≠ 0) ∧ ((True) ∧ ((True) ∧ (True)))))))))))) := ⟨trivial, ⟨trivial, ⟨trivial, ⟨trivial, ⟨trivial, ⟨trivial, ⟨trivial, ⟨inb_ok t6, ⟨trivial, ⟨by decide, ⟨trivial, ⟨trivial, trivial⟩⟩⟩⟩⟩⟩⟩⟩⟩⟩⟩⟩
            refine TS.reg [] ?_ ?_
            · apply prop_of ?_ hq
              kernel_rfl
            refine XS.blockEnd ?_
            refine XS.then ?_
            have hq : (True) ∧ ((True) ∧ (True)) := ⟨trivial, ⟨trivial, trivial⟩⟩
            refine TS.reg [] ?_ ?_
            · apply prop_of ?_ hq
              kernel_rfl
            refine XS.reAny [] (mkMask 96 [0, 1, 6, 7, 8, 45, 46]) ((IntKind.wrap .i64 ((IntKind.wrap .i64 ((64 : Int) * b_2)) + ((IntKind.wrap .i64 ((((s.getD ((IntKind.wrap .i64 ((IntKind.wrap .i64 (vat + (1 : Int))) + x)).toNat) 0).toNat : Nat) : Int))).tmod (64 : Int)))), (IntKind.wrap .i64 (x + (1 : Int)))) h ?_
            kernel_rfl
      · refine TS.cond (decide (x < vn)) ?_ (fun hcz => by rw [c3] at hcz; cases hcz) (fun hcz => ?_)
        · kernel_rfl
        refine TS.exit ?_
        refine XS.passE ?_
        refine XS.passE ?_
        refine XS.out ?_
        refine XS.then ?_
        refine TS.seq ?_
        refine TS.seq ?_
        rcases bif_some h with ⟨c9, h⟩ | ⟨c10, h⟩
        · have hq : (True) ∧ ((True) ∧ ((True) ∧ (((True) ∧ (decide (b_2 < least)) = true) ∧ ((True) ∧ ((True) ∧ ((True) ∧ (True))))))) := ⟨trivial, ⟨trivial, ⟨trivial, ⟨⟨trivial, c9⟩, ⟨trivial, ⟨trivial, ⟨trivial, trivial⟩⟩⟩⟩⟩⟩⟩
          refine TS.reg [.none, .none, .none, .dec true] ?_ ?_
          · apply prop_of ?_ hq
            kernel_rfl
          refine XS.then ?_
          refine TS.yes ?_ ?_
          · kernel_rfl
          refine TS.seq ?_
          have hq : (True) ∧ ((True) ∧ (True)) := ⟨trivial, ⟨trivial, trivial⟩⟩
          refine TS.reg [] ?_ ?_
          · apply prop_of ?_ hq
            kernel_rfl
          refine XS.then ?_
          refine TS.ret ?_
          refine XS.passR ?_
          obtain rfl : ((65533 : Int), (1 : Int)) = r := Option.some.inj h
          exact XS.fin [] ((True) ∧ ((True) ∧ (True))) (by kernel_rfl) ⟨trivial, ⟨trivial, trivial⟩⟩
        · rcases bif_some h with ⟨c11, h⟩ | ⟨c12, h⟩
          · have hq : (True) ∧ ((True) ∧ ((True) ∧ (((True) ∧ (decide (b_2 < least)) = false) ∧ ((True) ∧ ((True) ∧ ((True) ∧ (((True) ∧ (decide (b_2 > (1114111 : Int))) = true) ∧ ((True) ∧ (True))))))))) := ⟨trivial, ⟨trivial, ⟨trivial, ⟨⟨trivial, c10⟩, ⟨trivial, ⟨trivial, ⟨trivial, ⟨⟨trivial, c11⟩, ⟨trivial, trivial⟩⟩⟩⟩⟩⟩⟩⟩⟩
            refine TS.reg [.none, .none, .none, .dec false, .none, .none, .none, .dec true] ?_ ?_
            · apply prop_of ?_ hq
              kernel_rfl
            refine XS.then ?_
            refine TS.yes ?_ ?_
            · kernel_rfl
            refine TS.seq ?_
            have hq : (True) ∧ ((True) ∧ (True)) := ⟨trivial, ⟨trivial, trivial⟩⟩
            refine TS.reg [] ?_ ?_
            · apply prop_of ?_ hq
              kernel_rfl
            refine XS.then ?_
            refine TS.ret ?_
            refine XS.passR ?_
            obtain rfl : ((65533 : Int), (1 : Int)) = r := Option.some.inj h
            exact XS.fin [] ((True) ∧ ((True) ∧ (True))) (by kernel_rfl) ⟨trivial, ⟨trivial, trivial⟩⟩
          · rcases bif_some h with ⟨c13, h⟩ | ⟨c14, h⟩
            · have hq : (True) ∧ ((True) ∧ ((True) ∧ (((True) ∧ (decide (b_2 < least)) = false) ∧ ((True) ∧ ((True) ∧ ((True) ∧ (((True) ∧ (decide (b_2 > (1114111 : Int))) = false) ∧ ((True) ∧ ((True) ∧ (((True) ∧ (decide (b_2 ≥ (55296 : Int))) = true) ∧ ((True) ∧ ((True) ∧ ((True) ∧ ((True) ∧ (True))))))))))))))) := ⟨trivial, ⟨trivial, ⟨trivial, ⟨⟨trivial, c10⟩, ⟨trivial, ⟨trivial, ⟨trivial, ⟨⟨trivial, c12⟩, ⟨trivial, ⟨trivial, ⟨⟨trivial, c13⟩, ⟨trivial, ⟨trivial, ⟨trivial, ⟨trivial, trivial⟩⟩⟩⟩⟩⟩⟩⟩⟩⟩⟩⟩⟩⟩⟩
              refine TS.reg [.none, .none, .none, .dec false, .none, .none, .none, .dec false, .none, .none, .dec true] ?_ ?_
              · apply prop_of ?_ hq
                kernel_rfl
              refine XS.then ?_
              rcases bif_some h with ⟨c15, h⟩ | ⟨c16, h⟩
              · refine TS.cond (decide (b_2 < (57344 : Int))) ?_ (fun hcz => ?_) (fun hcz => by rw [c15] at hcz; cases hcz)
                · kernel_rfl
                refine TS.seq ?_
                have hq : (True) ∧ ((True) ∧ (True)) := ⟨trivial, ⟨trivial, trivial⟩⟩
                refine TS.reg [] ?_ ?_
                · apply prop_of ?_ hq
                  kernel_rfl
                refine XS.then ?_
                refine TS.ret ?_
                refine XS.passR ?_
                obtain rfl : ((65533 : Int), (1 : Int)) = r := Option.some.inj h
                exact XS.fin [] ((True) ∧ ((True) ∧ (True))) (by kernel_rfl) ⟨trivial, ⟨trivial, trivial⟩⟩
              · refine TS.cond (decide (b_2 < (57344 : Int))) ?_ (fun hcz => by rw [c16] at hcz; cases hcz) (fun hcz => ?_)
                · kernel_rfl
                refine TS.skip ?_
                refine XS.then ?_
                refine TS.seq ?_
                have hq : (True) ∧ ((True) ∧ ((True) ∧ ((True) ∧ ((True) ∧ (True))))) := ⟨trivial, ⟨trivial, ⟨trivial, ⟨trivial, ⟨trivial, trivial⟩⟩⟩⟩⟩
                refine TS.reg [] ?_ ?_
                · apply prop_of ?_ hq
                  kernel_rfl
                refine XS.then ?_
                refine TS.ret ?_
                obtain rfl : (b_2, (IntKind.wrap .i64 (vn + (1 : Int)))) = r := Option.some.inj h
                exact XS.fin [] ((True) ∧ ((True) ∧ (True))) (by kernel_rfl) ⟨trivial, ⟨trivial, trivial⟩⟩
            · have hq : (True) ∧ ((True) ∧ ((True) ∧ (((True) ∧ (decide (b_2 < least)) = false) ∧ ((True) ∧ ((True) ∧ ((True) ∧ (((True) ∧ (decide (b_2 > (1114111 : Int))) = false) ∧ ((True) ∧ ((True) ∧ (((True) ∧ (decide (b_2 ≥ (55296 : Int))) = false) ∧ ((True) ∧ ((True) ∧ (True))))))))))))) := ⟨trivial, ⟨trivial, ⟨trivial, ⟨⟨trivial, c10⟩, ⟨trivial, ⟨trivial, ⟨trivial, ⟨⟨trivial, c12⟩, ⟨trivial, ⟨trivial, ⟨⟨trivial, c14⟩, ⟨trivial, ⟨trivial, trivial⟩⟩⟩⟩⟩⟩⟩⟩⟩⟩⟩⟩⟩
              refine TS.reg [.none, .none, .none, .dec false, .none, .none, .none, .dec false, .none, .none, .dec false] ?_ ?_
              · apply prop_of ?_ hq
                kernel_rfl
              refine XS.then ?_
              refine TS.no ?_ ?_
              · kernel_rfl
              refine TS.skip ?_
              refine XS.then ?_
              refine TS.seq ?_
              have hq : (True) ∧ ((True) ∧ ((True) ∧ ((True) ∧ ((True) ∧ (True))))) := ⟨trivial, ⟨trivial, ⟨trivial, ⟨trivial, ⟨trivial, trivial⟩⟩⟩⟩⟩
              refine TS.reg [] ?_ ?_
              · apply prop_of ?_ hq
                kernel_rfl
              refine XS.then ?_
              refine TS.ret ?_
              obtain rfl : (b_2, (IntKind.wrap .i64 (vn + (1 : Int)))) = r := Option.some.inj h
              exact XS.fin [] ((True) ∧ ((True) ∧ (True))) (by kernel_rfl) ⟨trivial, ⟨trivial, trivial⟩⟩
  · refine TS.block ?_
    refine TS.seq ?_
    have hq : (True) ∧ ((True) ∧ ((True) ∧ (True))) := ⟨trivial, ⟨trivial, ⟨trivial, trivial⟩⟩⟩
    refine TS.reg [] ?_ ?_
    · apply prop_of ?_ hq
      kernel_rfl
    refine XS.then ?_
    rcases bif_some h with ⟨c17, h⟩ | ⟨c18, h⟩
    · refine TS.cond (decide ((IntKind.wrap .i64 ((((s.getD vat.toNat 0).toNat : Nat) : Int))) < (128 : Int))) ?_ (fun hcz => ?_) (fun hcz => by rw [c17] at hcz; cases hcz)
      · kernel_rfl
      refine TS.seq ?_
      have hq : (True) ∧ ((True) ∧ ((True) ∧ (True))) := ⟨trivial, ⟨trivial, ⟨trivial, trivial⟩⟩⟩
      refine TS.reg [] ?_ ?_
      · apply prop_of ?_ hq
        kernel_rfl
      refine XS.then ?_
      refine TS.ret ?_
      refine XS.blockRet ?_
      refine XS.passR ?_
      refine XS.passR ?_
      obtain rfl : ((IntKind.wrap .i64 ((((s.getD vat.toNat 0).toNat : Nat) : Int))), (1 : Int)) = r := Option.some.inj h
      exact XS.fin [] ((True) ∧ ((True) ∧ (True))) (by kernel_rfl) ⟨trivial, ⟨trivial, trivial⟩⟩
    · refine TS.cond (decide ((IntKind.wrap .i64 ((((s.getD vat.toNat 0).toNat : Nat) : Int))) < (128 : Int))) ?_ (fun hcz => by rw [c18] at hcz; cases hcz) (fun hcz => ?_)
      · kernel_rfl
      refine TS.seq ?_
      rcases bif_some h with ⟨c19, h⟩ | ⟨c20, h⟩
      · have hq : (True) ∧ ((True) ∧ (((True) ∧ (decide ((IntKind.wrap .i64 ((((s.getD vat.toNat 0).toNat : Nat) : Int))) ≥ (192 : Int))) = true) ∧ ((True) ∧ ((True) ∧ ((True) ∧ ((True) ∧ (True))))))) := ⟨trivial, ⟨trivial, ⟨⟨trivial, c19⟩, ⟨trivial, ⟨trivial, ⟨trivial, ⟨trivial, trivial⟩⟩⟩⟩⟩⟩⟩
        refine TS.reg [.none, .none, .dec true] ?_ ?_
        · apply prop_of ?_ hq
          kernel_rfl
        refine XS.then ?_
        rcases bif_some h with ⟨c21, h⟩ | ⟨c22, h⟩
        · refine TS.cond (decide ((IntKind.wrap .i64 ((((s.getD vat.toNat 0).toNat : Nat) : Int))) < (224 : Int))) ?_ (fun hcz => ?_) (fun hcz => by rw [c21] at hcz; cases hcz)
          · kernel_rfl
          have hq : (True) ∧ ((True) ∧ ((True) ∧ ((True) ∧ ((True) ∧ (True))))) := ⟨trivial, ⟨trivial, ⟨trivial, ⟨trivial, ⟨trivial, trivial⟩⟩⟩⟩⟩
          refine TS.reg [] ?_ ?_
          · apply prop_of ?_ hq
            kernel_rfl
          refine XS.blockEnd ?_
          refine XS.reAny [] (mkMask 96 [0, 1, 6, 7, 8]) ((IntKind.wrap .i64 ((IntKind.wrap .i64 ((((s.getD vat.toNat 0).toNat : Nat) : Int))) - (192 : Int))), (1 : Int), (128 : Int)) h ?_
          kernel_rfl
        · refine TS.cond (decide ((IntKind.wrap .i64 ((((s.getD vat.toNat 0).toNat : Nat) : Int))) < (224 : Int))) ?_ (fun hcz => by rw [c22] at hcz; cases hcz) (fun hcz => ?_)
          · kernel_rfl
          refine TS.seq ?_
          rcases bif_some h with ⟨c23, h⟩ | ⟨c24, h⟩
          · have hq : (True) ∧ ((True) ∧ (((True) ∧ (decide ((IntKind.wrap .i64 ((((s.getD vat.toNat 0).toNat : Nat) : Int))) ≥ (224 : Int))) = true) ∧ ((True) ∧ ((True) ∧ ((True) ∧ ((True) ∧ (True))))))) := ⟨trivial, ⟨trivial, ⟨⟨trivial, c23⟩, ⟨trivial, ⟨trivial, ⟨trivial, ⟨trivial, trivial⟩⟩⟩⟩⟩⟩⟩
            refine TS.reg [.none, .none, .dec true] ?_ ?_
            · apply prop_of ?_ hq
              kernel_rfl
            refine XS.then ?_
            rcases bif_some h with ⟨c25, h⟩ | ⟨c26, h⟩
            · refine TS.cond (decide ((IntKind.wrap .i64 ((((s.getD vat.toNat 0).toNat : Nat) : Int))) < (240 : Int))) ?_ (fun hcz => ?_) (fun hcz => by rw [c25] at hcz; cases hcz)
              · kernel_rfl
              have hq : (True) ∧ ((True) ∧ ((True) ∧ ((True) ∧ ((True) ∧ (True))))) := ⟨trivial, ⟨trivial, ⟨trivial, ⟨trivial, ⟨trivial, trivial⟩⟩⟩⟩⟩
              refine TS.reg [] ?_ ?_
              · apply prop_of ?_ hq
                kernel_rfl
              refine XS.blockEnd ?_
              refine XS.reAny [] (mkMask 96 [0, 1, 6, 7, 8]) ((IntKind.wrap .i64 ((IntKind.wrap .i64 ((((s.getD vat.toNat 0).toNat : Nat) : Int))) - (224 : Int))), (2 : Int), (2048 : Int)) h ?_
              kernel_rfl
            · refine TS.cond (decide ((IntKind.wrap .i64 ((((s.getD vat.toNat 0).toNat : Nat) : Int))) < (240 : Int))) ?_ (fun hcz => by rw [c26] at hcz; cases hcz) (fun hcz => ?_)
              · kernel_rfl
              refine TS.seq ?_
              rcases bif_some h with ⟨c27, h⟩ | ⟨c28, h⟩
              · have hq : (True) ∧ ((True) ∧ (((True) ∧ (decide ((IntKind.wrap .i64 ((((s.getD vat.toNat 0).toNat : Nat) : Int))) ≥ (240 : Int))) = true) ∧ ((True) ∧ ((True) ∧ ((True) ∧ ((True) ∧ (True))))))) := ⟨trivial, ⟨trivial, ⟨⟨trivial, c27⟩, ⟨trivial, ⟨trivial, ⟨trivial, ⟨trivial, trivial⟩⟩⟩⟩⟩⟩⟩
                refine TS.reg [.none, .none, .dec true] ?_ ?_
                · apply prop_of ?_ hq
                  kernel_rfl
                refine XS.then ?_
                rcases bif_some h with ⟨c29, h⟩ | ⟨c30, h⟩
                · refine TS.cond (decide ((IntKind.wrap .i64 ((((s.getD vat.toNat 0).toNat : Nat) : Int))) < (248 : Int))) ?_ (fun hcz => ?_) (fun hcz => by rw [c29] at hcz; cases hcz)
                  · kernel_rfl
                  have hq : (True) ∧ ((True) ∧ ((True) ∧ ((True) ∧ ((True) ∧ (True))))) := ⟨trivial, ⟨trivial, ⟨trivial, ⟨trivial, ⟨trivial, trivial⟩⟩⟩⟩⟩
                  refine TS.reg [] ?_ ?_
                  · apply prop_of ?_ hq
                    kernel_rfl
                  refine XS.blockEnd ?_
                  refine XS.reAny [] (mkMask 96 [0, 1, 6, 7, 8]) ((IntKind.wrap .i64 ((IntKind.wrap .i64 ((((s.getD vat.toNat 0).toNat : Nat) : Int))) - (240 : Int))), (3 : Int), (65536 : Int)) h ?_
                  kernel_rfl
                · refine TS.cond (decide ((IntKind.wrap .i64 ((((s.getD vat.toNat 0).toNat : Nat) : Int))) < (248 : Int))) ?_ (fun hcz => by rw [c30] at hcz; cases hcz) (fun hcz => ?_)
                  · kernel_rfl
                  refine TS.seq ?_
                  have hq : (True) ∧ ((True) ∧ (True)) := ⟨trivial, ⟨trivial, trivial⟩⟩
                  refine TS.reg [] ?_ ?_
                  · apply prop_of ?_ hq
                    kernel_rfl
                  refine XS.then ?_
                  refine TS.ret ?_
                  refine XS.blockRet ?_
                  refine XS.passR ?_
                  refine XS.passR ?_
                  obtain rfl : ((65533 : Int), (1 : Int)) = r := Option.some.inj h
                  exact XS.fin [] ((True) ∧ ((True) ∧ (True))) (by kernel_rfl) ⟨trivial, ⟨trivial, trivial⟩⟩
              · have hq : (True) ∧ ((True) ∧ (((True) ∧ (decide ((IntKind.wrap .i64 ((((s.getD vat.toNat 0).toNat : Nat) : Int))) ≥ (240 : Int))) = false) ∧ ((True) ∧ ((True) ∧ (True))))) := ⟨trivial, ⟨trivial, ⟨⟨trivial, c28⟩, ⟨trivial, ⟨trivial, trivial⟩⟩⟩⟩⟩
                refine TS.reg [.none, .none, .dec false] ?_ ?_
                · apply prop_of ?_ hq
                  kernel_rfl
                refine XS.then ?_
                refine TS.no ?_ ?_
                · kernel_rfl
                refine TS.seq ?_
                have hq : (True) ∧ ((True) ∧ (True)) := ⟨trivial, ⟨trivial, trivial⟩⟩
                refine TS.reg [] ?_ ?_
                · apply prop_of ?_ hq
                  kernel_rfl
                refine XS.then ?_
                refine TS.ret ?_
                refine XS.blockRet ?_
                refine XS.passR ?_
                refine XS.passR ?_
                obtain rfl : ((65533 : Int), (1 : Int)) = r := Option.some.inj h
                exact XS.fin [] ((True) ∧ ((True) ∧ (True))) (by kernel_rfl) ⟨trivial, ⟨trivial, trivial⟩⟩
          · have hq : (True) ∧ ((True) ∧ (((True) ∧ (decide ((IntKind.wrap .i64 ((((s.getD vat.toNat 0).toNat : Nat) : Int))) ≥ (224 : Int))) = false) ∧ ((True) ∧ ((True) ∧ (True))))) := ⟨trivial, ⟨trivial, ⟨⟨trivial, c24⟩, ⟨trivial, ⟨trivial, trivial⟩⟩⟩⟩⟩
            refine TS.reg [.none, .none, .dec false] ?_ ?_
            · apply prop_of ?_ hq
              kernel_rfl
            refine XS.then ?_
            refine TS.no ?_ ?_
            · kernel_rfl
            refine TS.seq ?_
            rcases bif_some h with ⟨c31, h⟩ | ⟨c32, h⟩
            · have hq : (True) ∧ ((True) ∧ (((True) ∧ (decide ((IntKind.wrap .i64 ((((s.getD vat.toNat 0).toNat : Nat) : Int))) ≥ (240 : Int))) = true) ∧ ((True) ∧ ((True) ∧ ((True) ∧ ((True) ∧ (True))))))) := ⟨trivial, ⟨trivial, ⟨⟨trivial, c31⟩, ⟨trivial, ⟨trivial, ⟨trivial, ⟨trivial, trivial⟩⟩⟩⟩⟩⟩⟩
              refine TS.reg [.none, .none, .dec true] ?_ ?_
              · apply prop_of ?_ hq
                kernel_rfl
              refine XS.then ?_
              rcases bif_some h with ⟨c33, h⟩ | ⟨c34, h⟩
              · refine TS.cond (decide ((IntKind.wrap .i64 ((((s.getD vat.toNat 0).toNat : Nat) : Int))) < (248 : Int))) ?_ (fun hcz => ?_) (fun hcz => by rw [c33] at hcz; cases hcz)
                · kernel_rfl
                have hq : (True) ∧ ((True) ∧ ((True) ∧ ((True) ∧ ((True) ∧ (True))))) := ⟨trivial, ⟨trivial, ⟨trivial, ⟨trivial, ⟨trivial, trivial⟩⟩⟩⟩⟩
                refine TS.reg [] ?_ ?_
                · apply prop_of ?_ hq
                  kernel_rfl
                refine XS.blockEnd ?_
                refine XS.reAny [] (mkMask 96 [0, 1, 6, 7, 8]) ((IntKind.wrap .i64 ((IntKind.wrap .i64 ((((s.getD vat.toNat 0).toNat : Nat) : Int))) - (240 : Int))), (3 : Int), (65536 : Int)) h ?_
                kernel_rfl
              · refine TS.cond (decide ((IntKind.wrap .i64 ((((s.getD vat.toNat 0).toNat : Nat) : Int))) < (248 : Int))) ?_ (fun hcz => by rw [c34] at hcz; cases hcz) (fun hcz => ?_)
                · kernel_rfl
                refine TS.seq ?_
                have hq : (True) ∧ ((True) ∧ (True)) := ⟨trivial, ⟨trivial, trivial⟩⟩
                refine TS.reg [] ?_ ?_
                · apply prop_of ?_ hq
                  kernel_rfl
                refine XS.then ?_
                refine TS.ret ?_
                refine XS.blockRet ?_
                refine XS.passR ?_
                refine XS.passR ?_
                obtain rfl : ((65533 : Int), (1 : Int)) = r := Option.some.inj h
                exact XS.fin [] ((True) ∧ ((True) ∧ (True))) (by kernel_rfl) ⟨trivial, ⟨trivial, trivial⟩⟩
            · have hq : (True) ∧ ((True) ∧ (((True) ∧ (decide ((IntKind.wrap .i64 ((((s.getD vat.toNat 0).toNat : Nat) : Int))) ≥ (240 : Int))) = false) ∧ ((True) ∧ ((True) ∧ (True))))) := ⟨trivial, ⟨trivial, ⟨⟨trivial, c32⟩, ⟨trivial, ⟨trivial, trivial⟩⟩⟩⟩⟩
              refine TS.reg [.none, .none, .dec false] ?_ ?_
              · apply prop_of ?_ hq
                kernel_rfl
              refine XS.then ?_
              refine TS.no ?_ ?_
              · kernel_rfl
              refine TS.seq ?_
              have hq : (True) ∧ ((True) ∧ (True)) := ⟨trivial, ⟨trivial, trivial⟩⟩
              refine TS.reg [] ?_ ?_
              · apply prop_of ?_ hq
                kernel_rfl
              refine XS.then ?_
              refine TS.ret ?_
              refine XS.blockRet ?_
              refine XS.passR ?_
              refine XS.passR ?_
              obtain rfl : ((65533 : Int), (1 : Int)) = r := Option.some.inj h
              exact XS.fin [] ((True) ∧ ((True) ∧ (True))) (by kernel_rfl) ⟨trivial, ⟨trivial, trivial⟩⟩
      · have hq : (True) ∧ ((True) ∧ (((True) ∧ (decide ((IntKind.wrap .i64 ((((s.getD vat.toNat 0).toNat : Nat) : Int))) ≥ (192 : Int))) = false) ∧ ((True) ∧ ((True) ∧ (True))))) := ⟨trivial, ⟨trivial, ⟨⟨trivial, c20⟩, ⟨trivial, ⟨trivial, trivial⟩⟩⟩⟩⟩
        refine TS.reg [.none, .none, .dec false] ?_ ?_
        · apply prop_of ?_ hq
          kernel_rfl
        refine XS.then ?_
        refine TS.no ?_ ?_
        · kernel_rfl
        refine TS.seq ?_
        rcases bif_some h with ⟨c35, h⟩ | ⟨c36, h⟩
        · have hq : (True) ∧ ((True) ∧ (((True) ∧ (decide ((IntKind.wrap .i64 ((((s.getD vat.toNat 0).toNat : Nat) : Int))) ≥ (224 : Int))) = true) ∧ ((True) ∧ ((True) ∧ ((True) ∧ ((True) ∧ (True))))))) := ⟨trivial, ⟨trivial, ⟨⟨trivial, c35⟩, ⟨trivial, ⟨trivial, ⟨trivial, ⟨trivial, trivial⟩⟩⟩⟩⟩⟩⟩
          refine TS.reg [.none, .none, .dec true] ?_ ?_
          · apply prop_of ?_ hq
            kernel_rfl
          refine XS.then ?_
          rcases bif_some h with ⟨c37, h⟩ | ⟨c38, h⟩
          · refine TS.cond (decide ((IntKind.wrap .i64 ((((s.getD vat.toNat 0).toNat : Nat) : Int))) < (240 : Int))) ?_ (fun hcz => ?_) (fun hcz => by rw [c37] at hcz; cases hcz)
            · kernel_rfl
            have hq : (True) ∧ ((True) ∧ ((True) ∧ ((True) ∧ ((True) ∧ (True))))) := ⟨trivial, ⟨trivial, ⟨trivial, ⟨trivial, ⟨trivial, trivial⟩⟩⟩⟩⟩
            refine TS.reg [] ?_ ?_
            · apply prop_of ?_ hq
              kernel_rfl
            refine XS.blockEnd ?_
            refine XS.reAny [] (mkMask 96 [0, 1, 6, 7, 8]) ((IntKind.wrap .i64 ((IntKind.wrap .i64 ((((s.getD vat.toNat 0).toNat : Nat) : Int))) - (224 : Int))), (2 : Int), (2048 : Int)) h ?_
            kernel_rfl
          · refine TS.cond (decide ((IntKind.wrap .i64 ((((s.getD vat.toNat 0).toNat : Nat) : Int))) < (240 : Int))) ?_ (fun hcz => by rw [c38] at hcz; cases hcz) (fun hcz => ?_)
            · kernel_rfl
            refine TS.seq ?_
            rcases bif_some h with ⟨c39, h⟩ | ⟨c40, h⟩
            · have hq : (True) ∧ ((True) ∧ (((True) ∧ (decide ((IntKind.wrap .i64 ((((s.getD vat.toNat 0).toNat : Nat) : Int))) ≥ (240 : Int))) = true) ∧ ((True) ∧ ((True) ∧ ((True) ∧ ((True) ∧ (True))))))) := ⟨trivial, ⟨trivial, ⟨⟨trivial, c39⟩, ⟨trivial, ⟨trivial, ⟨trivial, ⟨trivial, trivial⟩⟩⟩⟩⟩⟩⟩
              refine TS.reg [.none, .none, .dec true] ?_ ?_
              · apply prop_of ?_ hq
                kernel_rfl
              refine XS.then ?_
              rcases bif_some h with ⟨c41, h⟩ | ⟨c42, h⟩
              · refine TS.cond (decide ((IntKind.wrap .i64 ((((s.getD vat.toNat 0).toNat : Nat) : Int))) < (248 : Int))) ?_ (fun hcz => ?_) (fun hcz => by rw [c41] at hcz; cases hcz)
                · kernel_rfl
                have hq : (True) ∧ ((True) ∧ ((True) ∧ ((True) ∧ ((True) ∧ (True))))) := ⟨trivial, ⟨trivial, ⟨trivial, ⟨trivial, ⟨trivial, trivial⟩⟩⟩⟩⟩
                refine TS.reg [] ?_ ?_
                · apply prop_of ?_ hq
                  kernel_rfl
                refine XS.blockEnd ?_
                refine XS.reAny [] (mkMask 96 [0, 1, 6, 7, 8]) ((IntKind.wrap .i64 ((IntKind.wrap .i64 ((((s.getD vat.toNat 0).toNat : Nat) : Int))) - (240 : Int))), (3 : Int), (65536 : Int)) h ?_
                kernel_rfl
              · refine TS.cond (decide ((IntKind.wrap .i64 ((((s.getD vat.toNat 0).toNat : Nat) : Int))) < (248 : Int))) ?_ (fun hcz => by rw [c42] at hcz; cases hcz) (fun hcz => ?_)
                · kernel_rfl
                refine TS.seq ?_
                have hq : (True) ∧ ((True) ∧ (True)) := ⟨trivial, ⟨trivial, trivial⟩⟩
                refine TS.reg [] ?_ ?_
                · apply prop_of ?_ hq
                  kernel_rfl
                refine XS.then ?_
                refine TS.ret ?_
                refine XS.blockRet ?_
                refine XS.passR ?_
                refine XS.passR ?_
                obtain rfl : ((65533 : Int), (1 : Int)) = r := Option.some.inj h
                exact XS.fin [] ((True) ∧ ((True) ∧ (True))) (by kernel_rfl) ⟨trivial, ⟨trivial, trivial⟩⟩
            · have hq : (True) ∧ ((True) ∧ (((True) ∧ (decide ((IntKind.wrap .i64 ((((s.getD vat.toNat 0).toNat : Nat) : Int))) ≥ (240 : Int))) = false) ∧ ((True) ∧ ((True) ∧ (True))))) := ⟨trivial, ⟨trivial, ⟨⟨trivial, c40⟩, ⟨trivial, ⟨trivial, trivial⟩⟩⟩⟩⟩
              refine TS.reg [.none, .none, .dec false] ?_ ?_
              · apply prop_of ?_ hq
                kernel_rfl
              refine XS.then ?_
              refine TS.no ?_ ?_
              · kernel_rfl
              refine TS.seq ?_
              have hq : (True) ∧ ((True) ∧ (True)) := ⟨trivial, ⟨trivial, trivial⟩⟩
              refine TS.reg [] ?_ ?_
              · apply prop_of ?_ hq
                kernel_rfl
              refine XS.then ?_
              refine TS.ret ?_
              refine XS.blockRet ?_
              refine XS.passR ?_
              refine XS.passR ?_
              obtain rfl : ((65533 : Int), (1 : Int)) = r := Option.some.inj h
              exact XS.fin [] ((True) ∧ ((True) ∧ (True))) (by kernel_rfl) ⟨trivial, ⟨trivial, trivial⟩⟩
        · have hq : (True) ∧ ((True) ∧ (((True) ∧ (decide ((IntKind.wrap .i64 ((((s.getD vat.toNat 0).toNat : Nat) : Int))) ≥ (224 : Int))) = false) ∧ ((True) ∧ ((True) ∧ (True))))) := ⟨trivial, ⟨trivial, ⟨⟨trivial, c36⟩, ⟨trivial, ⟨trivial, trivial⟩⟩⟩⟩⟩
          refine TS.reg [.none, .none, .dec false] ?_ ?_
          · apply prop_of ?_ hq
            kernel_rfl
          refine XS.then ?_
          refine TS.no ?_ ?_
          · kernel_rfl
          refine TS.seq ?_
          rcases bif_some h with ⟨c43, h⟩ | ⟨c44, h⟩
          · have hq : (True) ∧ ((True) ∧ (((True) ∧ (decide ((IntKind.wrap .i64 ((((s.getD vat.toNat 0).toNat : Nat) : Int))) ≥ (240 : Int))) = true) ∧ ((True) ∧ ((True) ∧ ((True) ∧ ((True) ∧ (True))))))) := ⟨trivial, ⟨trivial, ⟨⟨trivial, c43⟩, ⟨trivial, ⟨trivial, ⟨trivial, ⟨trivial, trivial⟩⟩⟩⟩⟩⟩⟩
            refine TS.reg [.none, .none, .dec true] ?_ ?_
            · apply prop_of ?_ hq
              kernel_rfl
            refine XS.then ?_
            rcases bif_some h with ⟨c45, h⟩ | ⟨c46, h⟩
            · refine TS.cond (decide ((IntKind.wrap .i64 ((((s.getD vat.toNat 0).toNat : Nat) : Int))) < (248 : Int))) ?_ (fun hcz => ?_) (fun hcz => by rw [c45] at hcz; cases hcz)
              · kernel_rfl
              have hq : (True) ∧ ((True) ∧ ((True) ∧ ((True) ∧ ((True) ∧ (True))))) := ⟨trivial, ⟨trivial, ⟨trivial, ⟨trivial, ⟨trivial, trivial⟩⟩⟩⟩⟩
              refine TS.reg [] ?_ ?_
              · apply prop_of ?_ hq
                kernel_rfl
              refine XS.blockEnd ?_
              refine XS.reAny [] (mkMask 96 [0, 1, 6, 7, 8]) ((IntKind.wrap .i64 ((IntKind.wrap .i64 ((((s.getD vat.toNat 0).toNat : Nat) : Int))) - (240 : Int))), (3 : Int), (65536 : Int)) h ?_
              kernel_rfl
            · refine TS.cond (decide ((IntKind.wrap .i64 ((((s.getD vat.toNat 0).toNat : Nat) : Int))) < (248 : Int))) ?_ (fun hcz => by rw [c46] at hcz; cases hcz) (fun hcz => ?_)
              · kernel_rfl
              refine TS.seq ?_
              have hq : (True) ∧ ((True) ∧ (True)) := ⟨trivial, ⟨trivial, trivial⟩⟩
              refine TS.reg [] ?_ ?_
              · apply prop_of ?_ hq
                kernel_rfl
              refine XS.then ?_
              refine TS.ret ?_
              refine XS.blockRet ?_
              refine XS.passR ?_
              refine XS.passR ?_
              obtain rfl : ((65533 : Int), (1 : Int)) = r := Option.some.inj h
              exact XS.fin [] ((True) ∧ ((True) ∧ (True))) (by kernel_rfl) ⟨trivial, ⟨trivial, trivial⟩⟩
          · have hq : (True) ∧ ((True) ∧ (((True) ∧ (decide ((IntKind.wrap .i64 ((((s.getD vat.toNat 0).toNat : Nat) : Int))) ≥ (240 : Int))) = false) ∧ ((True) ∧ ((True) ∧ (True))))) := ⟨trivial, ⟨trivial, ⟨⟨trivial, c44⟩, ⟨trivial, ⟨trivial, trivial⟩⟩⟩⟩⟩
            refine TS.reg [.none, .none, .dec false] ?_ ?_
            · apply prop_of ?_ hq
              kernel_rfl
            refine XS.then ?_
            refine TS.no ?_ ?_
            · kernel_rfl
            refine TS.seq ?_
            have hq : (True) ∧ ((True) ∧ (True)) := ⟨trivial, ⟨trivial, trivial⟩⟩
            refine TS.reg [] ?_ ?_
            · apply prop_of ?_ hq
              kernel_rfl
            refine XS.then ?_
            refine TS.ret ?_
            refine XS.blockRet ?_
            refine XS.passR ?_
            refine XS.passR ?_
            obtain rfl : ((65533 : Int), (1 : Int)) = r := Option.some.inj h
            exact XS.fin [] ((True) ∧ ((True) ∧ (True))) (by kernel_rfl) ⟨trivial, ⟨trivial, trivial⟩⟩

/-! plugtree/plugref.Runes -/
def F68_l2 (n : Nat) (s : List UInt8) (k68_2 : (Int × (List Int)) → Option (List Int)) : (Int × (List Int)) → Option (List Int)
  | (vat, m0) => (bif (decide (vat < ((s.length : Nat) : Int))) then ((F78 n s vat).bind fun y_2 => (bif (decide (m0.length + [y_2.1].length ≤ 17592186044416)) then (k68_2 ((IntKind.wrap .i64 (vat + y_2.2)), (m0 ++ [y_2.1]))) else none)) else (some m0))
def F68 (n : Nat) (s : List UInt8) : Option (List Int) := (loopF (F68_l2 n s) n ((0 : Int), ([] : List Int)))
theorem F68_ok (n : Nat) (s : List UInt8) (r : List Int) (h : F68 n s = some r) : PureC Try.prog 68 [(.str s)] (.row 0) [(.row 3 (.int .i64) r)] := by
  refine PureC.mkS Try.func68 rfl rfl ?_
  intro w0 fz0 hfz
  replace h : (loopF (F68_l2 n s) n ((0 : Int), ([] : List Int))) = some r := h
  refine TS.seq ?_
  have hq : (True) ∧ (True) := ⟨trivial, trivial⟩
  refine TS.reg [] ?_ ?_
  · apply prop_of ?_ hq
    kernel_rfl
  refine XS.then ?_
  refine TS.seq ?_
  have hq : (True) ∧ (True) := ⟨trivial, trivial⟩
  refine TS.reg [] ?_ ?_
  · apply prop_of ?_ hq
    kernel_rfl
  refine XS.then ?_
  refine TS.seq ?_
  refine TS.seq ?_
  have hq : (True) ∧ (True) := ⟨trivial, trivial⟩
  refine TS.reg [] ?_ ?_
  · apply prop_of ?_ hq
    kernel_rfl
  refine XS.then ?_
  refine TS.block ?_
  refine TS.wk (.row false 3 [] 3 (.int .i64)) ?_
  refine TS.reLoop [0] (mkMask 25 [0, 3, 4]) (D := Int × (List Int)) (fun d => match d with | (vat, m0) => (mkTs 25 [(0, (.str s)), (3, (.row 0)), (4, (.int .i64 vat))], [(.row 3 (.int .i64) m0)])) (fun n' d => loopF (F68_l2 n s) n' d = some r) n ((0 : Int), ([] : List Int)) h ?_ (fun d => loopF_zero _ d r) ?_
  · kernel_rfl
  · rintro n2 ⟨vat, m0⟩ h
    replace h : (bif (decide (vat < ((s.length : Nat) : Int))) then ((F78 n s vat).bind fun y_2 => (bif (decide (m0.length + [y_2.1].length ≤ 17592186044416)) then ((loopF (F68_l2 n s) n2) ((IntKind.wrap .i64 (vat + y_2.2)), (m0 ++ [y_2.1]))) else none)) else (some m0)) = some r := h
    refine TS.seq ?_
    refine TS.seq ?_
    have hq : (True) ∧ ((True) ∧ ((True) ∧ ((True) ∧ (True)))) := ⟨trivial, ⟨trivial, ⟨trivial, ⟨trivial, trivial⟩⟩⟩⟩
    refine TS.reg [] ?_ ?_
    · apply prop_of ?_ hq
      kernel_rfl
    refine XS.then ?_
    rcases bif_some h with ⟨c1, h⟩ | ⟨c2, h⟩
    · refine TS.cond (decide (vat < ((s.length : Nat) : Int))) ?_ (fun hcz => ?_) (fun hcz => by rw [c1] at hcz; cases hcz)
      · kernel_rfl
      refine TS.skip ?_
      refine XS.then ?_
      refine TS.block ?_
      refine TS.seq ?_
      obtain ⟨y_2, hx3, h⟩ := bind_some' h
      have hq : (True) ∧ ((True) ∧ ((PureC Try.prog 78 [(.str s), (.int .i64 vat)] (.tup (.cons (.int .i64 y_2.1) (.cons (.int .i64 y_2.2) .nil))) []) ∧ ((True) ∧ ((True) ∧ ((True) ∧ ((True) ∧ ((True) ∧ (True)))))))) := ⟨trivial, ⟨trivial, ⟨F78_ok n s vat y_2 hx3, ⟨trivial, ⟨trivial, ⟨trivial, ⟨trivial, ⟨trivial, trivial⟩⟩⟩⟩⟩⟩⟩⟩
      refine TS.reg [.none, .none, (.call (.tup (.cons (.int .i64 y_2.1) (.cons (.int .i64 y_2.2) .nil))) [])] ?_ ?_
      · apply prop_of ?_ hq
        kernel_rfl
      refine XS.then ?_
      refine TS.seq ?_
      obtain ⟨t4, h⟩ := test_some h
      have hq : (True) ∧ ((True) ∧ (((0 < 1 ∧ True) ∧ (True)) ∧ ((m0.length + [y_2.1].length ≤ 17592186044416) ∧ ((True) ∧ (True))))) := ⟨trivial, ⟨trivial, ⟨⟨⟨by decide, trivial⟩, trivial⟩, ⟨of_decide_eq_true t4, ⟨trivial, trivial⟩⟩⟩⟩⟩
      refine TS.reg [] ?_ ?_
      · apply prop_of ?_ hq
        kernel_rfl
      refine XS.then ?_
      have hq : (True) ∧ ((True) ∧ ((True) ∧ ((True) ∧ (True)))) := ⟨trivial, ⟨trivial, ⟨trivial, ⟨trivial, trivial⟩⟩⟩⟩
      refine TS.reg [] ?_ ?_
      · apply prop_of ?_ hq
        kernel_rfl
      refine XS.blockEnd ?_
      refine XS.reAny [2] (mkMask 25 [0, 3, 4]) ((IntKind.wrap .i64 (vat + y_2.2)), (m0 ++ [y_2.1])) h ?_
      kernel_rfl
    · refine TS.cond (decide (vat < ((s.length : Nat) : Int))) ?_ (fun hcz => by rw [c2] at hcz; cases hcz) (fun hcz => ?_)
      · kernel_rfl
      refine TS.exit ?_
      refine XS.passE ?_
      refine XS.passE ?_
      refine XS.out ?_
      refine XS.then ?_
      refine TS.seq ?_
      have hq : (True) ∧ ((True) ∧ (True)) := ⟨trivial, ⟨trivial, trivial⟩⟩
      refine TS.reg [] ?_ ?_
      · apply prop_of ?_ hq
        kernel_rfl
      refine XS.then ?_
      refine TS.ret ?_
      obtain rfl : m0 = r := Option.some.inj h
      exact XS.fin [0] ((True) ∧ (True)) (by kernel_rfl) ⟨trivial, trivial⟩

/-! plugtree/plugref.Wide -/
def F55_j14 (n : Nat) (k55_12 : ((List UInt8) × Int × Int) → Option ((List UInt8) × Int)) (x : Int) (vn_2 : Int) : ((List UInt8) × Int) → Option ((List UInt8) × Int)
  | (vout_2, c) => ((F23 n c).bind fun y_4 => (bif (decide (vout_2.length + y_4.length ≤ 9223372036854775807)) then (k55_12 ((vout_2 ++ y_4), vn_2, (IntKind.wrap .i64 (x + (1 : Int))))) else none))
def F55_j13 (n : Nat) (k55_12 : ((List UInt8) × Int × Int) → Option ((List UInt8) × Int)) (y_3 : List Int) (vout : List UInt8) (x : Int) : Int → Option ((List UInt8) × Int)
  | vn_2 => (bif (decide (vn_2 > (126 : Int))) then (some (([] : List UInt8), (2 : Int))) else (bif (decide ((y_3.getD x.toNat (0 : Int)) > (65535 : Int))) then ((F23 n (IntKind.wrap .i64 ((55296 : Int) + (IntKind.wrap .i64 ((IntKind.wrap .i64 ((y_3.getD x.toNat (0 : Int)) - (65536 : Int))).tdiv (1024 : Int)))))).bind fun y_5 => (bif (decide (vout.length + y_5.length ≤ 9223372036854775807)) then (F55_j14 n k55_12 x vn_2 ((vout ++ y_5), (IntKind.wrap .i64 ((56320 : Int) + ((IntKind.wrap .i64 ((y_3.getD x.toNat (0 : Int)) - (65536 : Int))).tmod (1024 : Int)))))) else none)) else (F55_j14 n k55_12 x vn_2 (vout, (y_3.getD x.toNat (0 : Int))))))
def F55_l12 (n : Nat) (y_3 : List Int) (k55_12 : ((List UInt8) × Int × Int) → Option ((List UInt8) × Int)) : ((List UInt8) × Int × Int) → Option ((List UInt8) × Int)
  | (vout, vn, x) => (bif (decide (x < ((y_3.length : Nat) : Int))) then (bif inb x y_3.length then (bif (decide ((y_3.getD x.toNat (0 : Int)) > (65535 : Int))) then (F55_j13 n k55_12 y_3 vout x (IntKind.wrap .i64 ((IntKind.wrap .i64 (vn + (1 : Int))) + (1 : Int)))) else (F55_j13 n k55_12 y_3 vout x (IntKind.wrap .i64 (vn + (1 : Int))))) else none) else (some (vout, (0 : Int))))
def F55 (n : Nat) (s : List UInt8) : Option ((List UInt8) × Int) := ((F68 n s).bind fun y_3 => (loopF (F55_l12 n y_3) n (([] : List UInt8), (0 : Int), (0 : Int))))
theorem F55_ok (n : Nat) (s : List UInt8) (r : (List UInt8) × Int) (h : F55 n s = some r) : PureC Try.prog 55 [(.str s)] (.tup (.cons (.str r.1) (.cons (.int .i64 r.2) .nil))) [] := by
  refine PureC.mkS Try.func55 rfl rfl ?_
  intro w0 fz0 hfz
  replace h : ((F68 n s).bind fun y_3 => (loopF (F55_l12 n y_3) n (([] : List UInt8), (0 : Int), (0 : Int)))) = some r := h
  refine TS.seq ?_
  have hq : (True) ∧ ((True) ∧ (True)) := ⟨trivial, ⟨trivial, trivial⟩⟩
  refine TS.reg [] ?_ ?_
  · apply prop_of ?_ hq
    kernel_rfl
  refine XS.then ?_
  refine TS.seq ?_
  have hq : (True) ∧ ((True) ∧ (True)) := ⟨trivial, ⟨trivial, trivial⟩⟩
  refine TS.reg [] ?_ ?_
  · apply prop_of ?_ hq
    kernel_rfl
  refine XS.then ?_
  refine TS.seq ?_
  refine TS.seq ?_
  obtain ⟨y_3, hx1, h⟩ := bind_some' h
  have hq : (True) ∧ ((PureC Try.prog 68 [(.str s)] (.row 0) [(.row 3 (.int .i64) y_3)]) ∧ ((True) ∧ ((True) ∧ (True)))) := ⟨trivial, ⟨F68_ok n s y_3 hx1, ⟨trivial, ⟨trivial, trivial⟩⟩⟩⟩
  refine TS.reg [.none, (.call (.row 0) [(.row 3 (.int .i64) y_3)])] ?_ ?_
  · apply prop_of ?_ hq
    kernel_rfl
  refine XS.then ?_
  refine TS.block ?_
  refine TS.reLoop [0] (mkMask 42 [4, 5, 9, 10, 11]) (D := (List UInt8) × Int × Int) (fun d => match d with | (vout, vn, x) => (mkTs 42 [(4, (.str vout)), (5, (.int .i64 vn)), (9, (.row 0)), (10, (.int .i64 ((y_3.length : Nat) : Int))), (11, (.int .i64 x))], [(.row 3 (.int .i64) y_3)])) (fun n' d => loopF (F55_l12 n y_3) n' d = some r) n (([] : List UInt8), (0 : Int), (0 : Int)) h ?_ (fun d => loopF_zero _ d r) ?_
  · kernel_rfl
  · rintro n12 ⟨vout, vn, x⟩ h
    replace h : (bif (decide (x < ((y_3.length : Nat) : Int))) then (bif inb x y_3.length then (bif (decide ((y_3.getD x.toNat (0 : Int)) > (65535 : Int))) then (F55_j13 n (loopF (F55_l12 n y_3) n12) y_3 vout x (IntKind.wrap .i64 ((IntKind.wrap .i64 (vn + (1 : Int))) + (1 : Int)))) else (F55_j13 n (loopF (F55_l12 n y_3) n12) y_3 vout x (IntKind.wrap .i64 (vn + (1 : Int))))) else none) else (some (vout, (0 : Int)))) = some r := h
    refine TS.seq ?_
    have hq : (True) ∧ (True) := ⟨trivial, trivial⟩
    refine TS.reg [] ?_ ?_
    · apply prop_of ?_ hq
      kernel_rfl
    refine XS.then ?_
    refine TS.seq ?_
    rcases bif_some h with ⟨c2, h⟩ | ⟨c3, h⟩
    · refine TS.cond (decide (x < ((y_3.length : Nat) : Int))) ?_ (fun hcz => ?_) (fun hcz => by rw [c2] at hcz; cases hcz)
      · kernel_rfl
      refine TS.skip ?_
      refine XS.then ?_
      refine TS.seq ?_
      refine TS.block ?_
      refine TS.seq ?_
      obtain ⟨t4, h⟩ := test_some h
      have hq : (inR x y_3.length) ∧ ((x.toNat < y_3.length ∧ (True)) ∧ ((True) ∧ (True))) := ⟨inb_ok t4, ⟨⟨inR_lt (inb_ok t4), trivial⟩, ⟨trivial, trivial⟩⟩⟩
      refine TS.reg [] ?_ ?_
      · apply prop_of ?_ hq
        kernel_rfl
      refine XS.then ?_
      refine TS.seq ?_
      refine TS.seq ?_
      have hq : (True) ∧ ((True) ∧ ((True) ∧ (True))) := ⟨trivial, ⟨trivial, ⟨trivial, trivial⟩⟩⟩
      refine TS.reg [] ?_ ?_
      · apply prop_of ?_ hq
        kernel_rfl
      refine XS.then ?_
      refine TS.seq ?_
      have hq : (True) ∧ ((True) ∧ (True)) := ⟨trivial, ⟨trivial, trivial⟩⟩
      refine TS.reg [] ?_ ?_
      · apply prop_of ?_ hq
        kernel_rfl
      refine XS.then ?_
      refine TS.cut (D := Int) (fun d => match d with | vn_2 => (mkTs 42 [(4, (.str vout)), (5, (.int .i64 vn_2)), (7, (.int .i64 (y_3.getD x.toNat (0 : Int)))), (9, (.row 0)), (10, (.int .i64 ((y_3.length : Nat) : Int))), (11, (.int .i64 x))], [(.row 3 (.int .i64) y_3)])) (fun d => F55_j13 n (loopF (F55_l12 n y_3) n12) y_3 vout x d = some r) ?_ ?_
      · rintro vn_2 h
        replace h : (bif (decide (vn_2 > (126 : Int))) then (some (([] : List UInt8), (2 : Int))) else (bif (decide ((y_3.getD x.toNat (0 : Int)) > (65535 : Int))) then ((F23 n (IntKind.wrap .i64 ((55296 : Int) + (IntKind.wrap .i64 ((IntKind.wrap .i64 ((y_3.getD x.toNat (0 : Int)) - (65536 : Int))).tdiv (1024 : Int)))))).bind fun y_5 => (bif (decide (vout.length + y_5.length ≤ 9223372036854775807)) then (F55_j14 n (loopF (F55_l12 n y_3) n12) x vn_2 ((vout ++ y_5), (IntKind.wrap .i64 ((56320 : Int) + ((IntKind.wrap .i64 ((y_3.getD x.toNat (0 : Int)) - (65536 : Int))).tmod (1024 : Int)))))) else none)) else (F55_j14 n (loopF (F55_l12 n y_3) n12) x vn_2 (vout, (y_3.getD x.toNat (0 : Int)))))) = some r := h
        refine XS.then ?_
        refine TS.seq ?_
        refine TS.seq ?_
        have hq : (True) ∧ ((True) ∧ (True)) := ⟨trivial, ⟨trivial, trivial⟩⟩
        refine TS.reg [] ?_ ?_
        · apply prop_of ?_ hq
          kernel_rfl
        refine XS.then ?_
        rcases bif_some h with ⟨c5, h⟩ | ⟨c6, h⟩
        · refine TS.cond (decide (vn_2 > (126 : Int))) ?_ (fun hcz => ?_) (fun hcz => by rw [c5] at hcz; cases hcz)
          · kernel_rfl
          refine TS.seq ?_
          have hq : (True) ∧ ((True) ∧ (True)) := ⟨trivial, ⟨trivial, trivial⟩⟩
          refine TS.reg [] ?_ ?_
          · apply prop_of ?_ hq
            kernel_rfl
          refine XS.then ?_
          refine TS.ret ?_
          refine XS.passR ?_
          refine XS.blockRet ?_
          refine XS.passR ?_
          refine XS.passR ?_
          refine XS.blockRet ?_
          refine XS.passR ?_
          obtain rfl : (([] : List UInt8), (2 : Int)) = r := Option.some.inj h
          exact XS.fin [] ((True) ∧ ((True) ∧ (True))) (by kernel_rfl) ⟨trivial, ⟨trivial, trivial⟩⟩
        · refine TS.cond (decide (vn_2 > (126 : Int))) ?_ (fun hcz => by rw [c6] at hcz; cases hcz) (fun hcz => ?_)
          · kernel_rfl
          refine TS.skip ?_
          refine XS.then ?_
          refine TS.seq ?_
          refine TS.seq ?_
          have hq : (True) ∧ ((True) ∧ (True)) := ⟨trivial, ⟨trivial, trivial⟩⟩
          refine TS.reg [] ?_ ?_
          · apply prop_of ?_ hq
            kernel_rfl
          refine XS.then ?_
          refine TS.cut (D := (List UInt8) × Int) (fun d => match d with | (vout_2, c) => (mkTs 42 [(4, (.str vout_2)), (5, (.int .i64 vn_2)), (7, (.int .i64 c)), (9, (.row 0)), (10, (.int .i64 ((y_3.length : Nat) : Int))), (11, (.int .i64 x))], [(.row 3 (.int .i64) y_3)])) (fun d => F55_j14 n (loopF (F55_l12 n y_3) n12) x vn_2 d = some r) ?_ ?_
          · rintro ⟨vout_2, c⟩ h
            replace h : ((F23 n c).bind fun y_4 => (bif (decide (vout_2.length + y_4.length ≤ 9223372036854775807)) then ((loopF (F55_l12 n y_3) n12) ((vout_2 ++ y_4), vn_2, (IntKind.wrap .i64 (x + (1 : Int))))) else none)) = some r := h
            refine XS.then ?_
            obtain ⟨y_4, hx7, h⟩ := bind_some' h
            obtain ⟨t8, h⟩ := test_some h
            have hq : (True) ∧ ((True) ∧ ((PureC Try.prog 23 [(.int .i64 c)] (.str y_4) []) ∧ ((vout_2.length + y_4.length ≤ 9223372036854775807) ∧ ((True) ∧ (True))))) := ⟨trivial, ⟨trivial, ⟨F23_ok n c y_4 hx7, ⟨of_decide_eq_true t8, ⟨trivial, trivial⟩⟩⟩⟩⟩
            refine TS.reg [.none, .none, (.call (.str y_4) [])] ?_ ?_
            · apply prop_of ?_ hq
              kernel_rfl
            refine XS.blockEnd ?_
            refine XS.then ?_
            have hq : (True) ∧ ((True) ∧ (True)) := ⟨trivial, ⟨trivial, trivial⟩⟩
            refine TS.reg [] ?_ ?_
            · apply prop_of ?_ hq
              kernel_rfl
            refine XS.reAny [0] (mkMask 42 [4, 5, 9, 10, 11]) ((vout_2 ++ y_4), vn_2, (IntKind.wrap .i64 (x + (1 : Int)))) h ?_
            kernel_rfl
          · rcases bif_some h with ⟨c9, h⟩ | ⟨c10, h⟩
            · refine TS.cond (decide ((y_3.getD x.toNat (0 : Int)) > (65535 : Int))) ?_ (fun hcz => ?_) (fun hcz => by rw [c9] at hcz; cases hcz)
              · kernel_rfl
              refine TS.seq ?_
              obtain ⟨y_5, hx11, h⟩ := bind_some' h
              obtain ⟨t12, h⟩ := test_some h
              have hq : (True) ∧ ((True) ∧ ((True) ∧ (((1024 : Int) ≠ 0) ∧ ((True) ∧ ((PureC Try.prog 23 [(.int .i64 (IntKind.wrap .i64 ((55296 : Int) + (IntKind.wrap .i64 ((IntKind.wrap .i64 ((y_3.getD x.toNat (0 : Int)) - (65536 : Int))).tdiv (1024 : Int))))))] (.str y_5) []) ∧ ((vout.length + y_5.length ≤ 9223372036854775807) ∧ ((True) ∧ (True)))))))) := ⟨trivial, ⟨trivial, ⟨trivial, ⟨by decide, ⟨trivial, ⟨F23_ok n (IntKind.wrap .i64 ((55296 : Int) + (IntKind.wrap .i64 ((IntKind.wrap .i64 ((y_3.getD x.toNat (0 : Int)) - (65536 : Int))).tdiv (1024 : Int))))) y_5 hx11, ⟨of_decide_eq_true t12, ⟨trivial, trivial⟩⟩⟩⟩⟩⟩⟩⟩
              refine TS.reg [.none, .none, .none, .none, .none, (.call (.str y_5) [])] ?_ ?_
              · apply prop_of ?_ hq
                kernel_rfl
              refine XS.then ?_
              have hq : (True) ∧ ((True) ∧ (((1024 : Int) ≠ 0) ∧ ((True) ∧ ((True) ∧ (True))))) := ⟨trivial, ⟨trivial, ⟨by decide, ⟨trivial, ⟨trivial, trivial⟩⟩⟩⟩⟩
              refine TS.reg [] ?_ ?_
              · apply prop_of ?_ hq
                kernel_rfl
              refine XS.reAny [0] (mkMask 42 [4, 5, 7, 9, 10, 11]) ((vout ++ y_5), (IntKind.wrap .i64 ((56320 : Int) + ((IntKind.wrap .i64 ((y_3.getD x.toNat (0 : Int)) - (65536 : Int))).tmod (1024 : Int))))) h ?_
              kernel_rfl
            · refine TS.cond (decide ((y_3.getD x.toNat (0 : Int)) > (65535 : Int))) ?_ (fun hcz => by rw [c10] at hcz; cases hcz) (fun hcz => ?_)
              · kernel_rfl
              refine TS.skip ?_
              refine XS.reAny [0] (mkMask 42 [4, 5, 7, 9, 10, 11]) (vout, (y_3.getD x.toNat (0 : Int))) h ?_
              kernel_rfl
      · rcases bif_some h with ⟨c13, h⟩ | ⟨c14, h⟩
        · refine TS.cond (decide ((y_3.getD x.toNat (0 : Int)) > (65535 : Int))) ?_ (fun hcz => ?_) (fun hcz => by rw [c13] at hcz; cases hcz)
          · kernel_rfl
          have hq : (True) ∧ ((True) ∧ ((True) ∧ (True))) := ⟨trivial, ⟨trivial, ⟨trivial, trivial⟩⟩⟩
          refine TS.reg [] ?_ ?_
          · apply prop_of ?_ hq
            kernel_rfl
          refine XS.reAny [0] (mkMask 42 [4, 5, 7, 9, 10, 11]) (IntKind.wrap .i64 ((IntKind.wrap .i64 (vn + (1 : Int))) + (1 : Int))) h ?_
          kernel_rfl
        · refine TS.cond (decide ((y_3.getD x.toNat (0 : Int)) > (65535 : Int))) ?_ (fun hcz => by rw [c14] at hcz; cases hcz) (fun hcz => ?_)
          · kernel_rfl
          refine TS.skip ?_
          refine XS.reAny [0] (mkMask 42 [4, 5, 7, 9, 10, 11]) (IntKind.wrap .i64 (vn + (1 : Int))) h ?_
          kernel_rfl
    · refine TS.cond (decide (x < ((y_3.length : Nat) : Int))) ?_ (fun hcz => by rw [c3] at hcz; cases hcz) (fun hcz => ?_)
      · kernel_rfl
      refine TS.exit ?_
      refine XS.passE ?_
      refine XS.passE ?_
      refine XS.out ?_
      refine XS.then ?_
      refine TS.seq ?_
      have hq : (True) ∧ ((True) ∧ ((True) ∧ (True))) := ⟨trivial, ⟨trivial, ⟨trivial, trivial⟩⟩⟩
      refine TS.reg [] ?_ ?_
      · apply prop_of ?_ hq
        kernel_rfl
      refine XS.then ?_
      refine TS.ret ?_
      obtain rfl : (vout, (0 : Int)) = r := Option.some.inj h
      exact XS.fin [] ((True) ∧ ((True) ∧ (True))) (by kernel_rfl) ⟨trivial, ⟨trivial, trivial⟩⟩

/-! plugtree/plugref.TextText -/
def F35 (n : Nat) (s : List UInt8) : Option ((List UInt8) × Int) := ((F55 n s).bind fun y_3 => (bif (y_3.2 != (0 : Int)) then (some (([] : List UInt8), y_3.2)) else ((F21 n [(IntKind.wrap .i64 (((y_3.1.length : Nat) : Int) + (2 : Int))), (3 : Int)]).bind fun y_4 => (bif (decide (y_4.1.length + y_3.1.length ≤ 9223372036854775807)) then (some ((y_4.1 ++ y_3.1), (0 : Int))) else none))))
theorem F35_ok (n : Nat) (s : List UInt8) (r : (List UInt8) × Int) (h : F35 n s = some r) : PureC Try.prog 35 [(.str s)] (.tup (.cons (.str r.1) (.cons (.int .i64 r.2) .nil))) [] := by
  refine PureC.mkS Try.func35 rfl rfl ?_
  intro w0 fz0 hfz
  replace h : ((F55 n s).bind fun y_3 => (bif (y_3.2 != (0 : Int)) then (some (([] : List UInt8), y_3.2)) else ((F21 n [(IntKind.wrap .i64 (((y_3.1.length : Nat) : Int) + (2 : Int))), (3 : Int)]).bind fun y_4 => (bif (decide (y_4.1.length + y_3.1.length ≤ 9223372036854775807)) then (some ((y_4.1 ++ y_3.1), (0 : Int))) else none)))) = some r := h
  refine TS.seq ?_
  have hq : (True) ∧ ((True) ∧ (True)) := ⟨trivial, ⟨trivial, trivial⟩⟩
  refine TS.reg [] ?_ ?_
  · apply prop_of ?_ hq
    kernel_rfl
  refine XS.then ?_
  refine TS.seq ?_
  obtain ⟨y_3, hx1, h⟩ := bind_some' h
  have hq : (True) ∧ ((PureC Try.prog 55 [(.str s)] (.tup (.cons (.str y_3.1) (.cons (.int .i64 y_3.2) .nil))) []) ∧ ((True) ∧ ((True) ∧ ((True) ∧ ((True) ∧ ((True) ∧ (True))))))) := ⟨trivial, ⟨F55_ok n s y_3 hx1, ⟨trivial, ⟨trivial, ⟨trivial, ⟨trivial, ⟨trivial, trivial⟩⟩⟩⟩⟩⟩⟩
  refine TS.reg [.none, (.call (.tup (.cons (.str y_3.1) (.cons (.int .i64 y_3.2) .nil))) [])] ?_ ?_
  · apply prop_of ?_ hq
    kernel_rfl
  refine XS.then ?_
  refine TS.seq ?_
  refine TS.seq ?_
  have hq : (True) ∧ ((True) ∧ (True)) := ⟨trivial, ⟨trivial, trivial⟩⟩
  refine TS.reg [] ?_ ?_
  · apply prop_of ?_ hq
    kernel_rfl
  refine XS.then ?_
  rcases bif_some h with ⟨c2, h⟩ | ⟨c3, h⟩
  · refine TS.cond (y_3.2 != (0 : Int)) ?_ (fun hcz => ?_) (fun hcz => by rw [c2] at hcz; cases hcz)
    · kernel_rfl
    refine TS.seq ?_
    have hq : (True) ∧ ((True) ∧ ((True) ∧ (True))) := ⟨trivial, ⟨trivial, ⟨trivial, trivial⟩⟩⟩
    refine TS.reg [] ?_ ?_
    · apply prop_of ?_ hq
      kernel_rfl
    refine XS.then ?_
    refine TS.ret ?_
    refine XS.passR ?_
    obtain rfl : (([] : List UInt8), y_3.2) = r := Option.some.inj h
    exact XS.fin [] ((True) ∧ ((True) ∧ (True))) (by kernel_rfl) ⟨trivial, ⟨trivial, trivial⟩⟩
  · refine TS.cond (y_3.2 != (0 : Int)) ?_ (fun hcz => by rw [c3] at hcz; cases hcz) (fun hcz => ?_)
    · kernel_rfl
    refine TS.skip ?_
    refine XS.then ?_
    refine TS.seq ?_
    obtain ⟨y_4, hx4, h⟩ := bind_some' h
    have hq : (True) ∧ ((True) ∧ ((True) ∧ (((0 < 2 ∧ True) ∧ ((1 < 2 ∧ True) ∧ (True))) ∧ ((((True) ∧ (True)) ∧ PureC Try.prog 21 [(.sl (.int .i64) [(IntKind.wrap .i64 (((y_3.1.length : Nat) : Int) + (2 : Int))), (3 : Int)])] (.tup (.cons (.str y_4.1) (.cons (.bool y_4.2) .nil))) []) ∧ ((True) ∧ ((True) ∧ ((True) ∧ ((True) ∧ ((True) ∧ (True)))))))))) := ⟨trivial, ⟨trivial, ⟨trivial, ⟨⟨⟨by decide, trivial⟩, ⟨⟨by decide, trivial⟩, trivial⟩⟩, ⟨⟨⟨trivial, trivial⟩, F21_ok n [(IntKind.wrap .i64 (((y_3.1.length : Nat) : Int) + (2 : Int))), (3 : Int)] y_4 hx4⟩, ⟨trivial, ⟨trivial, ⟨trivial, ⟨trivial, ⟨trivial, trivial⟩⟩⟩⟩⟩⟩⟩⟩⟩⟩
    refine TS.reg [.none, .none, .none, .none, (.call (.tup (.cons (.str y_4.1) (.cons (.bool y_4.2) .nil))) [])] ?_ ?_
    · apply prop_of ?_ hq
      kernel_rfl
    refine XS.then ?_
    refine TS.seq ?_
    obtain ⟨t5, h⟩ := test_some h
    have hq : (True) ∧ ((True) ∧ ((y_4.1.length + y_3.1.length ≤ 9223372036854775807) ∧ ((True) ∧ ((True) ∧ (True))))) := ⟨trivial, ⟨trivial, ⟨of_decide_eq_true t5, ⟨trivial, ⟨trivial, trivial⟩⟩⟩⟩⟩
    refine TS.reg [] ?_ ?_
    · apply prop_of ?_ hq
      kernel_rfl
    refine XS.then ?_
    refine TS.ret ?_
    obtain rfl : ((y_4.1 ++ y_3.1), (0 : Int)) = r := Option.some.inj h
    exact XS.fin [] ((True) ∧ ((True) ∧ (True))) (by kernel_rfl) ⟨trivial, ⟨trivial, trivial⟩⟩

/-! plugtree/plugref.Sheet -/
def F13_l26 (n : Nat) (s_Texts : List (List UInt8)) (m1 : List Int) (k13_26 : Int → Option Int) : Int → Option Int
  | x_3 => (bif (decide (x_3 < ((m1.length : Nat) : Int))) then (bif inb x_3 m1.length then (bif (decide ((m1.getD x_3.toNat (0 : Int)) > ((s_Texts.length : Nat) : Int))) then (some (12 : Int)) else (k13_26 (IntKind.wrap .i64 (x_3 + (1 : Int))))) else none) else (some (0 : Int)))
def F13_l25 (n : Nat) (s_Config_Faces : List (Int × Int × Int × Int × (List (List UInt8)) × List (Int × Bool × Int × Int × Int))) (s_Texts : List (List UInt8)) (k13_25 : (Int × (List Int)) → Option Int) : (Int × (List Int)) → Option Int
  | (x_2, m1) => (bif (decide (x_2 < ((s_Config_Faces.length : Nat) : Int))) then (bif inb x_2 s_Config_Faces.length then (bif (decide (m1.length + ([(s_Config_Faces.getD x_2.toNat ((0 : Int), ((0 : Int), ((0 : Int), ((0 : Int), (([] : List (List UInt8)), ([] : List (Int × Bool × Int × Int × Int)))))))).2.2.2.1]).length ≤ 17592186044416)) then (k13_25 ((IntKind.wrap .i64 (x_2 + (1 : Int))), (m1 ++ [(s_Config_Faces.getD x_2.toNat ((0 : Int), ((0 : Int), ((0 : Int), ((0 : Int), (([] : List (List UInt8)), ([] : List (Int × Bool × Int × Int × Int)))))))).2.2.2.1]))) else none) else none) else (loopF (F13_l26 n s_Texts m1) n (0 : Int)))
def F13_l22 (n : Nat) (s_Device_Maker : Int) (s_Device_Name : Int) (s_Device_Serial : Int) (s_Config_Name : Int) (s_Config_Faces : List (Int × Int × Int × Int × (List (List UInt8)) × List (Int × Bool × Int × Int × Int))) (s_Texts : List (List UInt8)) (k13_22 : Int → Option Int) : Int → Option Int
  | x => (bif (decide (x < ((s_Texts.length : Nat) : Int))) then (bif inb x s_Texts.length then ((F35 n (s_Texts.getD x.toNat ([] : List UInt8))).bind fun y_4 => (bif (y_4.2 != (0 : Int)) then (some y_4.2) else (k13_22 (IntKind.wrap .i64 (x + (1 : Int)))))) else none) else (loopF (F13_l25 n s_Config_Faces s_Texts) n ((0 : Int), [s_Device_Maker, s_Device_Name, s_Device_Serial, s_Config_Name])))
def F13 (n : Nat) (s_Device_Usb : Int) (s_Device_Class : Int) (s_Device_Sub : Int) (s_Device_Proto : Int) (s_Device_Max0 : Int) (s_Device_Vendor : Int) (s_Device_Product : Int) (s_Device_Release : Int) (s_Device_Maker : Int) (s_Device_Name : Int) (s_Device_Serial : Int) (s_Device_Configs : Int) (s_Config_Value : Int) (s_Config_Name : Int) (s_Config_Attr : Int) (s_Config_Power : Int) (s_Config_Faces : List (Int × Int × Int × Int × (List (List UInt8)) × List (Int × Bool × Int × Int × Int))) (s_Texts : List (List UInt8)) : Option Int := ((F34 n s_Device_Usb s_Device_Class s_Device_Sub s_Device_Proto s_Device_Max0 s_Device_Vendor s_Device_Product s_Device_Release s_Device_Maker s_Device_Name s_Device_Serial s_Device_Configs).bind fun y_2 => (bif (y_2.2 != (0 : Int)) then (some y_2.2) else (bif (s_Device_Configs != (1 : Int)) then (some (4 : Int)) else ((F8 n s_Config_Value s_Config_Name s_Config_Attr s_Config_Power s_Config_Faces).bind fun y_3 => (bif (y_3.2 != (0 : Int)) then (some y_3.2) else (bif (decide (((s_Texts.length : Nat) : Int) > (8 : Int))) then (some (2 : Int)) else (loopF (F13_l22 n s_Device_Maker s_Device_Name s_Device_Serial s_Config_Name s_Config_Faces s_Texts) n (0 : Int))))))))
theorem F13_ok (n : Nat) (s_Device_Usb : Int) (s_Device_Class : Int) (s_Device_Sub : Int) (s_Device_Proto : Int) (s_Device_Max0 : Int) (s_Device_Vendor : Int) (s_Device_Product : Int) (s_Device_Release : Int) (s_Device_Maker : Int) (s_Device_Name : Int) (s_Device_Serial : Int) (s_Device_Configs : Int) (s_Config_Value : Int) (s_Config_Name : Int) (s_Config_Attr : Int) (s_Config_Power : Int) (s_Config_Faces : List (Int × Int × Int × Int × (List (List UInt8)) × List (Int × Bool × Int × Int × Int))) (s_Texts : List (List UInt8)) (r : Int) (h : F13 n s_Device_Usb s_Device_Class s_Device_Sub s_Device_Proto s_Device_Max0 s_Device_Vendor s_Device_Product s_Device_Release s_Device_Maker s_Device_Name s_Device_Serial s_Device_Configs s_Config_Value s_Config_Name s_Config_Attr s_Config_Power s_Config_Faces s_Texts = some r) : PureC Try.prog 13 [(.st (.cons (.st (.cons (.int .i64 s_Device_Usb) (.cons (.int .i64 s_Device_Class) (.cons (.int .i64 s_Device_Sub) (.cons (.int .i64 s_Device_Proto) (.cons (.int .i64 s_Device_Max0) (.cons (.int .i64 s_Device_Vendor) (.cons (.int .i64 s_Device_Product) (.cons (.int .i64 s_Device_Release) (.cons (.int .i64 s_Device_Maker) (.cons (.int .i64 s_Device_Name) (.cons (.int .i64 s_Device_Serial) (.int .i64 s_Device_Configs))))))))))))) (.cons (.st (.cons (.int .i64 s_Config_Value) (.cons (.int .i64 s_Config_Name) (.cons (.int .i64 s_Config_Attr) (.cons (.int .i64 s_Config_Power) (.sl (.st (.pair (.int .i64) (.pair (.int .i64) (.pair (.int .i64) (.pair (.int .i64) (.pair (.sl .str) (.sl (.st (.pair (.int .i64) (.pair .bool (.pair (.int .i64) (.pair (.int .i64) (.int .i64))))))))))))) s_Config_Faces)))))) (.sl .str s_Texts))))] (.int .i64 r) [] := by
  refine PureC.mkS Try.func13 rfl rfl ?_
  intro w0 fz0 hfz
  replace h : ((F34 n s_Device_Usb s_Device_Class s_Device_Sub s_Device_Proto s_Device_Max0 s_Device_Vendor s_Device_Product s_Device_Release s_Device_Maker s_Device_Name s_Device_Serial s_Device_Configs).bind fun y_2 => (bif (y_2.2 != (0 : Int)) then (some y_2.2) else (bif (s_Device_Configs != (1 : Int)) then (some (4 : Int)) else ((F8 n s_Config_Value s_Config_Name s_Config_Attr s_Config_Power s_Config_Faces).bind fun y_3 => (bif (y_3.2 != (0 : Int)) then (some y_3.2) else (bif (decide (((s_Texts.length : Nat) : Int) > (8 : Int))) then (some (2 : Int)) else (loopF (F13_l22 n s_Device_Maker s_Device_Name s_Device_Serial s_Config_Name s_Config_Faces s_Texts) n (0 : Int)))))))) = some r := h
  refine TS.seq ?_
  have hq : (True) ∧ ((True) ∧ (True)) := ⟨trivial, ⟨trivial, trivial⟩⟩
  refine TS.reg [] ?_ ?_
  · apply prop_of ?_ hq
    kernel_rfl
  refine XS.then ?_
  refine TS.seq ?_
  refine TS.seq ?_
  obtain ⟨y_2, hx1, h⟩ := bind_some' h
  have hq : (True) ∧ ((True) ∧ ((PureC Try.prog 34 [(.st (.cons (.int .i64 s_Device_Usb) (.cons (.int .i64 s_Device_Class) (.cons (.int .i64 s_Device_Sub) (.cons (.int .i64 s_Device_Proto) (.cons (.int .i64 s_Device_Max0) (.cons (.int .i64 s_Device_Vendor) (.cons (.int .i64 s_Device_Product) (.cons (.int .i64 s_Device_Release) (.cons (.int .i64 s_Device_Maker) (.cons (.int .i64 s_Device_Name) (.cons (.int .i64 s_Device_Serial) (.int .i64 s_Device_Configs)))))))))))))] (.tup (.cons (.str y_2.1) (.cons (.int .i64 y_2.2) .nil))) []) ∧ ((True) ∧ ((True) ∧ ((True) ∧ ((True) ∧ ((True) ∧ (True)))))))) := ⟨trivial, ⟨trivial, ⟨F34_ok n s_Device_Usb s_Device_Class s_Device_Sub s_Device_Proto s_Device_Max0 s_Device_Vendor s_Device_Product s_Device_Release s_Device_Maker s_Device_Name s_Device_Serial s_Device_Configs y_2 hx1, ⟨trivial, ⟨trivial, ⟨trivial, ⟨trivial, ⟨trivial, trivial⟩⟩⟩⟩⟩⟩⟩⟩
  refine TS.reg [.none, .none, (.call (.tup (.cons (.str y_2.1) (.cons (.int .i64 y_2.2) .nil))) [])] ?_ ?_
  · apply prop_of ?_ hq
    kernel_rfl
  refine XS.then ?_
  refine TS.seq ?_
  have hq : (True) ∧ ((True) ∧ (True)) := ⟨trivial, ⟨trivial, trivial⟩⟩
  refine TS.reg [] ?_ ?_
  · apply prop_of ?_ hq
    kernel_rfl
  refine XS.then ?_
  rcases bif_some h with ⟨c2, h⟩ | ⟨c3, h⟩
  · refine TS.cond (y_2.2 != (0 : Int)) ?_ (fun hcz => ?_) (fun hcz => by rw [c2] at hcz; cases hcz)
    · kernel_rfl
    refine TS.seq ?_
    have hq : (True) ∧ ((True) ∧ (True)) := ⟨trivial, ⟨trivial, trivial⟩⟩
    refine TS.reg [] ?_ ?_
    · apply prop_of ?_ hq
      kernel_rfl
    refine XS.then ?_
    refine TS.ret ?_
    refine XS.passR ?_
    obtain rfl : y_2.2 = r := Option.some.inj h
    exact XS.fin [] ((True) ∧ (True)) (by kernel_rfl) ⟨trivial, trivial⟩
  · refine TS.cond (y_2.2 != (0 : Int)) ?_ (fun hcz => by rw [c3] at hcz; cases hcz) (fun hcz => ?_)
    · kernel_rfl
    refine TS.skip ?_
    refine XS.then ?_
    refine TS.seq ?_
    refine TS.seq ?_
    have hq : (True) ∧ ((True) ∧ ((True) ∧ ((True) ∧ (True)))) := ⟨trivial, ⟨trivial, ⟨trivial, ⟨trivial, trivial⟩⟩⟩⟩
    refine TS.reg [] ?_ ?_
    · apply prop_of ?_ hq
      kernel_rfl
    refine XS.then ?_
    rcases bif_some h with ⟨c4, h⟩ | ⟨c5, h⟩
    · refine TS.cond (s_Device_Configs != (1 : Int)) ?_ (fun hcz => ?_) (fun hcz => by rw [c4] at hcz; cases hcz)
      · kernel_rfl
      refine TS.seq ?_
      have hq : (True) ∧ (True) := ⟨trivial, trivial⟩
      refine TS.reg [] ?_ ?_
      · apply prop_of ?_ hq
        kernel_rfl
      refine XS.then ?_
      refine TS.ret ?_
      refine XS.passR ?_
      obtain rfl : (4 : Int) = r := Option.some.inj h
      exact XS.fin [] ((True) ∧ (True)) (by kernel_rfl) ⟨trivial, trivial⟩
    · refine TS.cond (s_Device_Configs != (1 : Int)) ?_ (fun hcz => by rw [c5] at hcz; cases hcz) (fun hcz => ?_)
      · kernel_rfl
      refine TS.skip ?_
      refine XS.then ?_
      refine TS.seq ?_
      refine TS.seq ?_
      obtain ⟨y_3, hx6, h⟩ := bind_some' h
      have hq : (True) ∧ ((True) ∧ ((PureC Try.prog 8 [(.st (.cons (.int .i64 s_Config_Value) (.cons (.int .i64 s_Config_Name) (.cons (.int .i64 s_Config_Attr) (.cons (.int .i64 s_Config_Power) (.sl (.st (.pair (.int .i64) (.pair (.int .i64) (.pair (.int .i64) (.pair (.int .i64) (.pair (.sl .str) (.sl (.st (.pair (.int .i64) (.pair .bool (.pair (.int .i64) (.pair (.int .i64) (.int .i64))))))))))))) s_Config_Faces))))))] (.tup (.cons (.str y_3.1) (.cons (.int .i64 y_3.2) .nil))) []) ∧ ((True) ∧ ((True) ∧ ((True) ∧ ((True) ∧ ((True) ∧ (True)))))))) := ⟨trivial, ⟨trivial, ⟨F8_ok n s_Config_Value s_Config_Name s_Config_Attr s_Config_Power s_Config_Faces y_3 hx6, ⟨trivial, ⟨trivial, ⟨trivial, ⟨trivial, ⟨trivial, trivial⟩⟩⟩⟩⟩⟩⟩⟩
      refine TS.reg [.none, .none, (.call (.tup (.cons (.str y_3.1) (.cons (.int .i64 y_3.2) .nil))) [])] ?_ ?_
      · apply prop_of ?_ hq
        kernel_rfl
      refine XS.then ?_
      refine TS.seq ?_
      have hq : (True) ∧ ((True) ∧ (True)) := ⟨trivial, ⟨trivial, trivial⟩⟩
      refine TS.reg [] ?_ ?_
      · apply prop_of ?_ hq
        kernel_rfl
      refine XS.then ?_
      rcases bif_some h with ⟨c7, h⟩ | ⟨c8, h⟩
      · refine TS.cond (y_3.2 != (0 : Int)) ?_ (fun hcz => ?_) (fun hcz => by rw [c7] at hcz; cases hcz)
        · kernel_rfl
        refine TS.seq ?_
        have hq : (True) ∧ ((True) ∧ (True)) := ⟨trivial, ⟨trivial, trivial⟩⟩
        refine TS.reg [] ?_ ?_
        · apply prop_of ?_ hq
          kernel_rfl
        refine XS.then ?_
        refine TS.ret ?_
        refine XS.passR ?_
        obtain rfl : y_3.2 = r := Option.some.inj h
        exact XS.fin [] ((True) ∧ (True)) (by kernel_rfl) ⟨trivial, trivial⟩
      · refine TS.cond (y_3.2 != (0 : Int)) ?_ (fun hcz => by rw [c8] at hcz; cases hcz) (fun hcz => ?_)
        · kernel_rfl
        refine TS.skip ?_
        refine XS.then ?_
        refine TS.seq ?_
        refine TS.seq ?_
        have hq : (True) ∧ ((True) ∧ ((True) ∧ ((True) ∧ (True)))) := ⟨trivial, ⟨trivial, ⟨trivial, ⟨trivial, trivial⟩⟩⟩⟩
        refine TS.reg [] ?_ ?_
        · apply prop_of ?_ hq
          kernel_rfl
        refine XS.then ?_
        rcases bif_some h with ⟨c9, h⟩ | ⟨c10, h⟩
        · refine TS.cond (decide (((s_Texts.length : Nat) : Int) > (8 : Int))) ?_ (fun hcz => ?_) (fun hcz => by rw [c9] at hcz; cases hcz)
          · kernel_rfl
          refine TS.seq ?_
          have hq : (True) ∧ (True) := ⟨trivial, trivial⟩
          refine TS.reg [] ?_ ?_
          · apply prop_of ?_ hq
            kernel_rfl
          refine XS.then ?_
          refine TS.ret ?_
          refine XS.passR ?_
          obtain rfl : (2 : Int) = r := Option.some.inj h
          exact XS.fin [] ((True) ∧ (True)) (by kernel_rfl) ⟨trivial, trivial⟩
        · refine TS.cond (decide (((s_Texts.length : Nat) : Int) > (8 : Int))) ?_ (fun hcz => by rw [c10] at hcz; cases hcz) (fun hcz => ?_)
          · kernel_rfl
          refine TS.skip ?_
          refine XS.then ?_
          refine TS.seq ?_
          refine TS.seq ?_
          have hq : (True) ∧ ((True) ∧ ((True) ∧ ((True) ∧ (True)))) := ⟨trivial, ⟨trivial, ⟨trivial, ⟨trivial, trivial⟩⟩⟩⟩
          refine TS.reg [] ?_ ?_
          · apply prop_of ?_ hq
            kernel_rfl
          refine XS.then ?_
          refine TS.block ?_
          refine TS.reLoop [0] (mkMask 97 [1, 43, 44, 45]) (D := Int) (fun d => match d with | x => (mkTs 97 [(1, (.ptr 0 [])), (43, (.sl .str s_Texts)), (44, (.int .i64 ((s_Texts.length : Nat) : Int))), (45, (.int .i64 x))], [(.box 37 (.st (.cons (.st (.cons (.int .i64 s_Device_Usb) (.cons (.int .i64 s_Device_Class) (.cons (.int .i64 s_Device_Sub) (.cons (.int .i64 s_Device_Proto) (.cons (.int .i64 s_Device_Max0) (.cons (.int .i64 s_Device_Vendor) (.cons (.int .i64 s_Device_Product) (.cons (.int .i64 s_Device_Release) (.cons (.int .i64 s_Device_Maker) (.cons (.int .i64 s_Device_Name) (.cons (.int .i64 s_Device_Serial) (.int .i64 s_Device_Configs))))))))))))) (.cons (.st (.cons (.int .i64 s_Config_Value) (.cons (.int .i64 s_Config_Name) (.cons (.int .i64 s_Config_Attr) (.cons (.int .i64 s_Config_Power) (.sl (.st (.pair (.int .i64) (.pair (.int .i64) (.pair (.int .i64) (.pair (.int .i64) (.pair (.sl .str) (.sl (.st (.pair (.int .i64) (.pair .bool (.pair (.int .i64) (.pair (.int .i64) (.int .i64))))))))))))) s_Config_Faces)))))) (.sl .str s_Texts)))))])) (fun n' d => loopF (F13_l22 n s_Device_Maker s_Device_Name s_Device_Serial s_Config_Name s_Config_Faces s_Texts) n' d = some r) n (0 : Int) h ?_ (fun d => loopF_zero _ d r) ?_
          · kernel_rfl
          · rintro n22 x h
            replace h : (bif (decide (x < ((s_Texts.length : Nat) : Int))) then (bif inb x s_Texts.length then ((F35 n (s_Texts.getD x.toNat ([] : List UInt8))).bind fun y_4 => (bif (y_4.2 != (0 : Int)) then (some y_4.2) else ((loopF (F13_l22 n s_Device_Maker s_Device_Name s_Device_Serial s_Config_Name s_Config_Faces s_Texts) n22) (IntKind.wrap .i64 (x + (1 : Int)))))) else none) else (loopF (F13_l25 n s_Config_Faces s_Texts) n ((0 : Int), [s_Device_Maker, s_Device_Name, s_Device_Serial, s_Config_Name]))) = some r := h
            refine TS.seq ?_
            have hq : (True) ∧ (True) := ⟨trivial, trivial⟩
            refine TS.reg [] ?_ ?_
            · apply prop_of ?_ hq
              kernel_rfl
            refine XS.then ?_
            refine TS.seq ?_
            rcases bif_some h with ⟨c11, h⟩ | ⟨c12, h⟩
            · refine TS.cond (decide (x < ((s_Texts.length : Nat) : Int))) ?_ (fun hcz => ?_) (fun hcz => by rw [c11] at hcz; cases hcz)
              · kernel_rfl
              refine TS.skip ?_
              refine XS.then ?_
              refine TS.seq ?_
              refine TS.block ?_
              refine TS.seq ?_
              obtain ⟨t13, h⟩ := test_some h
              have hq : (inR x s_Texts.length) ∧ ((True) ∧ ((True) ∧ (True))) := ⟨inb_ok t13, ⟨trivial, ⟨trivial, trivial⟩⟩⟩
              refine TS.reg [] ?_ ?_
              · apply prop_of ?_ hq
                kernel_rfl
              refine XS.then ?_
              refine TS.seq ?_
              obtain ⟨y_4, hx14, h⟩ := bind_some' h
              have hq : (True) ∧ ((PureC Try.prog 35 [(.str (s_Texts.getD x.toNat ([] : List UInt8)))] (.tup (.cons (.str y_4.1) (.cons (.int .i64 y_4.2) .nil))) []) ∧ ((True) ∧ ((True) ∧ ((True) ∧ ((True) ∧ ((True) ∧ (True))))))) := ⟨trivial, ⟨F35_ok n (s_Texts.getD x.toNat ([] : List UInt8)) y_4 hx14, ⟨trivial, ⟨trivial, ⟨trivial, ⟨trivial, ⟨trivial, trivial⟩⟩⟩⟩⟩⟩⟩
              refine TS.reg [.none, (.call (.tup (.cons (.str y_4.1) (.cons (.int .i64 y_4.2) .nil))) [])] ?_ ?_
              · apply prop_of ?_ hq
                kernel_rfl
              refine XS.then ?_
              refine TS.seq ?_
              have hq : (True) ∧ ((True) ∧ (True)) := ⟨trivial, ⟨trivial, trivial⟩⟩
              refine TS.reg [] ?_ ?_
              · apply prop_of ?_ hq
                kernel_rfl
              refine XS.then ?_
              rcases bif_some h with ⟨c15, h⟩ | ⟨c16, h⟩
              · refine TS.cond (y_4.2 != (0 : Int)) ?_ (fun hcz => ?_) (fun hcz => by rw [c15] at hcz; cases hcz)
                · kernel_rfl
                refine TS.seq ?_
                have hq : (True) ∧ ((True) ∧ (True)) := ⟨trivial, ⟨trivial, trivial⟩⟩
                refine TS.reg [] ?_ ?_
                · apply prop_of ?_ hq
                  kernel_rfl
                refine XS.then ?_
                refine TS.ret ?_
                refine XS.blockRet ?_
                refine XS.passR ?_
                refine XS.passR ?_
                refine XS.blockRet ?_
                refine XS.passR ?_
                obtain rfl : y_4.2 = r := Option.some.inj h
                exact XS.fin [] ((True) ∧ (True)) (by kernel_rfl) ⟨trivial, trivial⟩
              · refine TS.cond (y_4.2 != (0 : Int)) ?_ (fun hcz => by rw [c16] at hcz; cases hcz) (fun hcz => ?_)
                · kernel_rfl
                refine TS.skip ?_
                refine XS.blockEnd ?_
                refine XS.then ?_
                have hq : (True) ∧ ((True) ∧ (True)) := ⟨trivial, ⟨trivial, trivial⟩⟩
                refine TS.reg [] ?_ ?_
                · apply prop_of ?_ hq
                  kernel_rfl
                refine XS.reAny [0] (mkMask 97 [1, 43, 44, 45]) (IntKind.wrap .i64 (x + (1 : Int))) h ?_
                kernel_rfl
            · refine TS.cond (decide (x < ((s_Texts.length : Nat) : Int))) ?_ (fun hcz => by rw [c12] at hcz; cases hcz) (fun hcz => ?_)
              · kernel_rfl
              refine TS.exit ?_
              refine XS.passE ?_
              refine XS.passE ?_
              refine XS.out ?_
              refine XS.then ?_
              refine TS.seq ?_
              have hq : (True) ∧ ((True) ∧ ((True) ∧ ((True) ∧ ((True) ∧ ((True) ∧ ((True) ∧ ((True) ∧ ((True) ∧ ((True) ∧ ((True) ∧ ((True) ∧ (((0 < 4 ∧ True) ∧ ((1 < 4 ∧ True) ∧ ((2 < 4 ∧ True) ∧ ((3 < 4 ∧ True) ∧ (True))))) ∧ ((True) ∧ (True)))))))))))))) := ⟨trivial, ⟨trivial, ⟨trivial, ⟨trivial, ⟨trivial, ⟨trivial, ⟨trivial, ⟨trivial, ⟨trivial, ⟨trivial, ⟨trivial, ⟨trivial, ⟨⟨⟨by decide, trivial⟩, ⟨⟨by decide, trivial⟩, ⟨⟨by decide, trivial⟩, ⟨⟨by decide, trivial⟩, trivial⟩⟩⟩⟩, ⟨trivial, trivial⟩⟩⟩⟩⟩⟩⟩⟩⟩⟩⟩⟩⟩⟩
              refine TS.reg [] ?_ ?_
              · apply prop_of ?_ hq
                kernel_rfl
              refine XS.then ?_
              refine TS.seq ?_
              refine TS.seq ?_
              have hq : (True) ∧ ((True) ∧ ((True) ∧ ((True) ∧ ((True) ∧ (True))))) := ⟨trivial, ⟨trivial, ⟨trivial, ⟨trivial, ⟨trivial, trivial⟩⟩⟩⟩⟩
              refine TS.reg [] ?_ ?_
              · apply prop_of ?_ hq
                kernel_rfl
              refine XS.then ?_
              refine TS.block ?_
              refine TS.reLoop [0, 1] (mkMask 97 [1, 11, 73, 74, 75]) (D := Int × (List Int)) (fun d => match d with | (x_2, m1) => (mkTs 97 [(1, (.ptr 0 [])), (11, (.row 1)), (73, (.sl (.st (.pair (.int .i64) (.pair (.int .i64) (.pair (.int .i64) (.pair (.int .i64) (.pair (.sl .str) (.sl (.st (.pair (.int .i64) (.pair .bool (.pair (.int .i64) (.pair (.int .i64) (.int .i64))))))))))))) s_Config_Faces)), (74, (.int .i64 ((s_Config_Faces.length : Nat) : Int))), (75, (.int .i64 x_2))], [(.box 37 (.st (.cons (.st (.cons (.int .i64 s_Device_Usb) (.cons (.int .i64 s_Device_Class) (.cons (.int .i64 s_Device_Sub) (.cons (.int .i64 s_Device_Proto) (.cons (.int .i64 s_Device_Max0) (.cons (.int .i64 s_Device_Vendor) (.cons (.int .i64 s_Device_Product) (.cons (.int .i64 s_Device_Release) (.cons (.int .i64 s_Device_Maker) (.cons (.int .i64 s_Device_Name) (.cons (.int .i64 s_Device_Serial) (.int .i64 s_Device_Configs))))))))))))) (.cons (.st (.cons (.int .i64 s_Config_Value) (.cons (.int .i64 s_Config_Name) (.cons (.int .i64 s_Config_Attr) (.cons (.int .i64 s_Config_Power) (.sl (.st (.pair (.int .i64) (.pair (.int .i64) (.pair (.int .i64) (.pair (.int .i64) (.pair (.sl .str) (.sl (.st (.pair (.int .i64) (.pair .bool (.pair (.int .i64) (.pair (.int .i64) (.int .i64))))))))))))) s_Config_Faces)))))) (.sl .str s_Texts))))), (.row 3 (.int .i64) m1)])) (fun n' d => loopF (F13_l25 n s_Config_Faces s_Texts) n' d = some r) n ((0 : Int), [s_Device_Maker, s_Device_Name, s_Device_Serial, s_Config_Name]) h ?_ (fun d => loopF_zero _ d r) ?_
              · kernel_rfl
              · rintro n25 ⟨x_2, m1⟩ h
                replace h : (bif (decide (x_2 < ((s_Config_Faces.length : Nat) : Int))) then (bif inb x_2 s_Config_Faces.length then (bif (decide (m1.length + ([(s_Config_Faces.getD x_2.toNat ((0 : Int), ((0 : Int), ((0 : Int), ((0 : Int), (([] : List (List UInt8)), ([] : List (Int × Bool × Int × Int × Int)))))))).2.2.2.1]).length ≤ 17592186044416)) then ((loopF (F13_l25 n s_Config_Faces s_Texts) n25) ((IntKind.wrap .i64 (x_2 + (1 : Int))), (m1 ++ [(s_Config_Faces.getD x_2.toNat ((0 : Int), ((0 : Int), ((0 : Int), ((0 : Int), (([] : List (List UInt8)), ([] : List (Int × Bool × Int × Int × Int)))))))).2.2.2.1]))) else none) else none) else (loopF (F13_l26 n s_Texts m1) n (0 : Int))) = some r := h
                refine TS.seq ?_
                have hq : (True) ∧ (True) := ⟨trivial, trivial⟩
                refine TS.reg [] ?_ ?_
                · apply prop_of ?_ hq
                  kernel_rfl
                refine XS.then ?_
                refine TS.seq ?_
                rcases bif_some h with ⟨c17, h⟩ | ⟨c18, h⟩
                · refine TS.cond (decide (x_2 < ((s_Config_Faces.length : Nat) : Int))) ?_ (fun hcz => ?_) (fun hcz => by rw [c17] at hcz; cases hcz)
                  · kernel_rfl
                  refine TS.skip ?_
                  refine XS.then ?_
                  refine TS.seq ?_
                  refine TS.block ?_
                  refine TS.seq ?_
                  obtain ⟨t19, h⟩ := test_some h
                  have hq : (inR x_2 s_Config_Faces.length) ∧ ((True) ∧ ((True) ∧ ((True) ∧ (True)))) := ⟨inb_ok t19, ⟨trivial, ⟨trivial, ⟨trivial, trivial⟩⟩⟩⟩
                  refine TS.reg [] ?_ ?_
                  · apply prop_of ?_ hq
                    kernel_rfl
                  refine XS.then ?_
                  obtain ⟨t20, h⟩ := test_some h
                  have hq : (True) ∧ ((True) ∧ ((True) ∧ (((0 < 1 ∧ True) ∧ (True)) ∧ ((m1.length + ([(s_Config_Faces.getD x_2.toNat ((0 : Int), ((0 : Int), ((0 : Int), ((0 : Int), (([] : List (List UInt8)), ([] : List (Int × Bool × Int × Int × Int)))))))).2.2.2.1]).length ≤ 17592186044416) ∧ ((True) ∧ (True)))))) := ⟨trivial, ⟨trivial, ⟨trivial, ⟨⟨⟨by decide, trivial⟩, trivial⟩, ⟨of_decide_eq_true t20, ⟨trivial, trivial⟩⟩⟩⟩⟩⟩
                  refine TS.reg [] ?_ ?_
                  · apply prop_of ?_ hq
                    kernel_rfl
                  refine XS.blockEnd ?_
                  refine XS.then ?_
                  have hq : (True) ∧ ((True) ∧ (True)) := ⟨trivial, ⟨trivial, trivial⟩⟩
                  refine TS.reg [] ?_ ?_
                  · apply prop_of ?_ hq
                    kernel_rfl
                  refine XS.reAny [0, 4] (mkMask 97 [1, 11, 73, 74, 75]) ((IntKind.wrap .i64 (x_2 + (1 : Int))), (m1 ++ [(s_Config_Faces.getD x_2.toNat ((0 : Int), ((0 : Int), ((0 : Int), ((0 : Int), (([] : List (List UInt8)), ([] : List (Int × Bool × Int × Int × Int)))))))).2.2.2.1])) h ?_
                  kernel_rfl
                · refine TS.cond (decide (x_2 < ((s_Config_Faces.length : Nat) : Int))) ?_ (fun hcz => by rw [c18] at hcz; cases hcz) (fun hcz => ?_)
                  · kernel_rfl
                  refine TS.exit ?_
                  refine XS.passE ?_
                  refine XS.passE ?_
                  refine XS.out ?_
                  refine XS.then ?_
                  refine TS.seq ?_
                  refine TS.seq ?_
                  have hq : (True) ∧ ((True) ∧ ((True) ∧ (True))) := ⟨trivial, ⟨trivial, ⟨trivial, trivial⟩⟩⟩
                  refine TS.reg [] ?_ ?_
                  · apply prop_of ?_ hq
                    kernel_rfl
                  refine XS.then ?_
                  refine TS.block ?_
                  refine TS.reLoop [0, 1] (mkMask 97 [1, 85, 86, 87]) (D := Int) (fun d => match d with | x_3 => (mkTs 97 [(1, (.ptr 0 [])), (85, (.row 1)), (86, (.int .i64 ((m1.length : Nat) : Int))), (87, (.int .i64 x_3))], [(.box 37 (.st (.cons (.st (.cons (.int .i64 s_Device_Usb) (.cons (.int .i64 s_Device_Class) (.cons (.int .i64 s_Device_Sub) (.cons (.int .i64 s_Device_Proto) (.cons (.int .i64 s_Device_Max0) (.cons (.int .i64 s_Device_Vendor) (.cons (.int .i64 s_Device_Product) (.cons (.int .i64 s_Device_Release) (.cons (.int .i64 s_Device_Maker) (.cons (.int .i64 s_Device_Name) (.cons (.int .i64 s_Device_Serial) (.int .i64 s_Device_Configs))))))))))))) (.cons (.st (.cons (.int .i64 s_Config_Value) (.cons (.int .i64 s_Config_Name) (.cons (.int .i64 s_Config_Attr) (.cons (.int .i64 s_Config_Power) (.sl (.st (.pair (.int .i64) (.pair (.int .i64) (.pair (.int .i64) (.pair (.int .i64) (.pair (.sl .str) (.sl (.st (.pair (.int .i64) (.pair .bool (.pair (.int .i64) (.pair (.int .i64) (.int .i64))))))))))))) s_Config_Faces)))))) (.sl .str s_Texts))))), (.row 3 (.int .i64) m1)])) (fun n' d => loopF (F13_l26 n s_Texts m1) n' d = some r) n (0 : Int) h ?_ (fun d => loopF_zero _ d r) ?_
                  · kernel_rfl
                  · rintro n26 x_3 h
                    replace h : (bif (decide (x_3 < ((m1.length : Nat) : Int))) then (bif inb x_3 m1.length then (bif (decide ((m1.getD x_3.toNat (0 : Int)) > ((s_Texts.length : Nat) : Int))) then (some (12 : Int)) else ((loopF (F13_l26 n s_Texts m1) n26) (IntKind.wrap .i64 (x_3 + (1 : Int))))) else none) else (some (0 : Int))) = some r := h
                    refine TS.seq ?_
                    have hq : (True) ∧ (True) := ⟨trivial, trivial⟩
                    refine TS.reg [] ?_ ?_
                    · apply prop_of ?_ hq
                      kernel_rfl
                    refine XS.then ?_
                    refine TS.seq ?_
                    rcases bif_some h with ⟨c21, h⟩ | ⟨c22, h⟩
                    · refine TS.cond (decide (x_3 < ((m1.length : Nat) : Int))) ?_ (fun hcz => ?_) (fun hcz => by rw [c21] at hcz; cases hcz)
                      · kernel_rfl
                      refine TS.skip ?_
                      refine XS.then ?_
                      refine TS.seq ?_
                      refine TS.block ?_
                      refine TS.seq ?_
                      obtain ⟨t23, h⟩ := test_some h
                      have hq : (inR x_3 m1.length) ∧ ((x_3.toNat < m1.length ∧ (True)) ∧ ((True) ∧ (True))) := ⟨inb_ok t23, ⟨⟨inR_lt (inb_ok t23), trivial⟩, ⟨trivial, trivial⟩⟩⟩
                      refine TS.reg [] ?_ ?_
                      · apply prop_of ?_ hq
                        kernel_rfl
                      refine XS.then ?_
                      refine TS.seq ?_
                      have hq : (True) ∧ ((True) ∧ ((True) ∧ ((True) ∧ ((True) ∧ (True))))) := ⟨trivial, ⟨trivial, ⟨trivial, ⟨trivial, ⟨trivial, trivial⟩⟩⟩⟩⟩
                      refine TS.reg [] ?_ ?_
                      · apply prop_of ?_ hq
                        kernel_rfl
                      refine XS.then ?_
                      rcases bif_some h with ⟨c24, h⟩ | ⟨c25, h⟩
                      · refine TS.cond (decide ((m1.getD x_3.toNat (0 : Int)) > ((s_Texts.length : Nat) : Int))) ?_ (fun hcz => ?_) (fun hcz => by rw [c24] at hcz; cases hcz)
                        · kernel_rfl
                        refine TS.seq ?_
                        have hq : (True) ∧ (True) := ⟨trivial, trivial⟩
                        refine TS.reg [] ?_ ?_
                        · apply prop_of ?_ hq
                          kernel_rfl
                        refine XS.then ?_
                        refine TS.ret ?_
                        refine XS.blockRet ?_
                        refine XS.passR ?_
                        refine XS.passR ?_
                        refine XS.blockRet ?_
                        refine XS.passR ?_
                        obtain rfl : (12 : Int) = r := Option.some.inj h
                        exact XS.fin [] ((True) ∧ (True)) (by kernel_rfl) ⟨trivial, trivial⟩
                      · refine TS.cond (decide ((m1.getD x_3.toNat (0 : Int)) > ((s_Texts.length : Nat) : Int))) ?_ (fun hcz => by rw [c25] at hcz; cases hcz) (fun hcz => ?_)
                        · kernel_rfl
                        refine TS.skip ?_
                        refine XS.blockEnd ?_
                        refine XS.then ?_
                        have hq : (True) ∧ ((True) ∧ (True)) := ⟨trivial, ⟨trivial, trivial⟩⟩
                        refine TS.reg [] ?_ ?_
                        · apply prop_of ?_ hq
                          kernel_rfl
                        refine XS.reAny [0, 1] (mkMask 97 [1, 85, 86, 87]) (IntKind.wrap .i64 (x_3 + (1 : Int))) h ?_
                        kernel_rfl
                    · refine TS.cond (decide (x_3 < ((m1.length : Nat) : Int))) ?_ (fun hcz => by rw [c22] at hcz; cases hcz) (fun hcz => ?_)
                      · kernel_rfl
                      refine TS.exit ?_
                      refine XS.passE ?_
                      refine XS.passE ?_
                      refine XS.out ?_
                      refine XS.then ?_
                      refine TS.seq ?_
                      have hq : (True) ∧ (True) := ⟨trivial, trivial⟩
                      refine TS.reg [] ?_ ?_
                      · apply prop_of ?_ hq
                        kernel_rfl
                      refine XS.then ?_
                      refine TS.ret ?_
                      obtain rfl : (0 : Int) = r := Option.some.inj h
                      exact XS.fin [] ((True) ∧ (True)) (by kernel_rfl) ⟨trivial, trivial⟩

/-! plugtree/pluglaw.GadgetChecks -/
def F5 (n : Nat) (s_Device_Usb : Int) (s_Device_Class : Int) (s_Device_Sub : Int) (s_Device_Proto : Int) (s_Device_Max0 : Int) (s_Device_Vendor : Int) (s_Device_Product : Int) (s_Device_Release : Int) (s_Device_Maker : Int) (s_Device_Name : Int) (s_Device_Serial : Int) (s_Device_Configs : Int) (s_Config_Value : Int) (s_Config_Name : Int) (s_Config_Attr : Int) (s_Config_Power : Int) (s_Config_Faces : List (Int × Int × Int × Int × (List (List UInt8)) × List (Int × Bool × Int × Int × Int))) (s_Texts : List (List UInt8)) : Option Bool := ((F12 n s_Device_Usb s_Device_Class s_Device_Sub s_Device_Proto s_Device_Max0 s_Device_Vendor s_Device_Product s_Device_Release s_Device_Maker s_Device_Name s_Device_Serial s_Device_Configs s_Config_Value s_Config_Name s_Config_Attr s_Config_Power s_Config_Faces s_Texts).bind fun y_2 => ((F13 n s_Device_Usb s_Device_Class s_Device_Sub s_Device_Proto s_Device_Max0 s_Device_Vendor s_Device_Product s_Device_Release s_Device_Maker s_Device_Name s_Device_Serial s_Device_Configs s_Config_Value s_Config_Name s_Config_Attr s_Config_Power s_Config_Faces s_Texts).bind fun y_3 => (some (y_2 == y_3))))
theorem F5_ok (n : Nat) (s_Device_Usb : Int) (s_Device_Class : Int) (s_Device_Sub : Int) (s_Device_Proto : Int) (s_Device_Max0 : Int) (s_Device_Vendor : Int) (s_Device_Product : Int) (s_Device_Release : Int) (s_Device_Maker : Int) (s_Device_Name : Int) (s_Device_Serial : Int) (s_Device_Configs : Int) (s_Config_Value : Int) (s_Config_Name : Int) (s_Config_Attr : Int) (s_Config_Power : Int) (s_Config_Faces : List (Int × Int × Int × Int × (List (List UInt8)) × List (Int × Bool × Int × Int × Int))) (s_Texts : List (List UInt8)) (r : Bool) (h : F5 n s_Device_Usb s_Device_Class s_Device_Sub s_Device_Proto s_Device_Max0 s_Device_Vendor s_Device_Product s_Device_Release s_Device_Maker s_Device_Name s_Device_Serial s_Device_Configs s_Config_Value s_Config_Name s_Config_Attr s_Config_Power s_Config_Faces s_Texts = some r) : PureC Try.prog 5 [(.st (.cons (.st (.cons (.int .i64 s_Device_Usb) (.cons (.int .i64 s_Device_Class) (.cons (.int .i64 s_Device_Sub) (.cons (.int .i64 s_Device_Proto) (.cons (.int .i64 s_Device_Max0) (.cons (.int .i64 s_Device_Vendor) (.cons (.int .i64 s_Device_Product) (.cons (.int .i64 s_Device_Release) (.cons (.int .i64 s_Device_Maker) (.cons (.int .i64 s_Device_Name) (.cons (.int .i64 s_Device_Serial) (.int .i64 s_Device_Configs))))))))))))) (.cons (.st (.cons (.int .i64 s_Config_Value) (.cons (.int .i64 s_Config_Name) (.cons (.int .i64 s_Config_Attr) (.cons (.int .i64 s_Config_Power) (.sl (.st (.pair (.int .i64) (.pair (.int .i64) (.pair (.int .i64) (.pair (.int .i64) (.pair (.sl .str) (.sl (.st (.pair (.int .i64) (.pair .bool (.pair (.int .i64) (.pair (.int .i64) (.int .i64))))))))))))) s_Config_Faces)))))) (.sl .str s_Texts))))] (.bool r) [] := by
  refine PureC.mkS Try.func5 rfl rfl ?_
  intro w0 fz0 hfz
  replace h : ((F12 n s_Device_Usb s_Device_Class s_Device_Sub s_Device_Proto s_Device_Max0 s_Device_Vendor s_Device_Product s_Device_Release s_Device_Maker s_Device_Name s_Device_Serial s_Device_Configs s_Config_Value s_Config_Name s_Config_Attr s_Config_Power s_Config_Faces s_Texts).bind fun y_2 => ((F13 n s_Device_Usb s_Device_Class s_Device_Sub s_Device_Proto s_Device_Max0 s_Device_Vendor s_Device_Product s_Device_Release s_Device_Maker s_Device_Name s_Device_Serial s_Device_Configs s_Config_Value s_Config_Name s_Config_Attr s_Config_Power s_Config_Faces s_Texts).bind fun y_3 => (some (y_2 == y_3)))) = some r := h
  refine TS.seq ?_
  have hq : (True) ∧ ((True) ∧ (True)) := ⟨trivial, ⟨trivial, trivial⟩⟩
  refine TS.reg [] ?_ ?_
  · apply prop_of ?_ hq
    kernel_rfl
  refine XS.then ?_
  refine TS.seq ?_
  obtain ⟨y_2, hx1, h⟩ := bind_some' h
  obtain ⟨y_3, hx2, h⟩ := bind_some' h
  have hq : ((True) ∧ ((PureC Try.prog 12 [(.st (.cons (.st (.cons (.int .i64 s_Device_Usb) (.cons (.int .i64 s_Device_Class) (.cons (.int .i64 s_Device_Sub) (.cons (.int .i64 s_Device_Proto) (.cons (.int .i64 s_Device_Max0) (.cons (.int .i64 s_Device_Vendor) (.cons (.int .i64 s_Device_Product) (.cons (.int .i64 s_Device_Release) (.cons (.int .i64 s_Device_Maker) (.cons (.int .i64 s_Device_Name) (.cons (.int .i64 s_Device_Serial) (.int .i64 s_Device_Configs))))))))))))) (.cons (.st (.cons (.int .i64 s_Config_Value) (.cons (.int .i64 s_Config_Name) (.cons (.int .i64 s_Config_Attr) (.cons (.int .i64 s_Config_Power) (.sl (.st (.pair (.int .i64) (.pair (.int .i64) (.pair (.int .i64) (.pair (.int .i64) (.pair (.sl .str) (.sl (.st (.pair (.int .i64) (.pair .bool (.pair (.int .i64) (.pair (.int .i64) (.int .i64))))))))))))) s_Config_Faces)))))) (.sl .str s_Texts))))] (.int .i64 y_2) []) ∧ ((True) ∧ ((PureC Try.prog 13 [(.st (.cons (.st (.cons (.int .i64 s_Device_Usb) (.cons (.int .i64 s_Device_Class) (.cons (.int .i64 s_Device_Sub) (.cons (.int .i64 s_Device_Proto) (.cons (.int .i64 s_Device_Max0) (.cons (.int .i64 s_Device_Vendor) (.cons (.int .i64 s_Device_Product) (.cons (.int .i64 s_Device_Release) (.cons (.int .i64 s_Device_Maker) (.cons (.int .i64 s_Device_Name) (.cons (.int .i64 s_Device_Serial) (.int .i64 s_Device_Configs))))))))))))) (.cons (.st (.cons (.int .i64 s_Config_Value) (.cons (.int .i64 s_Config_Name) (.cons (.int .i64 s_Config_Attr) (.cons (.int .i64 s_Config_Power) (.sl (.st (.pair (.int .i64) (.pair (.int .i64) (.pair (.int .i64) (.pair (.int .i64) (.pair (.sl .str) (.sl (.st (.pair (.int .i64) (.pair .bool (.pair (.int .i64) (.pair (.int .i64) (.int .i64))))))))))))) s_Config_Faces)))))) (.sl .str s_Texts))))] (.int .i64 y_3) []) ∧ ((True) ∧ (True)))))) ∧ ((True) ∧ (True)) := ⟨⟨trivial, ⟨F12_ok n s_Device_Usb s_Device_Class s_Device_Sub s_Device_Proto s_Device_Max0 s_Device_Vendor s_Device_Product s_Device_Release s_Device_Maker s_Device_Name s_Device_Serial s_Device_Configs s_Config_Value s_Config_Name s_Config_Attr s_Config_Power s_Config_Faces s_Texts y_2 hx1, ⟨trivial, ⟨F13_ok n s_Device_Usb s_Device_Class s_Device_Sub s_Device_Proto s_Device_Max0 s_Device_Vendor s_Device_Product s_Device_Release s_Device_Maker s_Device_Name s_Device_Serial s_Device_Configs s_Config_Value s_Config_Name s_Config_Attr s_Config_Power s_Config_Faces s_Texts y_3 hx2, ⟨trivial, trivial⟩⟩⟩⟩⟩, ⟨trivial, trivial⟩⟩
  refine TS.draw 5 [] [.none, (.call (.int .i64 y_2) []), .none, (.call (.int .i64 y_3) [])] (by kernel_rfl) ?_ ?_
  · apply prop_of ?_ hq
    kernel_rfl
  refine XS.then ?_
  refine TS.ret ?_
  obtain rfl : (y_2 == y_3) = r := Option.some.inj h
  exact XS.fin [] ((True) ∧ (True)) (by kernel_rfl) ⟨trivial, trivial⟩
end Go.Proofs.Ytnibbbmjjdkkgaa
