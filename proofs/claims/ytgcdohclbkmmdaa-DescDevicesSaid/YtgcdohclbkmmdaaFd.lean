/- Functions of the program, as functions of values. -/
import Derived.Test.YtgcdohclbkmmdaaAm28
import Derived.Test.YtgcdohclbkmmdaaShelf
import Derived.Test.YtgcdohclbkmmdaaChecked
namespace Go.Proofs.Ytgcdohclbkmmdaa
open Go Go.RowKit
set_option linter.unusedVariables false
set_option maxRecDepth 100000

/-! plugtree/desc.within -/
def F68_l2 (n : Nat) (most : Int) (l : List Int) (k68_2 : Int → Option Bool) : Int → Option Bool
  | x => (bif (decide (x < ((l.length : Nat) : Int))) then (bif inb x l.length then (bif (decide ((l.getD x.toNat (0 : Int)) < (0 : Int))) then (some false) else (bif (decide ((l.getD x.toNat (0 : Int)) > most)) then (some false) else (k68_2 (IntKind.wrap .i64 (x + (1 : Int)))))) else none) else (some true))
def F68 (n : Nat) (most : Int) (l : List Int) : Option Bool := (loopF (F68_l2 n most l) n (0 : Int))
theorem F68_ok (n : Nat) (most : Int) (l : List Int) (r : Bool) (h : F68 n most l = some r) : PureC Try.prog 68 [(.int .i64 most), (.sl (.int .i64) l)] (.bool r) [] := by
  refine PureC.mkS Try.func68 rfl rfl ?_
  intro w0 fz0 hfz
  replace h : (loopF (F68_l2 n most l) n (0 : Int)) = some r := h
  refine TS.seq ?_
  have hq : (True) ∧ (True) := ⟨trivial, trivial⟩
  refine TS.reg [] ?_ ?_
  · apply prop_of ?_ hq
    kernel_rfl
  refine XS.then ?_
  refine TS.seq ?_
  refine TS.seq ?_
  have hq : (True) ∧ ((True) ∧ ((True) ∧ (True))) := ⟨trivial, ⟨trivial, ⟨trivial, trivial⟩⟩⟩
  refine TS.reg [] ?_ ?_
  · apply prop_of ?_ hq
    kernel_rfl
  refine XS.then ?_
  refine TS.block ?_
  refine TS.reLoop [] (mkMask 21 [0, 7, 8, 9]) (D := Int) (fun d => match d with | x => (mkTs 21 [(0, (.int .i64 most)), (7, (.sl (.int .i64) l)), (8, (.int .i64 ((l.length : Nat) : Int))), (9, (.int .i64 x))], [])) (fun n' d => loopF (F68_l2 n most l) n' d = some r) n (0 : Int) h ?_ (fun d => loopF_zero _ d r) ?_
  · kernel_rfl
  · rintro n2 x h
    replace h : (bif (decide (x < ((l.length : Nat) : Int))) then (bif inb x l.length then (bif (decide ((l.getD x.toNat (0 : Int)) < (0 : Int))) then (some false) else (bif (decide ((l.getD x.toNat (0 : Int)) > most)) then (some false) else ((loopF (F68_l2 n most l) n2) (IntKind.wrap .i64 (x + (1 : Int)))))) else none) else (some true)) = some r := h
    refine TS.seq ?_
    have hq : (True) ∧ (True) := ⟨trivial, trivial⟩
    refine TS.reg [] ?_ ?_
    · apply prop_of ?_ hq
      kernel_rfl
    refine XS.then ?_
    refine TS.seq ?_
    rcases bif_some h with ⟨c1, h⟩ | ⟨c2, h⟩
    · refine TS.cond (decide (x < ((l.length : Nat) : Int))) ?_ (fun e => ?_) (fun e => by rw [c1] at e; cases e)
      · kernel_rfl
      refine TS.skip ?_
      refine XS.then ?_
      refine TS.seq ?_
      refine TS.block ?_
      refine TS.seq ?_
      obtain ⟨t3, h⟩ := test_some h
      have hq : (inR x l.length) ∧ ((True) ∧ ((True) ∧ (True))) := ⟨inb_ok t3, ⟨trivial, ⟨trivial, trivial⟩⟩⟩
      refine TS.reg [] ?_ ?_
      · apply prop_of ?_ hq
        kernel_rfl
      refine XS.then ?_
      refine TS.seq ?_
      rcases bif_some h with ⟨c4, h⟩ | ⟨c5, h⟩
      · have hq : (True) ∧ ((True) ∧ (((True) ∧ (decide ((l.getD x.toNat (0 : Int)) < (0 : Int))) = true) ∧ ((True) ∧ (True)))) := ⟨trivial, ⟨trivial, ⟨⟨trivial, c4⟩, ⟨trivial, trivial⟩⟩⟩⟩
        refine TS.reg [.none, .none, .dec true] ?_ ?_
        · apply prop_of ?_ hq
          kernel_rfl
        refine XS.then ?_
        refine TS.yes ?_ ?_
        · kernel_rfl
        refine TS.seq ?_
        have hq : (True) ∧ (True) := ⟨trivial, trivial⟩
        refine TS.reg [] ?_ ?_
        · apply prop_of ?_ hq
          kernel_rfl
        refine XS.then ?_
        refine TS.ret ?_
        refine XS.blockRet ?_
        refine XS.passR ?_
        refine XS.passR ?_
        refine XS.blockRet ?_
        refine XS.passR ?_
        obtain rfl : false = r := Option.some.inj h
        exact XS.fin [] ((True) ∧ (True)) (by kernel_rfl) ⟨trivial, trivial⟩
      · have hq : (True) ∧ ((True) ∧ (((True) ∧ (decide ((l.getD x.toNat (0 : Int)) < (0 : Int))) = false) ∧ ((True) ∧ ((True) ∧ ((True) ∧ ((True) ∧ (True))))))) := ⟨trivial, ⟨trivial, ⟨⟨trivial, c5⟩, ⟨trivial, ⟨trivial, ⟨trivial, ⟨trivial, trivial⟩⟩⟩⟩⟩⟩⟩
        refine TS.reg [.none, .none, .dec false] ?_ ?_
        · apply prop_of ?_ hq
          kernel_rfl
        refine XS.then ?_
        rcases bif_some h with ⟨c6, h⟩ | ⟨c7, h⟩
        · refine TS.cond (decide ((l.getD x.toNat (0 : Int)) > most)) ?_ (fun e => ?_) (fun e => by rw [c6] at e; cases e)
          · kernel_rfl
          refine TS.seq ?_
          have hq : (True) ∧ (True) := ⟨trivial, trivial⟩
          refine TS.reg [] ?_ ?_
          · apply prop_of ?_ hq
            kernel_rfl
          refine XS.then ?_
          refine TS.ret ?_
          refine XS.blockRet ?_
          refine XS.passR ?_
          refine XS.passR ?_
          refine XS.blockRet ?_
          refine XS.passR ?_
          obtain rfl : false = r := Option.some.inj h
          exact XS.fin [] ((True) ∧ (True)) (by kernel_rfl) ⟨trivial, trivial⟩
        · refine TS.cond (decide ((l.getD x.toNat (0 : Int)) > most)) ?_ (fun e => by rw [c7] at e; cases e) (fun e => ?_)
          · kernel_rfl
          refine TS.skip ?_
          refine XS.blockEnd ?_
          refine XS.then ?_
          have hq : (True) ∧ ((True) ∧ (True)) := ⟨trivial, ⟨trivial, trivial⟩⟩
          refine TS.reg [] ?_ ?_
          · apply prop_of ?_ hq
            kernel_rfl
          refine XS.reAny [] (mkMask 21 [0, 7, 8, 9]) (IntKind.wrap .i64 (x + (1 : Int))) h ?_
          kernel_rfl
    · refine TS.cond (decide (x < ((l.length : Nat) : Int))) ?_ (fun e => by rw [c2] at e; cases e) (fun e => ?_)
      · kernel_rfl
      refine TS.exit ?_
      refine XS.passE ?_
      refine XS.passE ?_
      refine XS.out ?_
      refine XS.then ?_
      refine TS.seq ?_
      have hq : (True) ∧ (True) := ⟨trivial, trivial⟩
      refine TS.reg [] ?_ ?_
      · apply prop_of ?_ hq
        kernel_rfl
      refine XS.then ?_
      refine TS.ret ?_
      obtain rfl : true = r := Option.some.inj h
      exact XS.fin [] ((True) ∧ (True)) (by kernel_rfl) ⟨trivial, trivial⟩

/-! plugtree/desc.bytes -/
def F67 (n : Nat) (l : List Int) : Option Bool := ((F68 n (255 : Int) l).bind fun y_2 => (some y_2))
theorem F67_ok (n : Nat) (l : List Int) (r : Bool) (h : F67 n l = some r) : PureC Try.prog 67 [(.sl (.int .i64) l)] (.bool r) [] := by
  refine PureC.mkS Try.func67 rfl rfl ?_
  intro w0 fz0 hfz
  replace h : ((F68 n (255 : Int) l).bind fun y_2 => (some y_2)) = some r := h
  refine TS.seq ?_
  have hq : (True) ∧ (True) := ⟨trivial, trivial⟩
  refine TS.reg [] ?_ ?_
  · apply prop_of ?_ hq
    kernel_rfl
  refine XS.then ?_
  refine TS.seq ?_
  obtain ⟨y_2, hx1, h⟩ := bind_some' h
  have hq : (True) ∧ ((PureC Try.prog 68 [(.int .i64 (255 : Int)), (.sl (.int .i64) l)] (.bool y_2) []) ∧ ((True) ∧ (True))) := ⟨trivial, ⟨F68_ok n (255 : Int) l y_2 hx1, ⟨trivial, trivial⟩⟩⟩
  refine TS.reg [.none, (.call (.bool y_2) [])] ?_ ?_
  · apply prop_of ?_ hq
    kernel_rfl
  refine XS.then ?_
  refine TS.ret ?_
  obtain rfl : y_2 = r := Option.some.inj h
  exact XS.fin [] ((True) ∧ (True)) (by kernel_rfl) ⟨trivial, trivial⟩

/-! plugtree/desc.put -/
def F69_l2 (n : Nat) (l : List Int) (k69_2 : (Int × (List Int)) → Option (List UInt8)) : (Int × (List Int)) → Option (List UInt8)
  | (x, m0) => (bif (decide (x < ((l.length : Nat) : Int))) then (bif inb x l.length then (bif (decide (m0.length + [(IntKind.wrap .u8 ((l.getD x.toNat (0 : Int))))].length ≤ 17179869184)) then (k69_2 ((IntKind.wrap .i64 (x + (1 : Int))), (m0 ++ [(IntKind.wrap .u8 ((l.getD x.toNat (0 : Int))))]))) else none) else none) else (some (strOf m0)))
def F69 (n : Nat) (l : List Int) : Option (List UInt8) := (loopF (F69_l2 n l) n ((0 : Int), ([] : List Int)))
theorem F69_ok (n : Nat) (l : List Int) (r : List UInt8) (h : F69 n l = some r) : PureC Try.prog 69 [(.sl (.int .i64) l)] (.str r) [] := by
  refine PureC.mkS Try.func69 rfl rfl ?_
  intro w0 fz0 hfz
  replace h : (loopF (F69_l2 n l) n ((0 : Int), ([] : List Int))) = some r := h
  refine TS.seq ?_
  have hq : (True) ∧ (True) := ⟨trivial, trivial⟩
  refine TS.reg [] ?_ ?_
  · apply prop_of ?_ hq
    kernel_rfl
  refine XS.then ?_
  refine TS.seq ?_
  have hq : (True) ∧ (True) := ⟨trivial, trivial⟩
  refine TS.reg [] ?_ ?_
  · apply prop_of ?_ hq
    kernel_rfl
  refine XS.then ?_
  refine TS.seq ?_
  refine TS.seq ?_
  have hq : (True) ∧ ((True) ∧ ((True) ∧ (True))) := ⟨trivial, ⟨trivial, ⟨trivial, trivial⟩⟩⟩
  refine TS.reg [] ?_ ?_
  · apply prop_of ?_ hq
    kernel_rfl
  refine XS.then ?_
  refine TS.block ?_
  refine TS.wk (.row false 3 [] 5 (.int .u8)) ?_
  refine TS.reLoop [0] (mkMask 20 [3, 6, 7, 8]) (D := Int × (List Int)) (fun d => match d with | (x, m0) => (mkTs 20 [(3, (.row 0)), (6, (.sl (.int .i64) l)), (7, (.int .i64 ((l.length : Nat) : Int))), (8, (.int .i64 x))], [(.row 5 (.int .u8) m0)])) (fun n' d => loopF (F69_l2 n l) n' d = some r) n ((0 : Int), ([] : List Int)) h ?_ (fun d => loopF_zero _ d r) ?_
  · kernel_rfl
  · rintro n2 ⟨x, m0⟩ h
    replace h : (bif (decide (x < ((l.length : Nat) : Int))) then (bif inb x l.length then (bif (decide (m0.length + [(IntKind.wrap .u8 ((l.getD x.toNat (0 : Int))))].length ≤ 17179869184)) then ((loopF (F69_l2 n l) n2) ((IntKind.wrap .i64 (x + (1 : Int))), (m0 ++ [(IntKind.wrap .u8 ((l.getD x.toNat (0 : Int))))]))) else none) else none) else (some (strOf m0))) = some r := h
    refine TS.seq ?_
    have hq : (True) ∧ (True) := ⟨trivial, trivial⟩
    refine TS.reg [] ?_ ?_
    · apply prop_of ?_ hq
      kernel_rfl
    refine XS.then ?_
    refine TS.seq ?_
    rcases bif_some h with ⟨c1, h⟩ | ⟨c2, h⟩
    · refine TS.cond (decide (x < ((l.length : Nat) : Int))) ?_ (fun e => ?_) (fun e => by rw [c1] at e; cases e)
      · kernel_rfl
      refine TS.skip ?_
      refine XS.then ?_
      refine TS.seq ?_
      refine TS.block ?_
      refine TS.seq ?_
      obtain ⟨t3, h⟩ := test_some h
      have hq : (inR x l.length) ∧ ((True) ∧ ((True) ∧ (True))) := ⟨inb_ok t3, ⟨trivial, ⟨trivial, trivial⟩⟩⟩
      refine TS.reg [] ?_ ?_
      · apply prop_of ?_ hq
        kernel_rfl
      refine XS.then ?_
      obtain ⟨t4, h⟩ := test_some h
      have hq : (True) ∧ ((True) ∧ ((True) ∧ (((0 < 1 ∧ True) ∧ (True)) ∧ ((m0.length + [(IntKind.wrap .u8 ((l.getD x.toNat (0 : Int))))].length ≤ 17179869184) ∧ ((True) ∧ (True)))))) := ⟨trivial, ⟨trivial, ⟨trivial, ⟨⟨⟨by decide, trivial⟩, trivial⟩, ⟨of_decide_eq_true t4, ⟨trivial, trivial⟩⟩⟩⟩⟩⟩
      refine TS.reg [] ?_ ?_
      · apply prop_of ?_ hq
        kernel_rfl
      refine XS.blockEnd ?_
      refine XS.then ?_
      have hq : (True) ∧ ((True) ∧ (True)) := ⟨trivial, ⟨trivial, trivial⟩⟩
      refine TS.reg [] ?_ ?_
      · apply prop_of ?_ hq
        kernel_rfl
      refine XS.reAny [2] (mkMask 20 [3, 6, 7, 8]) ((IntKind.wrap .i64 (x + (1 : Int))), (m0 ++ [(IntKind.wrap .u8 ((l.getD x.toNat (0 : Int))))])) h ?_
      kernel_rfl
    · refine TS.cond (decide (x < ((l.length : Nat) : Int))) ?_ (fun e => by rw [c2] at e; cases e) (fun e => ?_)
      · kernel_rfl
      refine TS.exit ?_
      refine XS.passE ?_
      refine XS.passE ?_
      refine XS.out ?_
      refine XS.then ?_
      refine TS.seq ?_
      have hq : (True) ∧ ((True) ∧ ((True) ∧ (True))) := ⟨trivial, ⟨trivial, ⟨trivial, trivial⟩⟩⟩
      refine TS.reg [] ?_ ?_
      · apply prop_of ?_ hq
        kernel_rfl
      refine XS.then ?_
      refine TS.ret ?_
      obtain rfl : (strOf m0) = r := Option.some.inj h
      exact XS.fin [] ((True) ∧ (True)) (by kernel_rfl) ⟨trivial, trivial⟩

/-! plugtree/desc.word -/
def F70 (n : Nat) (vn : Int) : Option (List UInt8) := ((F69 n [vn, (shrI .i64 vn (8 : Int))]).bind fun y_2 => (some y_2))
theorem F70_ok (n : Nat) (vn : Int) (r : List UInt8) (h : F70 n vn = some r) : PureC Try.prog 70 [(.int .i64 vn)] (.str r) [] := by
  refine PureC.mkS Try.func70 rfl rfl ?_
  intro w0 fz0 hfz
  replace h : ((F69 n [vn, (shrI .i64 vn (8 : Int))]).bind fun y_2 => (some y_2)) = some r := h
  refine TS.seq ?_
  have hq : (True) ∧ (True) := ⟨trivial, trivial⟩
  refine TS.reg [] ?_ ?_
  · apply prop_of ?_ hq
    kernel_rfl
  refine XS.then ?_
  refine TS.seq ?_
  obtain ⟨y_2, hx1, h⟩ := bind_some' h
  have hq : (True) ∧ ((True) ∧ ((0 ≤ (8 : Int)) ∧ (((0 < 2 ∧ True) ∧ ((1 < 2 ∧ True) ∧ (True))) ∧ ((((True) ∧ (True)) ∧ PureC Try.prog 69 [(.sl (.int .i64) [vn, (shrI .i64 vn (8 : Int))])] (.str y_2) []) ∧ ((True) ∧ (True)))))) := ⟨trivial, ⟨trivial, ⟨by decide, ⟨⟨⟨by decide, trivial⟩, ⟨⟨by decide, trivial⟩, trivial⟩⟩, ⟨⟨⟨trivial, trivial⟩, F69_ok n [vn, (shrI .i64 vn (8 : Int))] y_2 hx1⟩, ⟨trivial, trivial⟩⟩⟩⟩⟩⟩
  refine TS.reg [.none, .none, .none, .none, (.call (.str y_2) [])] ?_ ?_
  · apply prop_of ?_ hq
    kernel_rfl
  refine XS.then ?_
  refine TS.ret ?_
  obtain rfl : y_2 = r := Option.some.inj h
  exact XS.fin [] ((True) ∧ (True)) (by kernel_rfl) ⟨trivial, trivial⟩

/-! plugtree/desc.WriteDevice -/
def F18_j4 (n : Nat) (d_Usb : Int) (d_Class : Int) (d_Sub : Int) (d_Proto : Int) (d_Max0 : Int) (d_Vendor : Int) (d_Product : Int) (d_Release : Int) (d_Maker : Int) (d_Name : Int) (d_Serial : Int) (d_Configs : Int) : Bool → Option ((List UInt8) × Int)
  | x => (bif x then (some (([] : List UInt8), (1 : Int))) else ((F69 n [(18 : Int), (1 : Int)]).bind fun y_3 => ((F70 n d_Usb).bind fun y_4 => (bif (decide (y_3.length + y_4.length ≤ 9223372036854775807)) then ((F69 n [d_Class, d_Sub, d_Proto, d_Max0]).bind fun y_5 => (bif (decide ((y_3 ++ y_4).length + y_5.length ≤ 9223372036854775807)) then ((F70 n d_Vendor).bind fun y_6 => (bif (decide (((y_3 ++ y_4) ++ y_5).length + y_6.length ≤ 9223372036854775807)) then ((F70 n d_Product).bind fun y_7 => (bif (decide ((((y_3 ++ y_4) ++ y_5) ++ y_6).length + y_7.length ≤ 9223372036854775807)) then ((F70 n d_Release).bind fun y_8 => (bif (decide (((((y_3 ++ y_4) ++ y_5) ++ y_6) ++ y_7).length + y_8.length ≤ 9223372036854775807)) then ((F69 n [d_Maker, d_Name, d_Serial, d_Configs]).bind fun y_9 => (bif (decide ((((((y_3 ++ y_4) ++ y_5) ++ y_6) ++ y_7) ++ y_8).length + y_9.length ≤ 9223372036854775807)) then (some (((((((y_3 ++ y_4) ++ y_5) ++ y_6) ++ y_7) ++ y_8) ++ y_9), (0 : Int))) else none)) else none)) else none)) else none)) else none)) else none))))
def F18_j3 (n : Nat) (d_Usb : Int) (d_Class : Int) (d_Sub : Int) (d_Proto : Int) (d_Max0 : Int) (d_Vendor : Int) (d_Product : Int) (d_Release : Int) (d_Maker : Int) (d_Name : Int) (d_Serial : Int) (d_Configs : Int) : Bool → Option ((List UInt8) × Int)
  | size => ((F67 n [d_Class, d_Sub, d_Proto, d_Maker, d_Name, d_Serial]).bind fun y_10 => (bif (!y_10) then (F18_j4 n d_Usb d_Class d_Sub d_Proto d_Max0 d_Vendor d_Product d_Release d_Maker d_Name d_Serial d_Configs true) else ((F68 n (65535 : Int) [d_Usb, d_Vendor, d_Product, d_Release]).bind fun y_11 => (bif (!y_11) then (F18_j4 n d_Usb d_Class d_Sub d_Proto d_Max0 d_Vendor d_Product d_Release d_Maker d_Name d_Serial d_Configs true) else (bif (!size) then (F18_j4 n d_Usb d_Class d_Sub d_Proto d_Max0 d_Vendor d_Product d_Release d_Maker d_Name d_Serial d_Configs true) else (bif (decide (d_Configs < (1 : Int))) then (F18_j4 n d_Usb d_Class d_Sub d_Proto d_Max0 d_Vendor d_Product d_Release d_Maker d_Name d_Serial d_Configs true) else (F18_j4 n d_Usb d_Class d_Sub d_Proto d_Max0 d_Vendor d_Product d_Release d_Maker d_Name d_Serial d_Configs (decide (d_Configs > (255 : Int))))))))))
def F18 (n : Nat) (d_Usb : Int) (d_Class : Int) (d_Sub : Int) (d_Proto : Int) (d_Max0 : Int) (d_Vendor : Int) (d_Product : Int) (d_Release : Int) (d_Maker : Int) (d_Name : Int) (d_Serial : Int) (d_Configs : Int) : Option ((List UInt8) × Int) := (bif (d_Max0 == (8 : Int)) then (F18_j3 n d_Usb d_Class d_Sub d_Proto d_Max0 d_Vendor d_Product d_Release d_Maker d_Name d_Serial d_Configs true) else (bif (d_Max0 == (16 : Int)) then (F18_j3 n d_Usb d_Class d_Sub d_Proto d_Max0 d_Vendor d_Product d_Release d_Maker d_Name d_Serial d_Configs true) else (bif (d_Max0 == (32 : Int)) then (F18_j3 n d_Usb d_Class d_Sub d_Proto d_Max0 d_Vendor d_Product d_Release d_Maker d_Name d_Serial d_Configs true) else (F18_j3 n d_Usb d_Class d_Sub d_Proto d_Max0 d_Vendor d_Product d_Release d_Maker d_Name d_Serial d_Configs (d_Max0 == (64 : Int))))))
theorem F18_ok (n : Nat) (d_Usb : Int) (d_Class : Int) (d_Sub : Int) (d_Proto : Int) (d_Max0 : Int) (d_Vendor : Int) (d_Product : Int) (d_Release : Int) (d_Maker : Int) (d_Name : Int) (d_Serial : Int) (d_Configs : Int) (r : (List UInt8) × Int) (h : F18 n d_Usb d_Class d_Sub d_Proto d_Max0 d_Vendor d_Product d_Release d_Maker d_Name d_Serial d_Configs = some r) : PureC Try.prog 18 [(.st (.cons (.int .i64 d_Usb) (.cons (.int .i64 d_Class) (.cons (.int .i64 d_Sub) (.cons (.int .i64 d_Proto) (.cons (.int .i64 d_Max0) (.cons (.int .i64 d_Vendor) (.cons (.int .i64 d_Product) (.cons (.int .i64 d_Release) (.cons (.int .i64 d_Maker) (.cons (.int .i64 d_Name) (.cons (.int .i64 d_Serial) (.int .i64 d_Configs)))))))))))))] (.tup (.cons (.str r.1) (.cons (.int .i64 r.2) .nil))) [] := by
  refine PureC.mkS Try.func18 rfl rfl ?_
  intro w0 fz0 hfz
  replace h : (bif (d_Max0 == (8 : Int)) then (F18_j3 n d_Usb d_Class d_Sub d_Proto d_Max0 d_Vendor d_Product d_Release d_Maker d_Name d_Serial d_Configs true) else (bif (d_Max0 == (16 : Int)) then (F18_j3 n d_Usb d_Class d_Sub d_Proto d_Max0 d_Vendor d_Product d_Release d_Maker d_Name d_Serial d_Configs true) else (bif (d_Max0 == (32 : Int)) then (F18_j3 n d_Usb d_Class d_Sub d_Proto d_Max0 d_Vendor d_Product d_Release d_Maker d_Name d_Serial d_Configs true) else (F18_j3 n d_Usb d_Class d_Sub d_Proto d_Max0 d_Vendor d_Product d_Release d_Maker d_Name d_Serial d_Configs (d_Max0 == (64 : Int)))))) = some r := h
  refine TS.seq ?_
  have hq : (True) ∧ ((True) ∧ ((True) ∧ (True))) := ⟨trivial, ⟨trivial, ⟨trivial, trivial⟩⟩⟩
  refine TS.reg [] ?_ ?_
  · apply prop_of ?_ hq
    kernel_rfl
  refine XS.then ?_
  refine TS.seq ?_
  refine TS.cut (D := Bool) (fun d => match d with | size => (mkTs 105 [(1, (.ptr 0 [])), (4, (.bool size))], [(.box 34 (.st (.cons (.int .i64 d_Usb) (.cons (.int .i64 d_Class) (.cons (.int .i64 d_Sub) (.cons (.int .i64 d_Proto) (.cons (.int .i64 d_Max0) (.cons (.int .i64 d_Vendor) (.cons (.int .i64 d_Product) (.cons (.int .i64 d_Release) (.cons (.int .i64 d_Maker) (.cons (.int .i64 d_Name) (.cons (.int .i64 d_Serial) (.int .i64 d_Configs))))))))))))))])) (fun d => F18_j3 n d_Usb d_Class d_Sub d_Proto d_Max0 d_Vendor d_Product d_Release d_Maker d_Name d_Serial d_Configs d = some r) ?_ ?_
  · rintro size h
    replace h : ((F67 n [d_Class, d_Sub, d_Proto, d_Maker, d_Name, d_Serial]).bind fun y_10 => (bif (!y_10) then (F18_j4 n d_Usb d_Class d_Sub d_Proto d_Max0 d_Vendor d_Product d_Release d_Maker d_Name d_Serial d_Configs true) else ((F68 n (65535 : Int) [d_Usb, d_Vendor, d_Product, d_Release]).bind fun y_11 => (bif (!y_11) then (F18_j4 n d_Usb d_Class d_Sub d_Proto d_Max0 d_Vendor d_Product d_Release d_Maker d_Name d_Serial d_Configs true) else (bif (!size) then (F18_j4 n d_Usb d_Class d_Sub d_Proto d_Max0 d_Vendor d_Product d_Release d_Maker d_Name d_Serial d_Configs true) else (bif (decide (d_Configs < (1 : Int))) then (F18_j4 n d_Usb d_Class d_Sub d_Proto d_Max0 d_Vendor d_Product d_Release d_Maker d_Name d_Serial d_Configs true) else (F18_j4 n d_Usb d_Class d_Sub d_Proto d_Max0 d_Vendor d_Product d_Release d_Maker d_Name d_Serial d_Configs (decide (d_Configs > (255 : Int)))))))))) = some r := h
    refine XS.then ?_
    refine TS.seq ?_
    refine TS.seq ?_
    refine TS.cut (D := Bool) (fun d => match d with | x => (mkTs 105 [(1, (.ptr 0 [])), (64, (.bool x))], [(.box 34 (.st (.cons (.int .i64 d_Usb) (.cons (.int .i64 d_Class) (.cons (.int .i64 d_Sub) (.cons (.int .i64 d_Proto) (.cons (.int .i64 d_Max0) (.cons (.int .i64 d_Vendor) (.cons (.int .i64 d_Product) (.cons (.int .i64 d_Release) (.cons (.int .i64 d_Maker) (.cons (.int .i64 d_Name) (.cons (.int .i64 d_Serial) (.int .i64 d_Configs))))))))))))))])) (fun d => F18_j4 n d_Usb d_Class d_Sub d_Proto d_Max0 d_Vendor d_Product d_Release d_Maker d_Name d_Serial d_Configs d = some r) ?_ ?_
    · rintro x h
      replace h : (bif x then (some (([] : List UInt8), (1 : Int))) else ((F69 n [(18 : Int), (1 : Int)]).bind fun y_3 => ((F70 n d_Usb).bind fun y_4 => (bif (decide (y_3.length + y_4.length ≤ 9223372036854775807)) then ((F69 n [d_Class, d_Sub, d_Proto, d_Max0]).bind fun y_5 => (bif (decide ((y_3 ++ y_4).length + y_5.length ≤ 9223372036854775807)) then ((F70 n d_Vendor).bind fun y_6 => (bif (decide (((y_3 ++ y_4) ++ y_5).length + y_6.length ≤ 9223372036854775807)) then ((F70 n d_Product).bind fun y_7 => (bif (decide ((((y_3 ++ y_4) ++ y_5) ++ y_6).length + y_7.length ≤ 9223372036854775807)) then ((F70 n d_Release).bind fun y_8 => (bif (decide (((((y_3 ++ y_4) ++ y_5) ++ y_6) ++ y_7).length + y_8.length ≤ 9223372036854775807)) then ((F69 n [d_Maker, d_Name, d_Serial, d_Configs]).bind fun y_9 => (bif (decide ((((((y_3 ++ y_4) ++ y_5) ++ y_6) ++ y_7) ++ y_8).length + y_9.length ≤ 9223372036854775807)) then (some (((((((y_3 ++ y_4) ++ y_5) ++ y_6) ++ y_7) ++ y_8) ++ y_9), (0 : Int))) else none)) else none)) else none)) else none)) else none)) else none)))) = some r := h
      refine XS.then ?_
      rcases bif_some h with ⟨c1, h⟩ | ⟨c2, h⟩
      · refine TS.cond x ?_ (fun e => ?_) (fun e => by rw [c1] at e; cases e)
        · kernel_rfl
        refine TS.seq ?_
        have hq : (True) ∧ ((True) ∧ (True)) := ⟨trivial, ⟨trivial, trivial⟩⟩
        refine TS.reg [] ?_ ?_
        · apply prop_of ?_ hq
          kernel_rfl
        refine XS.then ?_
        refine TS.ret ?_
        refine XS.passR ?_
        obtain rfl : (([] : List UInt8), (1 : Int)) = r := Option.some.inj h
        exact XS.fin [] ((True) ∧ ((True) ∧ (True))) (by kernel_rfl) ⟨trivial, ⟨trivial, trivial⟩⟩
      · refine TS.cond x ?_ (fun e => by rw [c2] at e; cases e) (fun e => ?_)
        · kernel_rfl
        refine TS.skip ?_
        refine XS.then ?_
        refine TS.seq ?_
        obtain ⟨y_3, hx3, h⟩ := bind_some' h
        obtain ⟨y_4, hx4, h⟩ := bind_some' h
        obtain ⟨t5, h⟩ := test_some h
        obtain ⟨y_5, hx6, h⟩ := bind_some' h
        obtain ⟨t7, h⟩ := test_some h
        obtain ⟨y_6, hx8, h⟩ := bind_some' h
        obtain ⟨t9, h⟩ := test_some h
        obtain ⟨y_7, hx10, h⟩ := bind_some' h
        obtain ⟨t11, h⟩ := test_some h
        obtain ⟨y_8, hx12, h⟩ := bind_some' h
        obtain ⟨t13, h⟩ := test_some h
        obtain ⟨y_9, hx14, h⟩ := bind_some' h
        obtain ⟨t15, h⟩ := test_some h
        have hq : (((0 < 2 ∧ True) ∧ ((1 < 2 ∧ True) ∧ (True))) ∧ ((((True) ∧ (True)) ∧ PureC Try.prog 69 [(.sl (.int .i64) [(18 : Int), (1 : Int)])] (.str y_3) []) ∧ ((True) ∧ ((True) ∧ ((PureC Try.prog 70 [(.int .i64 d_Usb)] (.str y_4) []) ∧ ((y_3.length + y_4.length ≤ 9223372036854775807) ∧ ((True) ∧ ((True) ∧ ((True) ∧ ((True) ∧ ((True) ∧ ((True) ∧ ((True) ∧ ((True) ∧ (((0 < 4 ∧ True) ∧ ((1 < 4 ∧ True) ∧ ((2 < 4 ∧ True) ∧ ((3 < 4 ∧ True) ∧ (True))))) ∧ ((((True) ∧ (True)) ∧ PureC Try.prog 69 [(.sl (.int .i64) [d_Class, d_Sub, d_Proto, d_Max0])] (.str y_5) []) ∧ (((y_3 ++ y_4).length + y_5.length ≤ 9223372036854775807) ∧ ((True) ∧ ((True) ∧ ((PureC Try.prog 70 [(.int .i64 d_Vendor)] (.str y_6) []) ∧ ((((y_3 ++ y_4) ++ y_5).length + y_6.length ≤ 9223372036854775807) ∧ ((True) ∧ ((True) ∧ ((PureC Try.prog 70 [(.int .i64 d_Product)] (.str y_7) []) ∧ (((((y_3 ++ y_4) ++ y_5) ++ y_6).length + y_7.length ≤ 9223372036854775807) ∧ ((True) ∧ ((True) ∧ ((PureC Try.prog 70 [(.int .i64 d_Release)] (.str y_8) []) ∧ ((((((y_3 ++ y_4) ++ y_5) ++ y_6) ++ y_7).length + y_8.length ≤ 9223372036854775807) ∧ ((True) ∧ ((True) ∧ ((True) ∧ ((True) ∧ ((True) ∧ ((True) ∧ ((True) ∧ ((True) ∧ (((0 < 4 ∧ True) ∧ ((1 < 4 ∧ True) ∧ ((2 < 4 ∧ True) ∧ ((3 < 4 ∧ True) ∧ (True))))) ∧ ((((True) ∧ (True)) ∧ PureC Try.prog 69 [(.sl (.int .i64) [d_Maker, d_Name, d_Serial, d_Configs])] (.str y_9) []) ∧ (((((((y_3 ++ y_4) ++ y_5) ++ y_6) ++ y_7) ++ y_8).length + y_9.length ≤ 9223372036854775807) ∧ (True))))))))))))))))))))))))))))))))))))))))) ∧ ((True) ∧ ((True) ∧ (True))) := ⟨⟨⟨⟨by decide, trivial⟩, ⟨⟨by decide, trivial⟩, trivial⟩⟩, ⟨⟨⟨trivial, trivial⟩, F69_ok n [(18 : Int), (1 : Int)] y_3 hx3⟩, ⟨trivial, ⟨trivial, ⟨F70_ok n d_Usb y_4 hx4, ⟨of_decide_eq_true t5, ⟨trivial, ⟨trivial, ⟨trivial, ⟨trivial, ⟨trivial, ⟨trivial, ⟨trivial, ⟨trivial, ⟨⟨⟨by decide, trivial⟩, ⟨⟨by decide, trivial⟩, ⟨⟨by decide, trivial⟩, ⟨⟨by decide, trivial⟩, trivial⟩⟩⟩⟩, ⟨⟨⟨trivial, trivial⟩, F69_ok n [d_Class, d_Sub, d_Proto, d_Max0] y_5 hx6⟩, ⟨of_decide_eq_true t7, ⟨trivial, ⟨trivial, ⟨F70_ok n d_Vendor y_6 hx8, ⟨of_decide_eq_true t9, ⟨trivial, ⟨trivial, ⟨F70_ok n d_Product y_7 hx10, ⟨of_decide_eq_true t11, ⟨trivial, ⟨trivial, ⟨F70_ok n d_Release y_8 hx12, ⟨of_decide_eq_true t13, ⟨trivial, ⟨trivial, ⟨trivial, ⟨trivial, ⟨trivial, ⟨trivial, ⟨trivial, ⟨trivial, ⟨⟨⟨by decide, trivial⟩, ⟨⟨by decide, trivial⟩, ⟨⟨by decide, trivial⟩, ⟨⟨by decide, trivial⟩, trivial⟩⟩⟩⟩, ⟨⟨⟨trivial, trivial⟩, F69_ok n [d_Maker, d_Name, d_Serial, d_Configs] y_9 hx14⟩, ⟨of_decide_eq_true t15, trivial⟩⟩⟩⟩⟩⟩⟩⟩⟩⟩⟩⟩⟩⟩⟩⟩⟩⟩⟩⟩⟩⟩⟩⟩⟩⟩⟩⟩⟩⟩⟩⟩⟩⟩⟩⟩⟩⟩⟩⟩, ⟨trivial, ⟨trivial, trivial⟩⟩⟩
        refine TS.draw 40 [] [.none, (.call (.str y_3) []), .none, .none, (.call (.str y_4) []), .none, .none, .none, .none, .none, .none, .none, .none, .none, .none, (.call (.str y_5) []), .none, .none, .none, (.call (.str y_6) []), .none, .none, .none, (.call (.str y_7) []), .none, .none, .none, (.call (.str y_8) []), .none, .none, .none, .none, .none, .none, .none, .none, .none, .none, (.call (.str y_9) [])] (by kernel_rfl) ?_ ?_
        · apply prop_of ?_ hq
          kernel_rfl
        refine XS.then ?_
        refine TS.ret ?_
        obtain rfl : (((((((y_3 ++ y_4) ++ y_5) ++ y_6) ++ y_7) ++ y_8) ++ y_9), (0 : Int)) = r := Option.some.inj h
        exact XS.fin [] ((True) ∧ ((True) ∧ (True))) (by kernel_rfl) ⟨trivial, ⟨trivial, trivial⟩⟩
    · obtain ⟨y_10, hx16, h⟩ := bind_some' h
      rcases bif_some h with ⟨c17, h⟩ | ⟨c18, h⟩
      · have hq : (True) ∧ ((True) ∧ ((True) ∧ ((True) ∧ ((True) ∧ ((True) ∧ ((True) ∧ ((True) ∧ ((True) ∧ ((True) ∧ ((True) ∧ ((True) ∧ (((0 < 6 ∧ True) ∧ ((1 < 6 ∧ True) ∧ ((2 < 6 ∧ True) ∧ ((3 < 6 ∧ True) ∧ ((4 < 6 ∧ True) ∧ ((5 < 6 ∧ True) ∧ (True))))))) ∧ ((((True) ∧ (True)) ∧ PureC Try.prog 67 [(.sl (.int .i64) [d_Class, d_Sub, d_Proto, d_Maker, d_Name, d_Serial])] (.bool y_10) []) ∧ ((True) ∧ (((True) ∧ (!y_10) = true) ∧ ((True) ∧ ((True) ∧ ((True) ∧ ((True) ∧ ((True) ∧ ((True) ∧ ((True) ∧ (True))))))))))))))))))))))) := ⟨trivial, ⟨trivial, ⟨trivial, ⟨trivial, ⟨trivial, ⟨trivial, ⟨trivial, ⟨trivial, ⟨trivial, ⟨trivial, ⟨trivial, ⟨trivial, ⟨⟨⟨by decide, trivial⟩, ⟨⟨by decide, trivial⟩, ⟨⟨by decide, trivial⟩, ⟨⟨by decide, trivial⟩, ⟨⟨by decide, trivial⟩, ⟨⟨by decide, trivial⟩, trivial⟩⟩⟩⟩⟩⟩, ⟨⟨⟨trivial, trivial⟩, F67_ok n [d_Class, d_Sub, d_Proto, d_Maker, d_Name, d_Serial] y_10 hx16⟩, ⟨trivial, ⟨⟨trivial, c17⟩, ⟨trivial, ⟨trivial, ⟨trivial, ⟨trivial, ⟨trivial, ⟨trivial, ⟨trivial, trivial⟩⟩⟩⟩⟩⟩⟩⟩⟩⟩⟩⟩⟩⟩⟩⟩⟩⟩⟩⟩⟩⟩⟩
        refine TS.reg [.none, .none, .none, .none, .none, .none, .none, .none, .none, .none, .none, .none, .none, (.call (.bool y_10) []), .none, .dec true] ?_ ?_
        · apply prop_of ?_ hq
          kernel_rfl
        refine XS.reAny [0] (mkMask 105 [1, 64]) true h ?_
        kernel_rfl
      · obtain ⟨y_11, hx19, h⟩ := bind_some' h
        rcases bif_some h with ⟨c20, h⟩ | ⟨c21, h⟩
        · have hq : (True) ∧ ((True) ∧ ((True) ∧ ((True) ∧ ((True) ∧ ((True) ∧ ((True) ∧ ((True) ∧ ((True) ∧ ((True) ∧ ((True) ∧ ((True) ∧ (((0 < 6 ∧ True) ∧ ((1 < 6 ∧ True) ∧ ((2 < 6 ∧ True) ∧ ((3 < 6 ∧ True) ∧ ((4 < 6 ∧ True) ∧ ((5 < 6 ∧ True) ∧ (True))))))) ∧ ((((True) ∧ (True)) ∧ PureC Try.prog 67 [(.sl (.int .i64) [d_Class, d_Sub, d_Proto, d_Maker, d_Name, d_Serial])] (.bool y_10) []) ∧ ((True) ∧ (((True) ∧ (!y_10) = false) ∧ ((True) ∧ ((True) ∧ ((True) ∧ ((True) ∧ ((True) ∧ ((True) ∧ ((True) ∧ ((True) ∧ (((0 < 4 ∧ True) ∧ ((1 < 4 ∧ True) ∧ ((2 < 4 ∧ True) ∧ ((3 < 4 ∧ True) ∧ (True))))) ∧ ((((True) ∧ ((True) ∧ (True))) ∧ PureC Try.prog 68 [(.int .i64 (65535 : Int)), (.sl (.int .i64) [d_Usb, d_Vendor, d_Product, d_Release])] (.bool y_11) []) ∧ ((True) ∧ ((True) ∧ (((True) ∧ (!y_11) = true) ∧ ((True) ∧ ((True) ∧ ((True) ∧ ((True) ∧ ((True) ∧ (True)))))))))))))))))))))))))))))))))) := ⟨trivial, ⟨trivial, ⟨trivial, ⟨trivial, ⟨trivial, ⟨trivial, ⟨trivial, ⟨trivial, ⟨trivial, ⟨trivial, ⟨trivial, ⟨trivial, ⟨⟨⟨by decide, trivial⟩, ⟨⟨by decide, trivial⟩, ⟨⟨by decide, trivial⟩, ⟨⟨by decide, trivial⟩, ⟨⟨by decide, trivial⟩, ⟨⟨by decide, trivial⟩, trivial⟩⟩⟩⟩⟩⟩, ⟨⟨⟨trivial, trivial⟩, F67_ok n [d_Class, d_Sub, d_Proto, d_Maker, d_Name, d_Serial] y_10 hx16⟩, ⟨trivial, ⟨⟨trivial, c18⟩, ⟨trivial, ⟨trivial, ⟨trivial, ⟨trivial, ⟨trivial, ⟨trivial, ⟨trivial, ⟨trivial, ⟨⟨⟨by decide, trivial⟩, ⟨⟨by decide, trivial⟩, ⟨⟨by decide, trivial⟩, ⟨⟨by decide, trivial⟩, trivial⟩⟩⟩⟩, ⟨⟨⟨trivial, ⟨trivial, trivial⟩⟩, F68_ok n (65535 : Int) [d_Usb, d_Vendor, d_Product, d_Release] y_11 hx19⟩, ⟨trivial, ⟨trivial, ⟨⟨trivial, c20⟩, ⟨trivial, ⟨trivial, ⟨trivial, ⟨trivial, ⟨trivial, trivial⟩⟩⟩⟩⟩⟩⟩⟩⟩⟩⟩⟩⟩⟩⟩⟩⟩⟩⟩⟩⟩⟩⟩⟩⟩⟩⟩⟩⟩⟩⟩⟩⟩⟩
          refine TS.reg [.none, .none, .none, .none, .none, .none, .none, .none, .none, .none, .none, .none, .none, (.call (.bool y_10) []), .none, .dec false, .none, .none, .none, .none, .none, .none, .none, .none, .none, (.call (.bool y_11) []), .none, .none, .dec true] ?_ ?_
          · apply prop_of ?_ hq
            kernel_rfl
          refine XS.reAny [0] (mkMask 105 [1, 64]) true h ?_
          kernel_rfl
        · rcases bif_some h with ⟨c22, h⟩ | ⟨c23, h⟩
          · have hq : (True) ∧ ((True) ∧ ((True) ∧ ((True) ∧ ((True) ∧ ((True) ∧ ((True) ∧ ((True) ∧ ((True) ∧ ((True) ∧ ((True) ∧ ((True) ∧ (((0 < 6 ∧ True) ∧ ((1 < 6 ∧ True) ∧ ((2 < 6 ∧ True) ∧ ((3 < 6 ∧ True) ∧ ((4 < 6 ∧ True) ∧ ((5 < 6 ∧ True) ∧ (True))))))) ∧ ((((True) ∧ (True)) ∧ PureC Try.prog 67 [(.sl (.int .i64) [d_Class, d_Sub, d_Proto, d_Maker, d_Name, d_Serial])] (.bool y_10) []) ∧ ((True) ∧ (((True) ∧ (!y_10) = false) ∧ ((True) ∧ ((True) ∧ ((True) ∧ ((True) ∧ ((True) ∧ ((True) ∧ ((True) ∧ ((True) ∧ (((0 < 4 ∧ True) ∧ ((1 < 4 ∧ True) ∧ ((2 < 4 ∧ True) ∧ ((3 < 4 ∧ True) ∧ (True))))) ∧ ((((True) ∧ ((True) ∧ (True))) ∧ PureC Try.prog 68 [(.int .i64 (65535 : Int)), (.sl (.int .i64) [d_Usb, d_Vendor, d_Product, d_Release])] (.bool y_11) []) ∧ ((True) ∧ ((True) ∧ (((True) ∧ (!y_11) = false) ∧ ((True) ∧ ((True) ∧ ((True) ∧ (((True) ∧ (!size) = true) ∧ ((True) ∧ ((True) ∧ ((True) ∧ (True)))))))))))))))))))))))))))))))))))) := ⟨trivial, ⟨trivial, ⟨trivial, ⟨trivial, ⟨trivial, ⟨trivial, ⟨trivial, ⟨trivial, ⟨trivial, ⟨trivial, ⟨trivial, ⟨trivial, ⟨⟨⟨by decide, trivial⟩, ⟨⟨by decide, trivial⟩, ⟨⟨by decide, trivial⟩, ⟨⟨by decide, trivial⟩, ⟨⟨by decide, trivial⟩, ⟨⟨by decide, trivial⟩, trivial⟩⟩⟩⟩⟩⟩, ⟨⟨⟨trivial, trivial⟩, F67_ok n [d_Class, d_Sub, d_Proto, d_Maker, d_Name, d_Serial] y_10 hx16⟩, ⟨trivial, ⟨⟨trivial, c18⟩, ⟨trivial, ⟨trivial, ⟨trivial, ⟨trivial, ⟨trivial, ⟨trivial, ⟨trivial, ⟨trivial, ⟨⟨⟨by decide, trivial⟩, ⟨⟨by decide, trivial⟩, ⟨⟨by decide, trivial⟩, ⟨⟨by decide, trivial⟩, trivial⟩⟩⟩⟩, ⟨⟨⟨trivial, ⟨trivial, trivial⟩⟩, F68_ok n (65535 : Int) [d_Usb, d_Vendor, d_Product, d_Release] y_11 hx19⟩, ⟨trivial, ⟨trivial, ⟨⟨trivial, c21⟩, ⟨trivial, ⟨trivial, ⟨trivial, ⟨⟨trivial, c22⟩, ⟨trivial, ⟨trivial, ⟨trivial, trivial⟩⟩⟩⟩⟩⟩⟩⟩⟩⟩⟩⟩⟩⟩⟩⟩⟩⟩⟩⟩⟩⟩⟩⟩⟩⟩⟩⟩⟩⟩⟩⟩⟩⟩⟩⟩
            refine TS.reg [.none, .none, .none, .none, .none, .none, .none, .none, .none, .none, .none, .none, .none, (.call (.bool y_10) []), .none, .dec false, .none, .none, .none, .none, .none, .none, .none, .none, .none, (.call (.bool y_11) []), .none, .none, .dec false, .none, .none, .none, .dec true] ?_ ?_
            · apply prop_of ?_ hq
              kernel_rfl
            refine XS.reAny [0] (mkMask 105 [1, 64]) true h ?_
            kernel_rfl
          · rcases bif_some h with ⟨c24, h⟩ | ⟨c25, h⟩
            · have hq : (True) ∧ ((True) ∧ ((True) ∧ ((True) ∧ ((True) ∧ ((True) ∧ ((True) ∧ ((True) ∧ ((True) ∧ ((True) ∧ ((True) ∧ ((True) ∧ (((0 < 6 ∧ True) ∧ ((1 < 6 ∧ True) ∧ ((2 < 6 ∧ True) ∧ ((3 < 6 ∧ True) ∧ ((4 < 6 ∧ True) ∧ ((5 < 6 ∧ True) ∧ (True))))))) ∧ ((((True) ∧ (True)) ∧ PureC Try.prog 67 [(.sl (.int .i64) [d_Class, d_Sub, d_Proto, d_Maker, d_Name, d_Serial])] (.bool y_10) []) ∧ ((True) ∧ (((True) ∧ (!y_10) = false) ∧ ((True) ∧ ((True) ∧ ((True) ∧ ((True) ∧ ((True) ∧ ((True) ∧ ((True) ∧ ((True) ∧ (((0 < 4 ∧ True) ∧ ((1 < 4 ∧ True) ∧ ((2 < 4 ∧ True) ∧ ((3 < 4 ∧ True) ∧ (True))))) ∧ ((((True) ∧ ((True) ∧ (True))) ∧ PureC Try.prog 68 [(.int .i64 (65535 : Int)), (.sl (.int .i64) [d_Usb, d_Vendor, d_Product, d_Release])] (.bool y_11) []) ∧ ((True) ∧ ((True) ∧ (((True) ∧ (!y_11) = false) ∧ ((True) ∧ ((True) ∧ ((True) ∧ (((True) ∧ (!size) = false) ∧ ((True) ∧ ((True) ∧ ((True) ∧ ((True) ∧ (((True) ∧ (decide (d_Configs < (1 : Int))) = true) ∧ ((True) ∧ (True))))))))))))))))))))))))))))))))))))))) := ⟨trivial, ⟨trivial, ⟨trivial, ⟨trivial, ⟨trivial, ⟨trivial, ⟨trivial, ⟨trivial, ⟨trivial, ⟨trivial, ⟨trivial, ⟨trivial, ⟨⟨⟨by decide, trivial⟩, ⟨⟨by decide, trivial⟩, ⟨⟨by decide, trivial⟩, ⟨⟨by decide, trivial⟩, ⟨⟨by decide, trivial⟩, ⟨⟨by decide, trivial⟩, trivial⟩⟩⟩⟩⟩⟩, ⟨⟨⟨trivial, trivial⟩, F67_ok n [d_Class, d_Sub, d_Proto, d_Maker, d_Name, d_Serial] y_10 hx16⟩, ⟨trivial, ⟨⟨trivial, c18⟩, ⟨trivial, ⟨trivial, ⟨trivial, ⟨trivial, ⟨trivial, ⟨trivial, ⟨trivial, ⟨trivial, ⟨⟨⟨by decide, trivial⟩, ⟨⟨by decide, trivial⟩, ⟨⟨by decide, trivial⟩, ⟨⟨by decide, trivial⟩, trivial⟩⟩⟩⟩, ⟨⟨⟨trivial, ⟨trivial, trivial⟩⟩, F68_ok n (65535 : Int) [d_Usb, d_Vendor, d_Product, d_Release] y_11 hx19⟩, ⟨trivial, ⟨trivial, ⟨⟨trivial, c21⟩, ⟨trivial, ⟨trivial, ⟨trivial, ⟨⟨trivial, c23⟩, ⟨trivial, ⟨trivial, ⟨trivial, ⟨trivial, ⟨⟨trivial, c24⟩, ⟨trivial, trivial⟩⟩⟩⟩⟩⟩⟩⟩⟩⟩⟩⟩⟩⟩⟩⟩⟩⟩⟩⟩⟩⟩⟩⟩⟩⟩⟩⟩⟩⟩⟩⟩⟩⟩⟩⟩⟩⟩⟩
              refine TS.reg [.none, .none, .none, .none, .none, .none, .none, .none, .none, .none, .none, .none, .none, (.call (.bool y_10) []), .none, .dec false, .none, .none, .none, .none, .none, .none, .none, .none, .none, (.call (.bool y_11) []), .none, .none, .dec false, .none, .none, .none, .dec false, .none, .none, .none, .none, .dec true] ?_ ?_
              · apply prop_of ?_ hq
                kernel_rfl
              refine XS.reAny [0] (mkMask 105 [1, 64]) true h ?_
              kernel_rfl
            · have hq : (True) ∧ ((True) ∧ ((True) ∧ ((True) ∧ ((True) ∧ ((True) ∧ ((True) ∧ ((True) ∧ ((True) ∧ ((True) ∧ ((True) ∧ ((True) ∧ (((0 < 6 ∧ True) ∧ ((1 < 6 ∧ True) ∧ ((2 < 6 ∧ True) ∧ ((3 < 6 ∧ True) ∧ ((4 < 6 ∧ True) ∧ ((5 < 6 ∧ True) ∧ (True))))))) ∧ ((((True) ∧ (True)) ∧ PureC Try.prog 67 [(.sl (.int .i64) [d_Class, d_Sub, d_Proto, d_Maker, d_Name, d_Serial])] (.bool y_10) []) ∧ ((True) ∧ (((True) ∧ (!y_10) = false) ∧ ((True) ∧ ((True) ∧ ((True) ∧ ((True) ∧ ((True) ∧ ((True) ∧ ((True) ∧ ((True) ∧ (((0 < 4 ∧ True) ∧ ((1 < 4 ∧ True) ∧ ((2 < 4 ∧ True) ∧ ((3 < 4 ∧ True) ∧ (True))))) ∧ ((((True) ∧ ((True) ∧ (True))) ∧ PureC Try.prog 68 [(.int .i64 (65535 : Int)), (.sl (.int .i64) [d_Usb, d_Vendor, d_Product, d_Release])] (.bool y_11) []) ∧ ((True) ∧ ((True) ∧ (((True) ∧ (!y_11) = false) ∧ ((True) ∧ ((True) ∧ ((True) ∧ (((True) ∧ (!size) = false) ∧ ((True) ∧ ((True) ∧ ((True) ∧ ((True) ∧ (((True) ∧ (decide (d_Configs < (1 : Int))) = false) ∧ ((True) ∧ ((True) ∧ ((True) ∧ ((True) ∧ (True)))))))))))))))))))))))))))))))))))))))))) := ⟨trivial, ⟨trivial, ⟨trivial, ⟨trivial, ⟨trivial, ⟨trivial, ⟨trivial, ⟨trivial, ⟨trivial, ⟨trivial, ⟨trivial, ⟨trivial, ⟨⟨⟨by decide, trivial⟩, ⟨⟨by decide, trivial⟩, ⟨⟨by decide, trivial⟩, ⟨⟨by decide, trivial⟩, ⟨⟨by decide, trivial⟩, ⟨⟨by decide, trivial⟩, trivial⟩⟩⟩⟩⟩⟩, ⟨⟨⟨trivial, trivial⟩, F67_ok n [d_Class, d_Sub, d_Proto, d_Maker, d_Name, d_Serial] y_10 hx16⟩, ⟨trivial, ⟨⟨trivial, c18⟩, ⟨trivial, ⟨trivial, ⟨trivial, ⟨trivial, ⟨trivial, ⟨trivial, ⟨trivial, ⟨trivial, ⟨⟨⟨by decide, trivial⟩, ⟨⟨by decide, trivial⟩, ⟨⟨by decide, trivial⟩, ⟨⟨by decide, trivial⟩, trivial⟩⟩⟩⟩, ⟨⟨⟨trivial, ⟨trivial, trivial⟩⟩, F68_ok n (65535 : Int) [d_Usb, d_Vendor, d_Product, d_Release] y_11 hx19⟩, ⟨trivial, ⟨trivial, ⟨⟨trivial, c21⟩, ⟨trivial, ⟨trivial, ⟨trivial, ⟨⟨trivial, c23⟩, ⟨trivial, ⟨trivial, ⟨trivial, ⟨trivial, ⟨⟨trivial, c25⟩, ⟨trivial, ⟨trivial, ⟨trivial, ⟨trivial, trivial⟩⟩⟩⟩⟩⟩⟩⟩⟩⟩⟩⟩⟩⟩⟩⟩⟩⟩⟩⟩⟩⟩⟩⟩⟩⟩⟩⟩⟩⟩⟩⟩⟩⟩⟩⟩⟩⟩⟩⟩⟩⟩
              refine TS.reg [.none, .none, .none, .none, .none, .none, .none, .none, .none, .none, .none, .none, .none, (.call (.bool y_10) []), .none, .dec false, .none, .none, .none, .none, .none, .none, .none, .none, .none, (.call (.bool y_11) []), .none, .none, .dec false, .none, .none, .none, .dec false, .none, .none, .none, .none, .dec false] ?_ ?_
              · apply prop_of ?_ hq
                kernel_rfl
              refine XS.reAny [0] (mkMask 105 [1, 64]) (decide (d_Configs > (255 : Int))) h ?_
              kernel_rfl
  · rcases bif_some h with ⟨c26, h⟩ | ⟨c27, h⟩
    · have hq : (True) ∧ ((True) ∧ ((True) ∧ (((True) ∧ (d_Max0 == (8 : Int)) = true) ∧ ((True) ∧ ((True) ∧ ((True) ∧ ((True) ∧ ((True) ∧ ((True) ∧ (True)))))))))) := ⟨trivial, ⟨trivial, ⟨trivial, ⟨⟨trivial, c26⟩, ⟨trivial, ⟨trivial, ⟨trivial, ⟨trivial, ⟨trivial, ⟨trivial, trivial⟩⟩⟩⟩⟩⟩⟩⟩⟩⟩
      refine TS.reg [.none, .none, .none, .dec true] ?_ ?_
      · apply prop_of ?_ hq
        kernel_rfl
      refine XS.reAny [0] (mkMask 105 [1, 4]) true h ?_
      kernel_rfl
    · rcases bif_some h with ⟨c28, h⟩ | ⟨c29, h⟩
      · have hq : (True) ∧ ((True) ∧ ((True) ∧ (((True) ∧ (d_Max0 == (8 : Int)) = false) ∧ ((True) ∧ ((True) ∧ ((True) ∧ ((True) ∧ (((True) ∧ (d_Max0 == (16 : Int)) = true) ∧ ((True) ∧ ((True) ∧ ((True) ∧ ((True) ∧ (True))))))))))))) := ⟨trivial, ⟨trivial, ⟨trivial, ⟨⟨trivial, c27⟩, ⟨trivial, ⟨trivial, ⟨trivial, ⟨trivial, ⟨⟨trivial, c28⟩, ⟨trivial, ⟨trivial, ⟨trivial, ⟨trivial, trivial⟩⟩⟩⟩⟩⟩⟩⟩⟩⟩⟩⟩⟩
        refine TS.reg [.none, .none, .none, .dec false, .none, .none, .none, .none, .dec true] ?_ ?_
        · apply prop_of ?_ hq
          kernel_rfl
        refine XS.reAny [0] (mkMask 105 [1, 4]) true h ?_
        kernel_rfl
      · rcases bif_some h with ⟨c30, h⟩ | ⟨c31, h⟩
        · have hq : (True) ∧ ((True) ∧ ((True) ∧ (((True) ∧ (d_Max0 == (8 : Int)) = false) ∧ ((True) ∧ ((True) ∧ ((True) ∧ ((True) ∧ (((True) ∧ (d_Max0 == (16 : Int)) = false) ∧ ((True) ∧ ((True) ∧ ((True) ∧ ((True) ∧ (((True) ∧ (d_Max0 == (32 : Int)) = true) ∧ ((True) ∧ ((True) ∧ (True)))))))))))))))) := ⟨trivial, ⟨trivial, ⟨trivial, ⟨⟨trivial, c27⟩, ⟨trivial, ⟨trivial, ⟨trivial, ⟨trivial, ⟨⟨trivial, c29⟩, ⟨trivial, ⟨trivial, ⟨trivial, ⟨trivial, ⟨⟨trivial, c30⟩, ⟨trivial, ⟨trivial, trivial⟩⟩⟩⟩⟩⟩⟩⟩⟩⟩⟩⟩⟩⟩⟩⟩
          refine TS.reg [.none, .none, .none, .dec false, .none, .none, .none, .none, .dec false, .none, .none, .none, .none, .dec true] ?_ ?_
          · apply prop_of ?_ hq
            kernel_rfl
          refine XS.reAny [0] (mkMask 105 [1, 4]) true h ?_
          kernel_rfl
        · have hq : (True) ∧ ((True) ∧ ((True) ∧ (((True) ∧ (d_Max0 == (8 : Int)) = false) ∧ ((True) ∧ ((True) ∧ ((True) ∧ ((True) ∧ (((True) ∧ (d_Max0 == (16 : Int)) = false) ∧ ((True) ∧ ((True) ∧ ((True) ∧ ((True) ∧ (((True) ∧ (d_Max0 == (32 : Int)) = false) ∧ ((True) ∧ ((True) ∧ ((True) ∧ ((True) ∧ ((True) ∧ (True))))))))))))))))))) := ⟨trivial, ⟨trivial, ⟨trivial, ⟨⟨trivial, c27⟩, ⟨trivial, ⟨trivial, ⟨trivial, ⟨trivial, ⟨⟨trivial, c29⟩, ⟨trivial, ⟨trivial, ⟨trivial, ⟨trivial, ⟨⟨trivial, c31⟩, ⟨trivial, ⟨trivial, ⟨trivial, ⟨trivial, ⟨trivial, trivial⟩⟩⟩⟩⟩⟩⟩⟩⟩⟩⟩⟩⟩⟩⟩⟩⟩⟩⟩
          refine TS.reg [.none, .none, .none, .dec false, .none, .none, .none, .none, .dec false, .none, .none, .none, .none, .dec false] ?_ ?_
          · apply prop_of ?_ hq
            kernel_rfl
          refine XS.reAny [0] (mkMask 105 [1, 4]) (d_Max0 == (64 : Int)) h ?_
          kernel_rfl

/-! plugtree/plugref.Between -/
def F16 (n : Nat) (vn : Int) (low : Int) (high : Int) : Option Bool := (bif (decide (low ≤ vn)) then (some (decide (vn ≤ high))) else (some false))
theorem F16_ok (n : Nat) (vn : Int) (low : Int) (high : Int) (r : Bool) (h : F16 n vn low high = some r) : PureC Try.prog 16 [(.int .i64 vn), (.int .i64 low), (.int .i64 high)] (.bool r) [] := by
  refine PureC.mkS Try.func16 rfl rfl ?_
  intro w0 fz0 hfz
  replace h : (bif (decide (low ≤ vn)) then (some (decide (vn ≤ high))) else (some false)) = some r := h
  refine TS.seq ?_
  have hq : (True) ∧ (True) := ⟨trivial, trivial⟩
  refine TS.reg [] ?_ ?_
  · apply prop_of ?_ hq
    kernel_rfl
  refine XS.then ?_
  refine TS.seq ?_
  rcases bif_some h with ⟨c1, h⟩ | ⟨c2, h⟩
  · have hq : (True) ∧ ((True) ∧ ((True) ∧ (((True) ∧ (decide (low ≤ vn)) = true) ∧ ((True) ∧ ((True) ∧ ((True) ∧ ((True) ∧ ((True) ∧ (True))))))))) := ⟨trivial, ⟨trivial, ⟨trivial, ⟨⟨trivial, c1⟩, ⟨trivial, ⟨trivial, ⟨trivial, ⟨trivial, ⟨trivial, trivial⟩⟩⟩⟩⟩⟩⟩⟩⟩
    refine TS.reg [.none, .none, .none, .dec true] ?_ ?_
    · apply prop_of ?_ hq
      kernel_rfl
    refine XS.then ?_
    refine TS.ret ?_
    obtain rfl : (decide (vn ≤ high)) = r := Option.some.inj h
    exact XS.fin [] ((True) ∧ (True)) (by kernel_rfl) ⟨trivial, trivial⟩
  · have hq : (True) ∧ ((True) ∧ ((True) ∧ (((True) ∧ (decide (low ≤ vn)) = false) ∧ ((True) ∧ ((True) ∧ (True)))))) := ⟨trivial, ⟨trivial, ⟨trivial, ⟨⟨trivial, c2⟩, ⟨trivial, ⟨trivial, trivial⟩⟩⟩⟩⟩⟩
    refine TS.reg [.none, .none, .none, .dec false] ?_ ?_
    · apply prop_of ?_ hq
      kernel_rfl
    refine XS.then ?_
    refine TS.ret ?_
    obtain rfl : false = r := Option.some.inj h
    exact XS.fin [] ((True) ∧ (True)) (by kernel_rfl) ⟨trivial, trivial⟩

/-! plugtree/plugref.bytesOf -/
def F71_l2 (n : Nat) (l : List Int) (k71_2 : (Int × (List Int)) → Option ((List UInt8) × Bool)) : (Int × (List Int)) → Option ((List UInt8) × Bool)
  | (x, m0) => (bif (decide (x < ((l.length : Nat) : Int))) then (bif inb x l.length then ((F16 n (l.getD x.toNat (0 : Int)) (0 : Int) (255 : Int)).bind fun y_3 => (bif (!y_3) then (some (([] : List UInt8), false)) else (bif (decide (m0.length + [(IntKind.wrap .u8 ((l.getD x.toNat (0 : Int))))].length ≤ 17179869184)) then (k71_2 ((IntKind.wrap .i64 (x + (1 : Int))), (m0 ++ [(IntKind.wrap .u8 ((l.getD x.toNat (0 : Int))))]))) else none))) else none) else (some ((strOf m0), true)))
def F71 (n : Nat) (l : List Int) : Option ((List UInt8) × Bool) := (loopF (F71_l2 n l) n ((0 : Int), ([] : List Int)))
theorem F71_ok (n : Nat) (l : List Int) (r : (List UInt8) × Bool) (h : F71 n l = some r) : PureC Try.prog 71 [(.sl (.int .i64) l)] (.tup (.cons (.str r.1) (.cons (.bool r.2) .nil))) [] := by
  refine PureC.mkS Try.func71 rfl rfl ?_
  intro w0 fz0 hfz
  replace h : (loopF (F71_l2 n l) n ((0 : Int), ([] : List Int))) = some r := h
  refine TS.seq ?_
  have hq : (True) ∧ ((True) ∧ (True)) := ⟨trivial, ⟨trivial, trivial⟩⟩
  refine TS.reg [] ?_ ?_
  · apply prop_of ?_ hq
    kernel_rfl
  refine XS.then ?_
  refine TS.seq ?_
  have hq : (True) ∧ (True) := ⟨trivial, trivial⟩
  refine TS.reg [] ?_ ?_
  · apply prop_of ?_ hq
    kernel_rfl
  refine XS.then ?_
  refine TS.seq ?_
  refine TS.seq ?_
  have hq : (True) ∧ ((True) ∧ ((True) ∧ (True))) := ⟨trivial, ⟨trivial, ⟨trivial, trivial⟩⟩⟩
  refine TS.reg [] ?_ ?_
  · apply prop_of ?_ hq
    kernel_rfl
  refine XS.then ?_
  refine TS.block ?_
  refine TS.wk (.row false 4 [] 5 (.int .u8)) ?_
  refine TS.reLoop [0] (mkMask 24 [4, 7, 8, 9]) (D := Int × (List Int)) (fun d => match d with | (x, m0) => (mkTs 24 [(4, (.row 0)), (7, (.sl (.int .i64) l)), (8, (.int .i64 ((l.length : Nat) : Int))), (9, (.int .i64 x))], [(.row 5 (.int .u8) m0)])) (fun n' d => loopF (F71_l2 n l) n' d = some r) n ((0 : Int), ([] : List Int)) h ?_ (fun d => loopF_zero _ d r) ?_
  · kernel_rfl
  · rintro n2 ⟨x, m0⟩ h
    replace h : (bif (decide (x < ((l.length : Nat) : Int))) then (bif inb x l.length then ((F16 n (l.getD x.toNat (0 : Int)) (0 : Int) (255 : Int)).bind fun y_3 => (bif (!y_3) then (some (([] : List UInt8), false)) else (bif (decide (m0.length + [(IntKind.wrap .u8 ((l.getD x.toNat (0 : Int))))].length ≤ 17179869184)) then ((loopF (F71_l2 n l) n2) ((IntKind.wrap .i64 (x + (1 : Int))), (m0 ++ [(IntKind.wrap .u8 ((l.getD x.toNat (0 : Int))))]))) else none))) else none) else (some ((strOf m0), true))) = some r := h
    refine TS.seq ?_
    have hq : (True) ∧ (True) := ⟨trivial, trivial⟩
    refine TS.reg [] ?_ ?_
    · apply prop_of ?_ hq
      kernel_rfl
    refine XS.then ?_
    refine TS.seq ?_
    rcases bif_some h with ⟨c1, h⟩ | ⟨c2, h⟩
    · refine TS.cond (decide (x < ((l.length : Nat) : Int))) ?_ (fun e => ?_) (fun e => by rw [c1] at e; cases e)
      · kernel_rfl
      refine TS.skip ?_
      refine XS.then ?_
      refine TS.seq ?_
      refine TS.block ?_
      refine TS.seq ?_
      obtain ⟨t3, h⟩ := test_some h
      have hq : (inR x l.length) ∧ ((True) ∧ ((True) ∧ (True))) := ⟨inb_ok t3, ⟨trivial, ⟨trivial, trivial⟩⟩⟩
      refine TS.reg [] ?_ ?_
      · apply prop_of ?_ hq
        kernel_rfl
      refine XS.then ?_
      refine TS.seq ?_
      refine TS.seq ?_
      obtain ⟨y_3, hx4, h⟩ := bind_some' h
      have hq : (True) ∧ ((PureC Try.prog 16 [(.int .i64 (l.getD x.toNat (0 : Int))), (.int .i64 (0 : Int)), (.int .i64 (255 : Int))] (.bool y_3) []) ∧ ((True) ∧ (True))) := ⟨trivial, ⟨F16_ok n (l.getD x.toNat (0 : Int)) (0 : Int) (255 : Int) y_3 hx4, ⟨trivial, trivial⟩⟩⟩
      refine TS.reg [.none, (.call (.bool y_3) [])] ?_ ?_
      · apply prop_of ?_ hq
        kernel_rfl
      refine XS.then ?_
      rcases bif_some h with ⟨c5, h⟩ | ⟨c6, h⟩
      · refine TS.cond (!y_3) ?_ (fun e => ?_) (fun e => by rw [c5] at e; cases e)
        · kernel_rfl
        refine TS.seq ?_
        have hq : (True) ∧ ((True) ∧ (True)) := ⟨trivial, ⟨trivial, trivial⟩⟩
        refine TS.reg [] ?_ ?_
        · apply prop_of ?_ hq
          kernel_rfl
        refine XS.then ?_
        refine TS.ret ?_
        refine XS.passR ?_
        refine XS.blockRet ?_
        refine XS.passR ?_
        refine XS.passR ?_
        refine XS.blockRet ?_
        refine XS.passR ?_
        obtain rfl : (([] : List UInt8), false) = r := Option.some.inj h
        exact XS.fin [] ((True) ∧ ((True) ∧ (True))) (by kernel_rfl) ⟨trivial, ⟨trivial, trivial⟩⟩
      · refine TS.cond (!y_3) ?_ (fun e => by rw [c6] at e; cases e) (fun e => ?_)
        · kernel_rfl
        refine TS.skip ?_
        refine XS.then ?_
        obtain ⟨t7, h⟩ := test_some h
        have hq : (True) ∧ ((True) ∧ ((True) ∧ (((0 < 1 ∧ True) ∧ (True)) ∧ ((m0.length + [(IntKind.wrap .u8 ((l.getD x.toNat (0 : Int))))].length ≤ 17179869184) ∧ ((True) ∧ (True)))))) := ⟨trivial, ⟨trivial, ⟨trivial, ⟨⟨⟨by decide, trivial⟩, trivial⟩, ⟨of_decide_eq_true t7, ⟨trivial, trivial⟩⟩⟩⟩⟩⟩
        refine TS.reg [] ?_ ?_
        · apply prop_of ?_ hq
          kernel_rfl
        refine XS.blockEnd ?_
        refine XS.then ?_
        have hq : (True) ∧ ((True) ∧ (True)) := ⟨trivial, ⟨trivial, trivial⟩⟩
        refine TS.reg [] ?_ ?_
        · apply prop_of ?_ hq
          kernel_rfl
        refine XS.reAny [2] (mkMask 24 [4, 7, 8, 9]) ((IntKind.wrap .i64 (x + (1 : Int))), (m0 ++ [(IntKind.wrap .u8 ((l.getD x.toNat (0 : Int))))])) h ?_
        kernel_rfl
    · refine TS.cond (decide (x < ((l.length : Nat) : Int))) ?_ (fun e => by rw [c2] at e; cases e) (fun e => ?_)
      · kernel_rfl
      refine TS.exit ?_
      refine XS.passE ?_
      refine XS.passE ?_
      refine XS.out ?_
      refine XS.then ?_
      refine TS.seq ?_
      have hq : (True) ∧ ((True) ∧ ((True) ∧ ((True) ∧ (True)))) := ⟨trivial, ⟨trivial, ⟨trivial, ⟨trivial, trivial⟩⟩⟩⟩
      refine TS.reg [] ?_ ?_
      · apply prop_of ?_ hq
        kernel_rfl
      refine XS.then ?_
      refine TS.ret ?_
      obtain rfl : ((strOf m0), true) = r := Option.some.inj h
      exact XS.fin [] ((True) ∧ ((True) ∧ (True))) (by kernel_rfl) ⟨trivial, ⟨trivial, trivial⟩⟩

/-! slices.Index[[]int,int] -/
def F100_l2 (n : Nat) (s : List Int) (v : Int) (k100_2 : Int → Option Int) : Int → Option Int
  | x => (bif (decide (x < ((s.length : Nat) : Int))) then (bif inb x s.length then (bif (v == (s.getD x.toNat (0 : Int))) then (some x) else (k100_2 (IntKind.wrap .i64 (x + (1 : Int))))) else none) else (some (-1 : Int)))
def F100 (n : Nat) (s : List Int) (v : Int) : Option Int := (loopF (F100_l2 n s v) n (0 : Int))
theorem F100_ok (n : Nat) (s : List Int) (v : Int) (r : Int) (h : F100 n s v = some r) : PureC Try.prog 100 [(.sl (.int .i64) s), (.int .i64 v)] (.int .i64 r) [] := by
  refine PureC.mkS Try.func100 rfl rfl ?_
  intro w0 fz0 hfz
  replace h : (loopF (F100_l2 n s v) n (0 : Int)) = some r := h
  refine TS.seq ?_
  have hq : (True) ∧ (True) := ⟨trivial, trivial⟩
  refine TS.reg [] ?_ ?_
  · apply prop_of ?_ hq
    kernel_rfl
  refine XS.then ?_
  refine TS.seq ?_
  refine TS.seq ?_
  have hq : (True) ∧ ((True) ∧ ((True) ∧ (True))) := ⟨trivial, ⟨trivial, ⟨trivial, trivial⟩⟩⟩
  refine TS.reg [] ?_ ?_
  · apply prop_of ?_ hq
    kernel_rfl
  refine XS.then ?_
  refine TS.block ?_
  refine TS.reLoop [] (mkMask 19 [0, 1, 7, 8]) (D := Int) (fun d => match d with | x => (mkTs 19 [(0, (.sl (.int .i64) s)), (1, (.int .i64 v)), (7, (.int .i64 ((s.length : Nat) : Int))), (8, (.int .i64 x))], [])) (fun n' d => loopF (F100_l2 n s v) n' d = some r) n (0 : Int) h ?_ (fun d => loopF_zero _ d r) ?_
  · kernel_rfl
  · rintro n2 x h
    replace h : (bif (decide (x < ((s.length : Nat) : Int))) then (bif inb x s.length then (bif (v == (s.getD x.toNat (0 : Int))) then (some x) else ((loopF (F100_l2 n s v) n2) (IntKind.wrap .i64 (x + (1 : Int))))) else none) else (some (-1 : Int))) = some r := h
    refine TS.seq ?_
    have hq : (True) ∧ (True) := ⟨trivial, trivial⟩
    refine TS.reg [] ?_ ?_
    · apply prop_of ?_ hq
      kernel_rfl
    refine XS.then ?_
    refine TS.seq ?_
    rcases bif_some h with ⟨c1, h⟩ | ⟨c2, h⟩
    · refine TS.cond (decide (x < ((s.length : Nat) : Int))) ?_ (fun e => ?_) (fun e => by rw [c1] at e; cases e)
      · kernel_rfl
      refine TS.skip ?_
      refine XS.then ?_
      refine TS.seq ?_
      refine TS.block ?_
      refine TS.seq ?_
      have hq : (True) ∧ ((True) ∧ (True)) := ⟨trivial, ⟨trivial, trivial⟩⟩
      refine TS.reg [] ?_ ?_
      · apply prop_of ?_ hq
        kernel_rfl
      refine XS.then ?_
      refine TS.seq ?_
      obtain ⟨t3, h⟩ := test_some h
      have hq : (True) ∧ ((True) ∧ ((True) ∧ ((inR x s.length) ∧ ((True) ∧ ((True) ∧ (True)))))) := ⟨trivial, ⟨trivial, ⟨trivial, ⟨inb_ok t3, ⟨trivial, ⟨trivial, trivial⟩⟩⟩⟩⟩⟩
      refine TS.reg [] ?_ ?_
      · apply prop_of ?_ hq
        kernel_rfl
      refine XS.then ?_
      rcases bif_some h with ⟨c4, h⟩ | ⟨c5, h⟩
      · refine TS.cond (v == (s.getD x.toNat (0 : Int))) ?_ (fun e => ?_) (fun e => by rw [c4] at e; cases e)
        · kernel_rfl
        refine TS.seq ?_
        have hq : (True) ∧ ((True) ∧ (True)) := ⟨trivial, ⟨trivial, trivial⟩⟩
        refine TS.reg [] ?_ ?_
        · apply prop_of ?_ hq
          kernel_rfl
        refine XS.then ?_
        refine TS.ret ?_
        refine XS.blockRet ?_
        refine XS.passR ?_
        refine XS.passR ?_
        refine XS.blockRet ?_
        refine XS.passR ?_
        obtain rfl : x = r := Option.some.inj h
        exact XS.fin [] ((True) ∧ (True)) (by kernel_rfl) ⟨trivial, trivial⟩
      · refine TS.cond (v == (s.getD x.toNat (0 : Int))) ?_ (fun e => by rw [c5] at e; cases e) (fun e => ?_)
        · kernel_rfl
        refine TS.skip ?_
        refine XS.blockEnd ?_
        refine XS.then ?_
        have hq : (True) ∧ ((True) ∧ (True)) := ⟨trivial, ⟨trivial, trivial⟩⟩
        refine TS.reg [] ?_ ?_
        · apply prop_of ?_ hq
          kernel_rfl
        refine XS.reAny [] (mkMask 19 [0, 1, 7, 8]) (IntKind.wrap .i64 (x + (1 : Int))) h ?_
        kernel_rfl
    · refine TS.cond (decide (x < ((s.length : Nat) : Int))) ?_ (fun e => by rw [c2] at e; cases e) (fun e => ?_)
      · kernel_rfl
      refine TS.exit ?_
      refine XS.passE ?_
      refine XS.passE ?_
      refine XS.out ?_
      refine XS.then ?_
      refine TS.seq ?_
      have hq : (True) ∧ (True) := ⟨trivial, trivial⟩
      refine TS.reg [] ?_ ?_
      · apply prop_of ?_ hq
        kernel_rfl
      refine XS.then ?_
      refine TS.ret ?_
      obtain rfl : (-1 : Int) = r := Option.some.inj h
      exact XS.fin [] ((True) ∧ (True)) (by kernel_rfl) ⟨trivial, trivial⟩

/-! slices.Contains[[]int,int] -/
def F72 (n : Nat) (s : List Int) (v : Int) : Option Bool := ((F100 n s v).bind fun y_2 => (some (decide (y_2 ≥ (0 : Int)))))
theorem F72_ok (n : Nat) (s : List Int) (v : Int) (r : Bool) (h : F72 n s v = some r) : PureC Try.prog 72 [(.sl (.int .i64) s), (.int .i64 v)] (.bool r) [] := by
  refine PureC.mkS Try.func72 rfl rfl ?_
  intro w0 fz0 hfz
  replace h : ((F100 n s v).bind fun y_2 => (some (decide (y_2 ≥ (0 : Int))))) = some r := h
  refine TS.seq ?_
  have hq : (True) ∧ (True) := ⟨trivial, trivial⟩
  refine TS.reg [] ?_ ?_
  · apply prop_of ?_ hq
    kernel_rfl
  refine XS.then ?_
  refine TS.seq ?_
  obtain ⟨y_2, hx1, h⟩ := bind_some' h
  have hq : (True) ∧ ((True) ∧ ((PureC Try.prog 100 [(.sl (.int .i64) s), (.int .i64 v)] (.int .i64 y_2) []) ∧ ((True) ∧ ((True) ∧ (True))))) := ⟨trivial, ⟨trivial, ⟨F100_ok n s v y_2 hx1, ⟨trivial, ⟨trivial, trivial⟩⟩⟩⟩⟩
  refine TS.reg [.none, .none, (.call (.int .i64 y_2) [])] ?_ ?_
  · apply prop_of ?_ hq
    kernel_rfl
  refine XS.then ?_
  refine TS.ret ?_
  obtain rfl : (decide (y_2 ≥ (0 : Int))) = r := Option.some.inj h
  exact XS.fin [] ((True) ∧ (True)) (by kernel_rfl) ⟨trivial, trivial⟩

/-! plugtree/plugref.TwoBytes -/
def F73 (n : Nat) (vn : Int) : Option (List UInt8) := (some (strOf [(IntKind.wrap .u8 ((vn.tmod (256 : Int)))), (IntKind.wrap .u8 (((IntKind.wrap .i64 (vn.tdiv (256 : Int))).tmod (256 : Int))))]))
theorem F73_ok (n : Nat) (vn : Int) (r : List UInt8) (h : F73 n vn = some r) : PureC Try.prog 73 [(.int .i64 vn)] (.str r) [] := by
  refine PureC.mkS Try.func73 rfl rfl ?_
  intro w0 fz0 hfz
  replace h : (some (strOf [(IntKind.wrap .u8 ((vn.tmod (256 : Int)))), (IntKind.wrap .u8 (((IntKind.wrap .i64 (vn.tdiv (256 : Int))).tmod (256 : Int))))])) = some r := h
  refine TS.seq ?_
  have hq : (True) ∧ (True) := ⟨trivial, trivial⟩
  refine TS.reg [] ?_ ?_
  · apply prop_of ?_ hq
    kernel_rfl
  refine XS.then ?_
  refine TS.seq ?_
  have hq : (True) ∧ (((256 : Int) ≠ 0) ∧ ((True) ∧ ((True) ∧ (((256 : Int) ≠ 0) ∧ (((256 : Int) ≠ 0) ∧ ((True) ∧ (((0 < 2 ∧ True) ∧ ((1 < 2 ∧ True) ∧ (True))) ∧ ((True) ∧ ((True) ∧ (True)))))))))) := ⟨trivial, ⟨by decide, ⟨trivial, ⟨trivial, ⟨by decide, ⟨by decide, ⟨trivial, ⟨⟨⟨by decide, trivial⟩, ⟨⟨by decide, trivial⟩, trivial⟩⟩, ⟨trivial, ⟨trivial, trivial⟩⟩⟩⟩⟩⟩⟩⟩⟩⟩
  refine TS.reg [] ?_ ?_
  · apply prop_of ?_ hq
    kernel_rfl
  refine XS.then ?_
  refine TS.ret ?_
  obtain rfl : (strOf [(IntKind.wrap .u8 ((vn.tmod (256 : Int)))), (IntKind.wrap .u8 (((IntKind.wrap .i64 (vn.tdiv (256 : Int))).tmod (256 : Int))))]) = r := Option.some.inj h
  exact XS.fin [] ((True) ∧ (True)) (by kernel_rfl) ⟨trivial, trivial⟩

/-! plugtree/plugref.DeviceText -/
def F19_j8 (n : Nat) (d_Usb : Int) (d_Vendor : Int) (d_Product : Int) (d_Release : Int) (y_4 : (List UInt8) × Bool) (y_5 : (List UInt8) × Bool) : Bool → Option ((List UInt8) × Int)
  | x_2 => (bif x_2 then (some (([] : List UInt8), (1 : Int))) else ((F73 n d_Usb).bind fun y_6 => (bif (decide (([18, 1] : List UInt8).length + y_6.length ≤ 9223372036854775807)) then (bif (decide ((([18, 1] : List UInt8) ++ y_6).length + y_4.1.length ≤ 9223372036854775807)) then ((F73 n d_Vendor).bind fun y_7 => (bif (decide (((([18, 1] : List UInt8) ++ y_6) ++ y_4.1).length + y_7.length ≤ 9223372036854775807)) then ((F73 n d_Product).bind fun y_8 => (bif (decide ((((([18, 1] : List UInt8) ++ y_6) ++ y_4.1) ++ y_7).length + y_8.length ≤ 9223372036854775807)) then ((F73 n d_Release).bind fun y_9 => (bif (decide (((((([18, 1] : List UInt8) ++ y_6) ++ y_4.1) ++ y_7) ++ y_8).length + y_9.length ≤ 9223372036854775807)) then (bif (decide ((((((([18, 1] : List UInt8) ++ y_6) ++ y_4.1) ++ y_7) ++ y_8) ++ y_9).length + y_5.1.length ≤ 9223372036854775807)) then (some (((((((([18, 1] : List UInt8) ++ y_6) ++ y_4.1) ++ y_7) ++ y_8) ++ y_9) ++ y_5.1), (0 : Int))) else none) else none)) else none)) else none)) else none) else none)))
def F19_l7 (n : Nat) (d_Usb : Int) (d_Class : Int) (d_Sub : Int) (d_Proto : Int) (d_Max0 : Int) (d_Vendor : Int) (d_Product : Int) (d_Release : Int) (d_Maker : Int) (d_Name : Int) (d_Serial : Int) (d_Configs : Int) (k19_7 : Int → Option ((List UInt8) × Int)) : Int → Option ((List UInt8) × Int)
  | x => (bif (decide (x < (([d_Usb, d_Vendor, d_Product, d_Release].length : Nat) : Int))) then (bif inb x ([d_Usb, d_Vendor, d_Product, d_Release].length) then ((F16 n ([d_Usb, d_Vendor, d_Product, d_Release].getD x.toNat (0 : Int)) (0 : Int) (65535 : Int)).bind fun y_3 => (bif (!y_3) then (some (([] : List UInt8), (1 : Int))) else (k19_7 (IntKind.wrap .i64 (x + (1 : Int)))))) else none) else ((F71 n [d_Class, d_Sub, d_Proto, d_Max0]).bind fun y_4 => ((F71 n [d_Maker, d_Name, d_Serial, d_Configs]).bind fun y_5 => (bif (!y_4.2) then (F19_j8 n d_Usb d_Vendor d_Product d_Release y_4 y_5 true) else (bif (!y_5.2) then (F19_j8 n d_Usb d_Vendor d_Product d_Release y_4 y_5 true) else (bif (decide (d_Configs < (1 : Int))) then (F19_j8 n d_Usb d_Vendor d_Product d_Release y_4 y_5 true) else ((F72 n [(8 : Int), (16 : Int), (32 : Int), (64 : Int)] d_Max0).bind fun y_10 => (F19_j8 n d_Usb d_Vendor d_Product d_Release y_4 y_5 (!y_10)))))))))
def F19 (n : Nat) (d_Usb : Int) (d_Class : Int) (d_Sub : Int) (d_Proto : Int) (d_Max0 : Int) (d_Vendor : Int) (d_Product : Int) (d_Release : Int) (d_Maker : Int) (d_Name : Int) (d_Serial : Int) (d_Configs : Int) : Option ((List UInt8) × Int) := (loopF (F19_l7 n d_Usb d_Class d_Sub d_Proto d_Max0 d_Vendor d_Product d_Release d_Maker d_Name d_Serial d_Configs) n (0 : Int))
theorem F19_ok (n : Nat) (d_Usb : Int) (d_Class : Int) (d_Sub : Int) (d_Proto : Int) (d_Max0 : Int) (d_Vendor : Int) (d_Product : Int) (d_Release : Int) (d_Maker : Int) (d_Name : Int) (d_Serial : Int) (d_Configs : Int) (r : (List UInt8) × Int) (h : F19 n d_Usb d_Class d_Sub d_Proto d_Max0 d_Vendor d_Product d_Release d_Maker d_Name d_Serial d_Configs = some r) : PureC Try.prog 19 [(.st (.cons (.int .i64 d_Usb) (.cons (.int .i64 d_Class) (.cons (.int .i64 d_Sub) (.cons (.int .i64 d_Proto) (.cons (.int .i64 d_Max0) (.cons (.int .i64 d_Vendor) (.cons (.int .i64 d_Product) (.cons (.int .i64 d_Release) (.cons (.int .i64 d_Maker) (.cons (.int .i64 d_Name) (.cons (.int .i64 d_Serial) (.int .i64 d_Configs)))))))))))))] (.tup (.cons (.str r.1) (.cons (.int .i64 r.2) .nil))) [] := by
  refine PureC.mkS Try.func19 rfl rfl ?_
  intro w0 fz0 hfz
  replace h : (loopF (F19_l7 n d_Usb d_Class d_Sub d_Proto d_Max0 d_Vendor d_Product d_Release d_Maker d_Name d_Serial d_Configs) n (0 : Int)) = some r := h
  refine TS.seq ?_
  have hq : (True) ∧ ((True) ∧ ((True) ∧ (True))) := ⟨trivial, ⟨trivial, ⟨trivial, trivial⟩⟩⟩
  refine TS.reg [] ?_ ?_
  · apply prop_of ?_ hq
    kernel_rfl
  refine XS.then ?_
  refine TS.seq ?_
  refine TS.seq ?_
  have hq : (True) ∧ ((True) ∧ ((True) ∧ ((True) ∧ ((True) ∧ ((True) ∧ ((True) ∧ ((True) ∧ (((0 < 4 ∧ True) ∧ ((1 < 4 ∧ True) ∧ ((2 < 4 ∧ True) ∧ ((3 < 4 ∧ True) ∧ (True))))) ∧ ((True) ∧ ((True) ∧ (True))))))))))) := ⟨trivial, ⟨trivial, ⟨trivial, ⟨trivial, ⟨trivial, ⟨trivial, ⟨trivial, ⟨trivial, ⟨⟨⟨by decide, trivial⟩, ⟨⟨by decide, trivial⟩, ⟨⟨by decide, trivial⟩, ⟨⟨by decide, trivial⟩, trivial⟩⟩⟩⟩, ⟨trivial, ⟨trivial, trivial⟩⟩⟩⟩⟩⟩⟩⟩⟩⟩⟩
  refine TS.reg [] ?_ ?_
  · apply prop_of ?_ hq
    kernel_rfl
  refine XS.then ?_
  refine TS.block ?_
  refine TS.reLoop [0, 1] (mkMask 92 [1, 18, 19, 20]) (D := Int) (fun d => match d with | x => (mkTs 92 [(1, (.ptr 0 [])), (18, (.row 1)), (19, (.int .i64 (([d_Usb, d_Vendor, d_Product, d_Release].length : Nat) : Int))), (20, (.int .i64 x))], [(.box 34 (.st (.cons (.int .i64 d_Usb) (.cons (.int .i64 d_Class) (.cons (.int .i64 d_Sub) (.cons (.int .i64 d_Proto) (.cons (.int .i64 d_Max0) (.cons (.int .i64 d_Vendor) (.cons (.int .i64 d_Product) (.cons (.int .i64 d_Release) (.cons (.int .i64 d_Maker) (.cons (.int .i64 d_Name) (.cons (.int .i64 d_Serial) (.int .i64 d_Configs)))))))))))))), (.row 3 (.int .i64) [d_Usb, d_Vendor, d_Product, d_Release])])) (fun n' d => loopF (F19_l7 n d_Usb d_Class d_Sub d_Proto d_Max0 d_Vendor d_Product d_Release d_Maker d_Name d_Serial d_Configs) n' d = some r) n (0 : Int) h ?_ (fun d => loopF_zero _ d r) ?_
  · kernel_rfl
  · rintro n7 x h
    replace h : (bif (decide (x < (([d_Usb, d_Vendor, d_Product, d_Release].length : Nat) : Int))) then (bif inb x ([d_Usb, d_Vendor, d_Product, d_Release].length) then ((F16 n ([d_Usb, d_Vendor, d_Product, d_Release].getD x.toNat (0 : Int)) (0 : Int) (65535 : Int)).bind fun y_3 => (bif (!y_3) then (some (([] : List UInt8), (1 : Int))) else ((loopF (F19_l7 n d_Usb d_Class d_Sub d_Proto d_Max0 d_Vendor d_Product d_Release d_Maker d_Name d_Serial d_Configs) n7) (IntKind.wrap .i64 (x + (1 : Int)))))) else none) else ((F71 n [d_Class, d_Sub, d_Proto, d_Max0]).bind fun y_4 => ((F71 n [d_Maker, d_Name, d_Serial, d_Configs]).bind fun y_5 => (bif (!y_4.2) then (F19_j8 n d_Usb d_Vendor d_Product d_Release y_4 y_5 true) else (bif (!y_5.2) then (F19_j8 n d_Usb d_Vendor d_Product d_Release y_4 y_5 true) else (bif (decide (d_Configs < (1 : Int))) then (F19_j8 n d_Usb d_Vendor d_Product d_Release y_4 y_5 true) else ((F72 n [(8 : Int), (16 : Int), (32 : Int), (64 : Int)] d_Max0).bind fun y_10 => (F19_j8 n d_Usb d_Vendor d_Product d_Release y_4 y_5 (!y_10))))))))) = some r := h
    refine TS.seq ?_
    have hq : (True) ∧ (True) := ⟨trivial, trivial⟩
    refine TS.reg [] ?_ ?_
    · apply prop_of ?_ hq
      kernel_rfl
    refine XS.then ?_
    refine TS.seq ?_
    rcases bif_some h with ⟨c1, h⟩ | ⟨c2, h⟩
    · refine TS.cond (decide (x < (([d_Usb, d_Vendor, d_Product, d_Release].length : Nat) : Int))) ?_ (fun e => ?_) (fun e => by rw [c1] at e; cases e)
      · kernel_rfl
      refine TS.skip ?_
      refine XS.then ?_
      refine TS.seq ?_
      refine TS.block ?_
      refine TS.seq ?_
      obtain ⟨t3, h⟩ := test_some h
      have hq : (inR x ([d_Usb, d_Vendor, d_Product, d_Release].length)) ∧ ((x.toNat < [d_Usb, d_Vendor, d_Product, d_Release].length ∧ (True)) ∧ ((True) ∧ (True))) := ⟨inb_ok t3, ⟨⟨inR_lt (inb_ok t3), trivial⟩, ⟨trivial, trivial⟩⟩⟩
      refine TS.reg [] ?_ ?_
      · apply prop_of ?_ hq
        kernel_rfl
      refine XS.then ?_
      refine TS.seq ?_
      obtain ⟨y_3, hx4, h⟩ := bind_some' h
      have hq : (True) ∧ ((PureC Try.prog 16 [(.int .i64 ([d_Usb, d_Vendor, d_Product, d_Release].getD x.toNat (0 : Int))), (.int .i64 (0 : Int)), (.int .i64 (65535 : Int))] (.bool y_3) []) ∧ ((True) ∧ (True))) := ⟨trivial, ⟨F16_ok n ([d_Usb, d_Vendor, d_Product, d_Release].getD x.toNat (0 : Int)) (0 : Int) (65535 : Int) y_3 hx4, ⟨trivial, trivial⟩⟩⟩
      refine TS.reg [.none, (.call (.bool y_3) [])] ?_ ?_
      · apply prop_of ?_ hq
        kernel_rfl
      refine XS.then ?_
      rcases bif_some h with ⟨c5, h⟩ | ⟨c6, h⟩
      · refine TS.cond (!y_3) ?_ (fun e => ?_) (fun e => by rw [c5] at e; cases e)
        · kernel_rfl
        refine TS.seq ?_
        have hq : (True) ∧ ((True) ∧ (True)) := ⟨trivial, ⟨trivial, trivial⟩⟩
        refine TS.reg [] ?_ ?_
        · apply prop_of ?_ hq
          kernel_rfl
        refine XS.then ?_
        refine TS.ret ?_
        refine XS.blockRet ?_
        refine XS.passR ?_
        refine XS.passR ?_
        refine XS.blockRet ?_
        refine XS.passR ?_
        obtain rfl : (([] : List UInt8), (1 : Int)) = r := Option.some.inj h
        exact XS.fin [] ((True) ∧ ((True) ∧ (True))) (by kernel_rfl) ⟨trivial, ⟨trivial, trivial⟩⟩
      · refine TS.cond (!y_3) ?_ (fun e => by rw [c6] at e; cases e) (fun e => ?_)
        · kernel_rfl
        refine TS.skip ?_
        refine XS.blockEnd ?_
        refine XS.then ?_
        have hq : (True) ∧ ((True) ∧ (True)) := ⟨trivial, ⟨trivial, trivial⟩⟩
        refine TS.reg [] ?_ ?_
        · apply prop_of ?_ hq
          kernel_rfl
        refine XS.reAny [0, 1] (mkMask 92 [1, 18, 19, 20]) (IntKind.wrap .i64 (x + (1 : Int))) h ?_
        kernel_rfl
    · refine TS.cond (decide (x < (([d_Usb, d_Vendor, d_Product, d_Release].length : Nat) : Int))) ?_ (fun e => by rw [c2] at e; cases e) (fun e => ?_)
      · kernel_rfl
      refine TS.exit ?_
      refine XS.passE ?_
      refine XS.passE ?_
      refine XS.out ?_
      refine XS.then ?_
      refine TS.seq ?_
      obtain ⟨y_4, hx7, h⟩ := bind_some' h
      have hq : (True) ∧ ((True) ∧ ((True) ∧ ((True) ∧ ((True) ∧ ((True) ∧ ((True) ∧ ((True) ∧ (((0 < 4 ∧ True) ∧ ((1 < 4 ∧ True) ∧ ((2 < 4 ∧ True) ∧ ((3 < 4 ∧ True) ∧ (True))))) ∧ ((((True) ∧ (True)) ∧ PureC Try.prog 71 [(.sl (.int .i64) [d_Class, d_Sub, d_Proto, d_Max0])] (.tup (.cons (.str y_4.1) (.cons (.bool y_4.2) .nil))) []) ∧ ((True) ∧ ((True) ∧ ((True) ∧ ((True) ∧ ((True) ∧ (True))))))))))))))) := ⟨trivial, ⟨trivial, ⟨trivial, ⟨trivial, ⟨trivial, ⟨trivial, ⟨trivial, ⟨trivial, ⟨⟨⟨by decide, trivial⟩, ⟨⟨by decide, trivial⟩, ⟨⟨by decide, trivial⟩, ⟨⟨by decide, trivial⟩, trivial⟩⟩⟩⟩, ⟨⟨⟨trivial, trivial⟩, F71_ok n [d_Class, d_Sub, d_Proto, d_Max0] y_4 hx7⟩, ⟨trivial, ⟨trivial, ⟨trivial, ⟨trivial, ⟨trivial, trivial⟩⟩⟩⟩⟩⟩⟩⟩⟩⟩⟩⟩⟩⟩⟩
      refine TS.reg [.none, .none, .none, .none, .none, .none, .none, .none, .none, (.call (.tup (.cons (.str y_4.1) (.cons (.bool y_4.2) .nil))) [])] ?_ ?_
      · apply prop_of ?_ hq
        kernel_rfl
      refine XS.then ?_
      refine TS.seq ?_
      obtain ⟨y_5, hx8, h⟩ := bind_some' h
      have hq : (True) ∧ ((True) ∧ ((True) ∧ ((True) ∧ ((True) ∧ ((True) ∧ ((True) ∧ ((True) ∧ (((0 < 4 ∧ True) ∧ ((1 < 4 ∧ True) ∧ ((2 < 4 ∧ True) ∧ ((3 < 4 ∧ True) ∧ (True))))) ∧ ((((True) ∧ (True)) ∧ PureC Try.prog 71 [(.sl (.int .i64) [d_Maker, d_Name, d_Serial, d_Configs])] (.tup (.cons (.str y_5.1) (.cons (.bool y_5.2) .nil))) []) ∧ ((True) ∧ ((True) ∧ ((True) ∧ ((True) ∧ ((True) ∧ (True))))))))))))))) := ⟨trivial, ⟨trivial, ⟨trivial, ⟨trivial, ⟨trivial, ⟨trivial, ⟨trivial, ⟨trivial, ⟨⟨⟨by decide, trivial⟩, ⟨⟨by decide, trivial⟩, ⟨⟨by decide, trivial⟩, ⟨⟨by decide, trivial⟩, trivial⟩⟩⟩⟩, ⟨⟨⟨trivial, trivial⟩, F71_ok n [d_Maker, d_Name, d_Serial, d_Configs] y_5 hx8⟩, ⟨trivial, ⟨trivial, ⟨trivial, ⟨trivial, ⟨trivial, trivial⟩⟩⟩⟩⟩⟩⟩⟩⟩⟩⟩⟩⟩⟩⟩
      refine TS.reg [.none, .none, .none, .none, .none, .none, .none, .none, .none, (.call (.tup (.cons (.str y_5.1) (.cons (.bool y_5.2) .nil))) [])] ?_ ?_
      · apply prop_of ?_ hq
        kernel_rfl
      refine XS.then ?_
      refine TS.seq ?_
      refine TS.seq ?_
      refine TS.cut (D := Bool) (fun d => match d with | x_2 => (mkTs 92 [(1, (.ptr 0 [])), (6, (.str y_4.1)), (8, (.str y_5.1)), (71, (.bool x_2))], [(.box 34 (.st (.cons (.int .i64 d_Usb) (.cons (.int .i64 d_Class) (.cons (.int .i64 d_Sub) (.cons (.int .i64 d_Proto) (.cons (.int .i64 d_Max0) (.cons (.int .i64 d_Vendor) (.cons (.int .i64 d_Product) (.cons (.int .i64 d_Release) (.cons (.int .i64 d_Maker) (.cons (.int .i64 d_Name) (.cons (.int .i64 d_Serial) (.int .i64 d_Configs))))))))))))))])) (fun d => F19_j8 n d_Usb d_Vendor d_Product d_Release y_4 y_5 d = some r) ?_ ?_
      · rintro x_2 h
        replace h : (bif x_2 then (some (([] : List UInt8), (1 : Int))) else ((F73 n d_Usb).bind fun y_6 => (bif (decide (([18, 1] : List UInt8).length + y_6.length ≤ 9223372036854775807)) then (bif (decide ((([18, 1] : List UInt8) ++ y_6).length + y_4.1.length ≤ 9223372036854775807)) then ((F73 n d_Vendor).bind fun y_7 => (bif (decide (((([18, 1] : List UInt8) ++ y_6) ++ y_4.1).length + y_7.length ≤ 9223372036854775807)) then ((F73 n d_Product).bind fun y_8 => (bif (decide ((((([18, 1] : List UInt8) ++ y_6) ++ y_4.1) ++ y_7).length + y_8.length ≤ 9223372036854775807)) then ((F73 n d_Release).bind fun y_9 => (bif (decide (((((([18, 1] : List UInt8) ++ y_6) ++ y_4.1) ++ y_7) ++ y_8).length + y_9.length ≤ 9223372036854775807)) then (bif (decide ((((((([18, 1] : List UInt8) ++ y_6) ++ y_4.1) ++ y_7) ++ y_8) ++ y_9).length + y_5.1.length ≤ 9223372036854775807)) then (some (((((((([18, 1] : List UInt8) ++ y_6) ++ y_4.1) ++ y_7) ++ y_8) ++ y_9) ++ y_5.1), (0 : Int))) else none) else none)) else none)) else none)) else none) else none))) = some r := h
        refine XS.then ?_
        rcases bif_some h with ⟨c9, h⟩ | ⟨c10, h⟩
        · refine TS.cond x_2 ?_ (fun e => ?_) (fun e => by rw [c9] at e; cases e)
          · kernel_rfl
          refine TS.seq ?_
          have hq : (True) ∧ ((True) ∧ (True)) := ⟨trivial, ⟨trivial, trivial⟩⟩
          refine TS.reg [] ?_ ?_
          · apply prop_of ?_ hq
            kernel_rfl
          refine XS.then ?_
          refine TS.ret ?_
          refine XS.passR ?_
          obtain rfl : (([] : List UInt8), (1 : Int)) = r := Option.some.inj h
          exact XS.fin [] ((True) ∧ ((True) ∧ (True))) (by kernel_rfl) ⟨trivial, ⟨trivial, trivial⟩⟩
        · refine TS.cond x_2 ?_ (fun e => by rw [c10] at e; cases e) (fun e => ?_)
          · kernel_rfl
          refine TS.skip ?_
          refine XS.then ?_
          refine TS.seq ?_
          obtain ⟨y_6, hx11, h⟩ := bind_some' h
          obtain ⟨t12, h⟩ := test_some h
          obtain ⟨t13, h⟩ := test_some h
          obtain ⟨y_7, hx14, h⟩ := bind_some' h
          obtain ⟨t15, h⟩ := test_some h
          obtain ⟨y_8, hx16, h⟩ := bind_some' h
          obtain ⟨t17, h⟩ := test_some h
          obtain ⟨y_9, hx18, h⟩ := bind_some' h
          obtain ⟨t19, h⟩ := test_some h
          obtain ⟨t20, h⟩ := test_some h
          have hq : ((True) ∧ ((True) ∧ ((PureC Try.prog 73 [(.int .i64 d_Usb)] (.str y_6) []) ∧ ((([18, 1] : List UInt8).length + y_6.length ≤ 9223372036854775807) ∧ ((True) ∧ (((([18, 1] : List UInt8) ++ y_6).length + y_4.1.length ≤ 9223372036854775807) ∧ ((True) ∧ ((True) ∧ ((PureC Try.prog 73 [(.int .i64 d_Vendor)] (.str y_7) []) ∧ ((((([18, 1] : List UInt8) ++ y_6) ++ y_4.1).length + y_7.length ≤ 9223372036854775807) ∧ ((True) ∧ ((True) ∧ ((PureC Try.prog 73 [(.int .i64 d_Product)] (.str y_8) []) ∧ (((((([18, 1] : List UInt8) ++ y_6) ++ y_4.1) ++ y_7).length + y_8.length ≤ 9223372036854775807) ∧ ((True) ∧ ((True) ∧ ((PureC Try.prog 73 [(.int .i64 d_Release)] (.str y_9) []) ∧ ((((((([18, 1] : List UInt8) ++ y_6) ++ y_4.1) ++ y_7) ++ y_8).length + y_9.length ≤ 9223372036854775807) ∧ ((True) ∧ (((((((([18, 1] : List UInt8) ++ y_6) ++ y_4.1) ++ y_7) ++ y_8) ++ y_9).length + y_5.1.length ≤ 9223372036854775807) ∧ (True))))))))))))))))))))) ∧ ((True) ∧ ((True) ∧ (True))) := ⟨⟨trivial, ⟨trivial, ⟨F73_ok n d_Usb y_6 hx11, ⟨of_decide_eq_true t12, ⟨trivial, ⟨of_decide_eq_true t13, ⟨trivial, ⟨trivial, ⟨F73_ok n d_Vendor y_7 hx14, ⟨of_decide_eq_true t15, ⟨trivial, ⟨trivial, ⟨F73_ok n d_Product y_8 hx16, ⟨of_decide_eq_true t17, ⟨trivial, ⟨trivial, ⟨F73_ok n d_Release y_9 hx18, ⟨of_decide_eq_true t19, ⟨trivial, ⟨of_decide_eq_true t20, trivial⟩⟩⟩⟩⟩⟩⟩⟩⟩⟩⟩⟩⟩⟩⟩⟩⟩⟩⟩⟩, ⟨trivial, ⟨trivial, trivial⟩⟩⟩
          refine TS.draw 20 [] [.none, .none, (.call (.str y_6) []), .none, .none, .none, .none, .none, (.call (.str y_7) []), .none, .none, .none, (.call (.str y_8) []), .none, .none, .none, (.call (.str y_9) [])] (by kernel_rfl) ?_ ?_
          · apply prop_of ?_ hq
            kernel_rfl
          refine XS.then ?_
          refine TS.ret ?_
          obtain rfl : (((((((([18, 1] : List UInt8) ++ y_6) ++ y_4.1) ++ y_7) ++ y_8) ++ y_9) ++ y_5.1), (0 : Int)) = r := Option.some.inj h
          exact XS.fin [] ((True) ∧ ((True) ∧ (True))) (by kernel_rfl) ⟨trivial, ⟨trivial, trivial⟩⟩
      · rcases bif_some h with ⟨c21, h⟩ | ⟨c22, h⟩
        · have hq : (True) ∧ ((True) ∧ (((True) ∧ (!y_4.2) = true) ∧ ((True) ∧ ((True) ∧ ((True) ∧ ((True) ∧ ((True) ∧ (True)))))))) := ⟨trivial, ⟨trivial, ⟨⟨trivial, c21⟩, ⟨trivial, ⟨trivial, ⟨trivial, ⟨trivial, ⟨trivial, trivial⟩⟩⟩⟩⟩⟩⟩⟩
          refine TS.reg [.none, .none, .dec true] ?_ ?_
          · apply prop_of ?_ hq
            kernel_rfl
          refine XS.reAny [0] (mkMask 92 [1, 6, 8, 71]) true h ?_
          kernel_rfl
        · rcases bif_some h with ⟨c23, h⟩ | ⟨c24, h⟩
          · have hq : (True) ∧ ((True) ∧ (((True) ∧ (!y_4.2) = false) ∧ ((True) ∧ ((True) ∧ ((True) ∧ (((True) ∧ (!y_5.2) = true) ∧ ((True) ∧ ((True) ∧ ((True) ∧ (True)))))))))) := ⟨trivial, ⟨trivial, ⟨⟨trivial, c22⟩, ⟨trivial, ⟨trivial, ⟨trivial, ⟨⟨trivial, c23⟩, ⟨trivial, ⟨trivial, ⟨trivial, trivial⟩⟩⟩⟩⟩⟩⟩⟩⟩⟩
            refine TS.reg [.none, .none, .dec false, .none, .none, .none, .dec true] ?_ ?_
            · apply prop_of ?_ hq
              kernel_rfl
            refine XS.reAny [0] (mkMask 92 [1, 6, 8, 71]) true h ?_
            kernel_rfl
          · rcases bif_some h with ⟨c25, h⟩ | ⟨c26, h⟩
            · have hq : (True) ∧ ((True) ∧ (((True) ∧ (!y_4.2) = false) ∧ ((True) ∧ ((True) ∧ ((True) ∧ (((True) ∧ (!y_5.2) = false) ∧ ((True) ∧ ((True) ∧ ((True) ∧ ((True) ∧ (((True) ∧ (decide (d_Configs < (1 : Int))) = true) ∧ ((True) ∧ (True))))))))))))) := ⟨trivial, ⟨trivial, ⟨⟨trivial, c22⟩, ⟨trivial, ⟨trivial, ⟨trivial, ⟨⟨trivial, c24⟩, ⟨trivial, ⟨trivial, ⟨trivial, ⟨trivial, ⟨⟨trivial, c25⟩, ⟨trivial, trivial⟩⟩⟩⟩⟩⟩⟩⟩⟩⟩⟩⟩⟩
              refine TS.reg [.none, .none, .dec false, .none, .none, .none, .dec false, .none, .none, .none, .none, .dec true] ?_ ?_
              · apply prop_of ?_ hq
                kernel_rfl
              refine XS.reAny [0] (mkMask 92 [1, 6, 8, 71]) true h ?_
              kernel_rfl
            · obtain ⟨y_10, hx27, h⟩ := bind_some' h
              have hq : (True) ∧ ((True) ∧ (((True) ∧ (!y_4.2) = false) ∧ ((True) ∧ ((True) ∧ ((True) ∧ (((True) ∧ (!y_5.2) = false) ∧ ((True) ∧ ((True) ∧ ((True) ∧ ((True) ∧ (((True) ∧ (decide (d_Configs < (1 : Int))) = false) ∧ (((0 < 4 ∧ True) ∧ ((1 < 4 ∧ True) ∧ ((2 < 4 ∧ True) ∧ ((3 < 4 ∧ True) ∧ (True))))) ∧ ((True) ∧ ((True) ∧ ((((True) ∧ ((True) ∧ (True))) ∧ PureC Try.prog 72 [(.sl (.int .i64) [(8 : Int), (16 : Int), (32 : Int), (64 : Int)]), (.int .i64 d_Max0)] (.bool y_10) []) ∧ ((True) ∧ ((True) ∧ (True)))))))))))))))))) := ⟨trivial, ⟨trivial, ⟨⟨trivial, c22⟩, ⟨trivial, ⟨trivial, ⟨trivial, ⟨⟨trivial, c24⟩, ⟨trivial, ⟨trivial, ⟨trivial, ⟨trivial, ⟨⟨trivial, c26⟩, ⟨⟨⟨by decide, trivial⟩, ⟨⟨by decide, trivial⟩, ⟨⟨by decide, trivial⟩, ⟨⟨by decide, trivial⟩, trivial⟩⟩⟩⟩, ⟨trivial, ⟨trivial, ⟨⟨⟨trivial, ⟨trivial, trivial⟩⟩, F72_ok n [(8 : Int), (16 : Int), (32 : Int), (64 : Int)] d_Max0 y_10 hx27⟩, ⟨trivial, ⟨trivial, trivial⟩⟩⟩⟩⟩⟩⟩⟩⟩⟩⟩⟩⟩⟩⟩⟩⟩⟩
              refine TS.reg [.none, .none, .dec false, .none, .none, .none, .dec false, .none, .none, .none, .none, .dec false, .none, .none, .none, (.call (.bool y_10) [])] ?_ ?_
              · apply prop_of ?_ hq
                kernel_rfl
              refine XS.reAny [0] (mkMask 92 [1, 6, 8, 71]) (!y_10) h ?_
              kernel_rfl

/-! plugtree/desc.ReadDevice$1 -/
def F74 (n : Nat) (i : Int) (x : List UInt8) : Option Int := (bif inb i x.length then (some (IntKind.wrap .i64 ((((x.getD i.toNat 0).toNat : Nat) : Int)))) else none)
theorem F74_ok (n : Nat) (i : Int) (x : List UInt8) (r : Int) (h : F74 n i x = some r) : PureC Try.prog 74 [(.int .i64 i), (.pv (.str x))] (.int .i64 r) [] := by
  refine PureC.mkS Try.func74 rfl rfl ?_
  intro w0 fz0 hfz
  replace h : (bif inb i x.length then (some (IntKind.wrap .i64 ((((x.getD i.toNat 0).toNat : Nat) : Int)))) else none) = some r := h
  refine TS.seq ?_
  have hq : (True) ∧ (True) := ⟨trivial, trivial⟩
  refine TS.reg [] ?_ ?_
  · apply prop_of ?_ hq
    kernel_rfl
  refine XS.then ?_
  refine TS.seq ?_
  obtain ⟨t1, h⟩ := test_some h
  have hq : (True) ∧ ((True) ∧ ((inR i x.length) ∧ ((True) ∧ ((True) ∧ (True))))) := ⟨trivial, ⟨trivial, ⟨inb_ok t1, ⟨trivial, ⟨trivial, trivial⟩⟩⟩⟩⟩
  refine TS.reg [] ?_ ?_
  · apply prop_of ?_ hq
    kernel_rfl
  refine XS.then ?_
  refine TS.ret ?_
  obtain rfl : (IntKind.wrap .i64 ((((x.getD i.toNat 0).toNat : Nat) : Int))) = r := Option.some.inj h
  exact XS.fin [] ((True) ∧ (True)) (by kernel_rfl) ⟨trivial, trivial⟩

/-! plugtree/desc.wordAt -/
def F75 (n : Nat) (s : List UInt8) (vat : Int) : Option Int := (bif inb vat s.length then (bif inb (IntKind.wrap .i64 (vat + (1 : Int))) s.length then (some (bitsI .or .i64 (IntKind.wrap .i64 ((((s.getD vat.toNat 0).toNat : Nat) : Int))) (shlI .i64 (IntKind.wrap .i64 ((((s.getD ((IntKind.wrap .i64 (vat + (1 : Int))).toNat) 0).toNat : Nat) : Int))) (8 : Int)))) else none) else none)
theorem F75_ok (n : Nat) (s : List UInt8) (vat : Int) (r : Int) (h : F75 n s vat = some r) : PureC Try.prog 75 [(.str s), (.int .i64 vat)] (.int .i64 r) [] := by
  refine PureC.mkS Try.func75 rfl rfl ?_
  intro w0 fz0 hfz
  replace h : (bif inb vat s.length then (bif inb (IntKind.wrap .i64 (vat + (1 : Int))) s.length then (some (bitsI .or .i64 (IntKind.wrap .i64 ((((s.getD vat.toNat 0).toNat : Nat) : Int))) (shlI .i64 (IntKind.wrap .i64 ((((s.getD ((IntKind.wrap .i64 (vat + (1 : Int))).toNat) 0).toNat : Nat) : Int))) (8 : Int)))) else none) else none) = some r := h
  refine TS.seq ?_
  have hq : (True) ∧ (True) := ⟨trivial, trivial⟩
  refine TS.reg [] ?_ ?_
  · apply prop_of ?_ hq
    kernel_rfl
  refine XS.then ?_
  refine TS.seq ?_
  obtain ⟨t1, h⟩ := test_some h
  obtain ⟨t2, h⟩ := test_some h
  have hq : ((True) ∧ ((True) ∧ ((inR vat s.length) ∧ ((True) ∧ ((True) ∧ ((True) ∧ ((True) ∧ ((inR (IntKind.wrap .i64 (vat + (1 : Int))) s.length) ∧ ((True) ∧ ((0 ≤ (8 : Int)) ∧ ((True) ∧ (True)))))))))))) ∧ ((True) ∧ (True)) := ⟨⟨trivial, ⟨trivial, ⟨inb_ok t1, ⟨trivial, ⟨trivial, ⟨trivial, ⟨trivial, ⟨inb_ok t2, ⟨trivial, ⟨by decide, ⟨trivial, trivial⟩⟩⟩⟩⟩⟩⟩⟩⟩⟩⟩, ⟨trivial, trivial⟩⟩
  refine TS.draw 11 [] [] (by kernel_rfl) ?_ ?_
  · apply prop_of ?_ hq
    kernel_rfl
  refine XS.then ?_
  refine TS.ret ?_
  obtain rfl : (bitsI .or .i64 (IntKind.wrap .i64 ((((s.getD vat.toNat 0).toNat : Nat) : Int))) (shlI .i64 (IntKind.wrap .i64 ((((s.getD ((IntKind.wrap .i64 (vat + (1 : Int))).toNat) 0).toNat : Nat) : Int))) (8 : Int))) = r := Option.some.inj h
  exact XS.fin [] ((True) ∧ (True)) (by kernel_rfl) ⟨trivial, trivial⟩

/-! plugtree/desc.ReadDevice -/
def F20 (n : Nat) (s : List UInt8) : Option (Int × Int × Int × Int × Int × Int × Int × Int × Int × Int × Int × Int × Int) := (bif (decide (((s.length : Nat) : Int) < (18 : Int))) then (some ((0 : Int), (0 : Int), (0 : Int), (0 : Int), (0 : Int), (0 : Int), (0 : Int), (0 : Int), (0 : Int), (0 : Int), (0 : Int), (0 : Int), (3 : Int))) else ((F75 n s (2 : Int)).bind fun y_14 => ((F74 n (4 : Int) s).bind fun y_15 => ((F74 n (5 : Int) s).bind fun y_16 => ((F74 n (6 : Int) s).bind fun y_17 => ((F74 n (7 : Int) s).bind fun y_18 => ((F75 n s (8 : Int)).bind fun y_19 => ((F75 n s (10 : Int)).bind fun y_20 => ((F75 n s (12 : Int)).bind fun y_21 => ((F74 n (14 : Int) s).bind fun y_22 => ((F74 n (15 : Int) s).bind fun y_23 => ((F74 n (16 : Int) s).bind fun y_24 => ((F74 n (17 : Int) s).bind fun y_25 => ((F18 n y_14 y_15 y_16 y_17 y_18 y_19 y_20 y_21 y_22 y_23 y_24 y_25).bind fun y_26 => (bif (y_26.2 != (0 : Int)) then (some ((0 : Int), (0 : Int), (0 : Int), (0 : Int), (0 : Int), (0 : Int), (0 : Int), (0 : Int), (0 : Int), (0 : Int), (0 : Int), (0 : Int), (4 : Int))) else (bif (!(y_26.1 == s)) then (some ((0 : Int), (0 : Int), (0 : Int), (0 : Int), (0 : Int), (0 : Int), (0 : Int), (0 : Int), (0 : Int), (0 : Int), (0 : Int), (0 : Int), (4 : Int))) else (some (y_14, y_15, y_16, y_17, y_18, y_19, y_20, y_21, y_22, y_23, y_24, y_25, (0 : Int)))))))))))))))))))
theorem F20_ok (n : Nat) (s : List UInt8) (r : Int × Int × Int × Int × Int × Int × Int × Int × Int × Int × Int × Int × Int) (h : F20 n s = some r) : PureC Try.prog 20 [(.str s)] (.tup (.cons (.st (.cons (.int .i64 r.1) (.cons (.int .i64 r.2.1) (.cons (.int .i64 r.2.2.1) (.cons (.int .i64 r.2.2.2.1) (.cons (.int .i64 r.2.2.2.2.1) (.cons (.int .i64 r.2.2.2.2.2.1) (.cons (.int .i64 r.2.2.2.2.2.2.1) (.cons (.int .i64 r.2.2.2.2.2.2.2.1) (.cons (.int .i64 r.2.2.2.2.2.2.2.2.1) (.cons (.int .i64 r.2.2.2.2.2.2.2.2.2.1) (.cons (.int .i64 r.2.2.2.2.2.2.2.2.2.2.1) (.int .i64 r.2.2.2.2.2.2.2.2.2.2.2.1))))))))))))) (.cons (.int .i64 r.2.2.2.2.2.2.2.2.2.2.2.2) .nil))) [] := by
  refine PureC.mkS Try.func20 rfl rfl ?_
  intro w0 fz0 hfz
  replace h : (bif (decide (((s.length : Nat) : Int) < (18 : Int))) then (some ((0 : Int), (0 : Int), (0 : Int), (0 : Int), (0 : Int), (0 : Int), (0 : Int), (0 : Int), (0 : Int), (0 : Int), (0 : Int), (0 : Int), (3 : Int))) else ((F75 n s (2 : Int)).bind fun y_14 => ((F74 n (4 : Int) s).bind fun y_15 => ((F74 n (5 : Int) s).bind fun y_16 => ((F74 n (6 : Int) s).bind fun y_17 => ((F74 n (7 : Int) s).bind fun y_18 => ((F75 n s (8 : Int)).bind fun y_19 => ((F75 n s (10 : Int)).bind fun y_20 => ((F75 n s (12 : Int)).bind fun y_21 => ((F74 n (14 : Int) s).bind fun y_22 => ((F74 n (15 : Int) s).bind fun y_23 => ((F74 n (16 : Int) s).bind fun y_24 => ((F74 n (17 : Int) s).bind fun y_25 => ((F18 n y_14 y_15 y_16 y_17 y_18 y_19 y_20 y_21 y_22 y_23 y_24 y_25).bind fun y_26 => (bif (y_26.2 != (0 : Int)) then (some ((0 : Int), (0 : Int), (0 : Int), (0 : Int), (0 : Int), (0 : Int), (0 : Int), (0 : Int), (0 : Int), (0 : Int), (0 : Int), (0 : Int), (4 : Int))) else (bif (!(y_26.1 == s)) then (some ((0 : Int), (0 : Int), (0 : Int), (0 : Int), (0 : Int), (0 : Int), (0 : Int), (0 : Int), (0 : Int), (0 : Int), (0 : Int), (0 : Int), (4 : Int))) else (some (y_14, y_15, y_16, y_17, y_18, y_19, y_20, y_21, y_22, y_23, y_24, y_25, (0 : Int))))))))))))))))))) = some r := h
  refine TS.seq ?_
  have hq : (True) ∧ ((True) ∧ ((True) ∧ (True))) := ⟨trivial, ⟨trivial, ⟨trivial, trivial⟩⟩⟩
  refine TS.reg [] ?_ ?_
  · apply prop_of ?_ hq
    kernel_rfl
  refine XS.then ?_
  refine TS.seq ?_
  refine TS.seq ?_
  have hq : (True) ∧ ((True) ∧ ((True) ∧ (True))) := ⟨trivial, ⟨trivial, ⟨trivial, trivial⟩⟩⟩
  refine TS.reg [] ?_ ?_
  · apply prop_of ?_ hq
    kernel_rfl
  refine XS.then ?_
  rcases bif_some h with ⟨c1, h⟩ | ⟨c2, h⟩
  · refine TS.cond (decide (((s.length : Nat) : Int) < (18 : Int))) ?_ (fun e => ?_) (fun e => by rw [c1] at e; cases e)
    · kernel_rfl
    refine TS.seq ?_
    have hq : (True) ∧ ((True) ∧ ((True) ∧ (True))) := ⟨trivial, ⟨trivial, ⟨trivial, trivial⟩⟩⟩
    refine TS.reg [] ?_ ?_
    · apply prop_of ?_ hq
      kernel_rfl
    refine XS.then ?_
    refine TS.ret ?_
    refine XS.passR ?_
    obtain rfl : ((0 : Int), (0 : Int), (0 : Int), (0 : Int), (0 : Int), (0 : Int), (0 : Int), (0 : Int), (0 : Int), (0 : Int), (0 : Int), (0 : Int), (3 : Int)) = r := Option.some.inj h
    exact XS.fin [] ((True) ∧ ((True) ∧ (True))) (by kernel_rfl) ⟨trivial, ⟨trivial, trivial⟩⟩
  · refine TS.cond (decide (((s.length : Nat) : Int) < (18 : Int))) ?_ (fun e => by rw [c2] at e; cases e) (fun e => ?_)
    · kernel_rfl
    refine TS.skip ?_
    refine XS.then ?_
    refine TS.seq ?_
    have hq : (True) ∧ ((True) ∧ (True)) := ⟨trivial, ⟨trivial, trivial⟩⟩
    refine TS.reg [] ?_ ?_
    · apply prop_of ?_ hq
      kernel_rfl
    refine XS.then ?_
    refine TS.seq ?_
    obtain ⟨y_14, hx3, h⟩ := bind_some' h
    obtain ⟨y_15, hx4, h⟩ := bind_some' h
    obtain ⟨y_16, hx5, h⟩ := bind_some' h
    obtain ⟨y_17, hx6, h⟩ := bind_some' h
    obtain ⟨y_18, hx7, h⟩ := bind_some' h
    obtain ⟨y_19, hx8, h⟩ := bind_some' h
    obtain ⟨y_20, hx9, h⟩ := bind_some' h
    obtain ⟨y_21, hx10, h⟩ := bind_some' h
    obtain ⟨y_22, hx11, h⟩ := bind_some' h
    obtain ⟨y_23, hx12, h⟩ := bind_some' h
    obtain ⟨y_24, hx13, h⟩ := bind_some' h
    obtain ⟨y_25, hx14, h⟩ := bind_some' h
    have hq : ((True) ∧ ((PureC Try.prog 75 [(.str s), (.int .i64 (2 : Int))] (.int .i64 y_14) []) ∧ ((True) ∧ ((((True) ∧ ((True) ∧ (True))) ∧ PureC Try.prog 74 [(.int .i64 (4 : Int)), (.pv (.str s))] (.int .i64 y_15) []) ∧ ((True) ∧ ((((True) ∧ ((True) ∧ (True))) ∧ PureC Try.prog 74 [(.int .i64 (5 : Int)), (.pv (.str s))] (.int .i64 y_16) []) ∧ ((True) ∧ ((((True) ∧ ((True) ∧ (True))) ∧ PureC Try.prog 74 [(.int .i64 (6 : Int)), (.pv (.str s))] (.int .i64 y_17) []) ∧ ((True) ∧ ((((True) ∧ ((True) ∧ (True))) ∧ PureC Try.prog 74 [(.int .i64 (7 : Int)), (.pv (.str s))] (.int .i64 y_18) []) ∧ ((True) ∧ ((PureC Try.prog 75 [(.str s), (.int .i64 (8 : Int))] (.int .i64 y_19) []) ∧ ((True) ∧ ((PureC Try.prog 75 [(.str s), (.int .i64 (10 : Int))] (.int .i64 y_20) []) ∧ ((True) ∧ ((PureC Try.prog 75 [(.str s), (.int .i64 (12 : Int))] (.int .i64 y_21) []) ∧ ((True) ∧ ((((True) ∧ ((True) ∧ (True))) ∧ PureC Try.prog 74 [(.int .i64 (14 : Int)), (.pv (.str s))] (.int .i64 y_22) []) ∧ ((True) ∧ ((((True) ∧ ((True) ∧ (True))) ∧ PureC Try.prog 74 [(.int .i64 (15 : Int)), (.pv (.str s))] (.int .i64 y_23) []) ∧ ((True) ∧ ((((True) ∧ ((True) ∧ (True))) ∧ PureC Try.prog 74 [(.int .i64 (16 : Int)), (.pv (.str s))] (.int .i64 y_24) []) ∧ ((True) ∧ ((((True) ∧ ((True) ∧ (True))) ∧ PureC Try.prog 74 [(.int .i64 (17 : Int)), (.pv (.str s))] (.int .i64 y_25) []) ∧ (((True) ∧ ((True) ∧ ((True) ∧ ((True) ∧ ((True) ∧ ((True) ∧ ((True) ∧ ((True) ∧ ((True) ∧ ((True) ∧ ((True) ∧ ((True) ∧ (True))))))))))))) ∧ ((True) ∧ (True))))))))))))))))))))))))))) ∧ ((True) ∧ (True)) := ⟨⟨trivial, ⟨F75_ok n s (2 : Int) y_14 hx3, ⟨trivial, ⟨⟨⟨trivial, ⟨trivial, trivial⟩⟩, F74_ok n (4 : Int) s y_15 hx4⟩, ⟨trivial, ⟨⟨⟨trivial, ⟨trivial, trivial⟩⟩, F74_ok n (5 : Int) s y_16 hx5⟩, ⟨trivial, ⟨⟨⟨trivial, ⟨trivial, trivial⟩⟩, F74_ok n (6 : Int) s y_17 hx6⟩, ⟨trivial, ⟨⟨⟨trivial, ⟨trivial, trivial⟩⟩, F74_ok n (7 : Int) s y_18 hx7⟩, ⟨trivial, ⟨F75_ok n s (8 : Int) y_19 hx8, ⟨trivial, ⟨F75_ok n s (10 : Int) y_20 hx9, ⟨trivial, ⟨F75_ok n s (12 : Int) y_21 hx10, ⟨trivial, ⟨⟨⟨trivial, ⟨trivial, trivial⟩⟩, F74_ok n (14 : Int) s y_22 hx11⟩, ⟨trivial, ⟨⟨⟨trivial, ⟨trivial, trivial⟩⟩, F74_ok n (15 : Int) s y_23 hx12⟩, ⟨trivial, ⟨⟨⟨trivial, ⟨trivial, trivial⟩⟩, F74_ok n (16 : Int) s y_24 hx13⟩, ⟨trivial, ⟨⟨⟨trivial, ⟨trivial, trivial⟩⟩, F74_ok n (17 : Int) s y_25 hx14⟩, ⟨⟨trivial, ⟨trivial, ⟨trivial, ⟨trivial, ⟨trivial, ⟨trivial, ⟨trivial, ⟨trivial, ⟨trivial, ⟨trivial, ⟨trivial, ⟨trivial, trivial⟩⟩⟩⟩⟩⟩⟩⟩⟩⟩⟩⟩, ⟨trivial, trivial⟩⟩⟩⟩⟩⟩⟩⟩⟩⟩⟩⟩⟩⟩⟩⟩⟩⟩⟩⟩⟩⟩⟩⟩⟩⟩, ⟨trivial, trivial⟩⟩
    refine TS.draw 26 [] [.none, (.call (.int .i64 y_14) []), .none, (.call (.int .i64 y_15) []), .none, (.call (.int .i64 y_16) []), .none, (.call (.int .i64 y_17) []), .none, (.call (.int .i64 y_18) []), .none, (.call (.int .i64 y_19) []), .none, (.call (.int .i64 y_20) []), .none, (.call (.int .i64 y_21) []), .none, (.call (.int .i64 y_22) []), .none, (.call (.int .i64 y_23) []), .none, (.call (.int .i64 y_24) []), .none, (.call (.int .i64 y_25) [])] (by kernel_rfl) ?_ ?_
    · apply prop_of ?_ hq
      kernel_rfl
    refine XS.then ?_
    refine TS.seq ?_
    refine TS.seq ?_
    obtain ⟨y_26, hx15, h⟩ := bind_some' h
    have hq : (True) ∧ ((PureC Try.prog 18 [(.st (.cons (.int .i64 y_14) (.cons (.int .i64 y_15) (.cons (.int .i64 y_16) (.cons (.int .i64 y_17) (.cons (.int .i64 y_18) (.cons (.int .i64 y_19) (.cons (.int .i64 y_20) (.cons (.int .i64 y_21) (.cons (.int .i64 y_22) (.cons (.int .i64 y_23) (.cons (.int .i64 y_24) (.int .i64 y_25)))))))))))))] (.tup (.cons (.str y_26.1) (.cons (.int .i64 y_26.2) .nil))) []) ∧ ((True) ∧ ((True) ∧ ((True) ∧ ((True) ∧ ((True) ∧ (True))))))) := ⟨trivial, ⟨F18_ok n y_14 y_15 y_16 y_17 y_18 y_19 y_20 y_21 y_22 y_23 y_24 y_25 y_26 hx15, ⟨trivial, ⟨trivial, ⟨trivial, ⟨trivial, ⟨trivial, trivial⟩⟩⟩⟩⟩⟩⟩
    refine TS.reg [.none, (.call (.tup (.cons (.str y_26.1) (.cons (.int .i64 y_26.2) .nil))) [])] ?_ ?_
    · apply prop_of ?_ hq
      kernel_rfl
    refine XS.then ?_
    refine TS.seq ?_
    rcases bif_some h with ⟨c16, h⟩ | ⟨c17, h⟩
    · have hq : (True) ∧ ((True) ∧ (((True) ∧ (y_26.2 != (0 : Int)) = true) ∧ ((True) ∧ (True)))) := ⟨trivial, ⟨trivial, ⟨⟨trivial, c16⟩, ⟨trivial, trivial⟩⟩⟩⟩
      refine TS.reg [.none, .none, .dec true] ?_ ?_
      · apply prop_of ?_ hq
        kernel_rfl
      refine XS.then ?_
      refine TS.yes ?_ ?_
      · kernel_rfl
      refine TS.seq ?_
      have hq : (True) ∧ ((True) ∧ ((True) ∧ (True))) := ⟨trivial, ⟨trivial, ⟨trivial, trivial⟩⟩⟩
      refine TS.reg [] ?_ ?_
      · apply prop_of ?_ hq
        kernel_rfl
      refine XS.then ?_
      refine TS.ret ?_
      refine XS.passR ?_
      obtain rfl : ((0 : Int), (0 : Int), (0 : Int), (0 : Int), (0 : Int), (0 : Int), (0 : Int), (0 : Int), (0 : Int), (0 : Int), (0 : Int), (0 : Int), (4 : Int)) = r := Option.some.inj h
      exact XS.fin [] ((True) ∧ ((True) ∧ (True))) (by kernel_rfl) ⟨trivial, ⟨trivial, trivial⟩⟩
    · have hq : (True) ∧ ((True) ∧ (((True) ∧ (y_26.2 != (0 : Int)) = false) ∧ ((True) ∧ ((True) ∧ ((True) ∧ ((True) ∧ (True))))))) := ⟨trivial, ⟨trivial, ⟨⟨trivial, c17⟩, ⟨trivial, ⟨trivial, ⟨trivial, ⟨trivial, trivial⟩⟩⟩⟩⟩⟩⟩
      refine TS.reg [.none, .none, .dec false] ?_ ?_
      · apply prop_of ?_ hq
        kernel_rfl
      refine XS.then ?_
      rcases bif_some h with ⟨c18, h⟩ | ⟨c19, h⟩
      · refine TS.cond (!(y_26.1 == s)) ?_ (fun e => ?_) (fun e => by rw [c18] at e; cases e)
        · kernel_rfl
        refine TS.seq ?_
        have hq : (True) ∧ ((True) ∧ ((True) ∧ (True))) := ⟨trivial, ⟨trivial, ⟨trivial, trivial⟩⟩⟩
        refine TS.reg [] ?_ ?_
        · apply prop_of ?_ hq
          kernel_rfl
        refine XS.then ?_
        refine TS.ret ?_
        refine XS.passR ?_
        obtain rfl : ((0 : Int), (0 : Int), (0 : Int), (0 : Int), (0 : Int), (0 : Int), (0 : Int), (0 : Int), (0 : Int), (0 : Int), (0 : Int), (0 : Int), (4 : Int)) = r := Option.some.inj h
        exact XS.fin [] ((True) ∧ ((True) ∧ (True))) (by kernel_rfl) ⟨trivial, ⟨trivial, trivial⟩⟩
      · refine TS.cond (!(y_26.1 == s)) ?_ (fun e => by rw [c19] at e; cases e) (fun e => ?_)
        · kernel_rfl
        refine TS.skip ?_
        refine XS.then ?_
        refine TS.seq ?_
        have hq : (True) ∧ ((True) ∧ ((True) ∧ (True))) := ⟨trivial, ⟨trivial, ⟨trivial, trivial⟩⟩⟩
        refine TS.reg [] ?_ ?_
        · apply prop_of ?_ hq
          kernel_rfl
        refine XS.then ?_
        refine TS.ret ?_
        obtain rfl : (y_14, y_15, y_16, y_17, y_18, y_19, y_20, y_21, y_22, y_23, y_24, y_25, (0 : Int)) = r := Option.some.inj h
        exact XS.fin [] ((True) ∧ ((True) ∧ (True))) (by kernel_rfl) ⟨trivial, ⟨trivial, trivial⟩⟩

/-! strings.IndexByte -/
def F76 (n : Nat) (s : List UInt8) (c : Int) : Option Int := some (Lib.indexByte s (c).toNat.toUInt8)
theorem F76_ok (n : Nat) (s : List UInt8) (c : Int) (r : Int) (h : F76 n s c = some r) : PureC Try.prog 76 [(.str s), (.int .u8 c)] (.int .i64 r) [] := by
  unfold F76 at h
  obtain rfl := Option.some.inj h
  exact PureC.textByte s c _ (fun w => by simpa using Try.strings_IndexByte ⟨s.toArray⟩ c w)

/-! plugtree/plugref.WordAt -/
def F77 (n : Nat) (s : List UInt8) (vat : Int) : Option Int := (bif inb (IntKind.wrap .i64 (vat + (1 : Int))) s.length then (bif inb vat s.length then (some (IntKind.wrap .i64 ((IntKind.wrap .i64 ((256 : Int) * (IntKind.wrap .i64 ((((s.getD ((IntKind.wrap .i64 (vat + (1 : Int))).toNat) 0).toNat : Nat) : Int))))) + (IntKind.wrap .i64 ((((s.getD vat.toNat 0).toNat : Nat) : Int)))))) else none) else none)
theorem F77_ok (n : Nat) (s : List UInt8) (vat : Int) (r : Int) (h : F77 n s vat = some r) : PureC Try.prog 77 [(.str s), (.int .i64 vat)] (.int .i64 r) [] := by
  refine PureC.mkS Try.func77 rfl rfl ?_
  intro w0 fz0 hfz
  replace h : (bif inb (IntKind.wrap .i64 (vat + (1 : Int))) s.length then (bif inb vat s.length then (some (IntKind.wrap .i64 ((IntKind.wrap .i64 ((256 : Int) * (IntKind.wrap .i64 ((((s.getD ((IntKind.wrap .i64 (vat + (1 : Int))).toNat) 0).toNat : Nat) : Int))))) + (IntKind.wrap .i64 ((((s.getD vat.toNat 0).toNat : Nat) : Int)))))) else none) else none) = some r := h
  refine TS.seq ?_
  have hq : (True) ∧ (True) := ⟨trivial, trivial⟩
  refine TS.reg [] ?_ ?_
  · apply prop_of ?_ hq
    kernel_rfl
  refine XS.then ?_
  refine TS.seq ?_
  obtain ⟨t1, h⟩ := test_some h
  obtain ⟨t2, h⟩ := test_some h
  have hq : ((True) ∧ ((True) ∧ ((True) ∧ ((inR (IntKind.wrap .i64 (vat + (1 : Int))) s.length) ∧ ((True) ∧ ((True) ∧ ((True) ∧ ((True) ∧ ((inR vat s.length) ∧ ((True) ∧ ((True) ∧ (True)))))))))))) ∧ ((True) ∧ (True)) := ⟨⟨trivial, ⟨trivial, ⟨trivial, ⟨inb_ok t1, ⟨trivial, ⟨trivial, ⟨trivial, ⟨trivial, ⟨inb_ok t2, ⟨trivial, ⟨trivial, trivial⟩⟩⟩⟩⟩⟩⟩⟩⟩⟩⟩, ⟨trivial, trivial⟩⟩
  refine TS.draw 11 [] [] (by kernel_rfl) ?_ ?_
  · apply prop_of ?_ hq
    kernel_rfl
  refine XS.then ?_
  refine TS.ret ?_
  obtain rfl : (IntKind.wrap .i64 ((IntKind.wrap .i64 ((256 : Int) * (IntKind.wrap .i64 ((((s.getD ((IntKind.wrap .i64 (vat + (1 : Int))).toNat) 0).toNat : Nat) : Int))))) + (IntKind.wrap .i64 ((((s.getD vat.toNat 0).toNat : Nat) : Int))))) = r := Option.some.inj h
  exact XS.fin [] ((True) ∧ (True)) (by kernel_rfl) ⟨trivial, trivial⟩

/-! plugtree/plugref.ReadDevice -/
def F21_j2 (n : Nat) (s : List UInt8) : Bool → Option (Int × Int × Int × Int × Int × Int × Int × Int × Int × Int × Int × Int × Int)
  | x => (bif x then (some ((0 : Int), (0 : Int), (0 : Int), (0 : Int), (0 : Int), (0 : Int), (0 : Int), (0 : Int), (0 : Int), (0 : Int), (0 : Int), (0 : Int), (4 : Int))) else ((F77 n s (2 : Int)).bind fun y_14 => (bif inb (4 : Int) s.length then (bif inb (5 : Int) s.length then (bif inb (6 : Int) s.length then (bif inb (7 : Int) s.length then ((F77 n s (8 : Int)).bind fun y_15 => ((F77 n s (10 : Int)).bind fun y_16 => ((F77 n s (12 : Int)).bind fun y_17 => (bif inb (14 : Int) s.length then (bif inb (15 : Int) s.length then (bif inb (16 : Int) s.length then (bif inb (17 : Int) s.length then (some (y_14, (IntKind.wrap .i64 ((((s.getD 4 0).toNat : Nat) : Int))), (IntKind.wrap .i64 ((((s.getD 5 0).toNat : Nat) : Int))), (IntKind.wrap .i64 ((((s.getD 6 0).toNat : Nat) : Int))), (IntKind.wrap .i64 ((((s.getD 7 0).toNat : Nat) : Int))), y_15, y_16, y_17, (IntKind.wrap .i64 ((((s.getD 14 0).toNat : Nat) : Int))), (IntKind.wrap .i64 ((((s.getD 15 0).toNat : Nat) : Int))), (IntKind.wrap .i64 ((((s.getD 16 0).toNat : Nat) : Int))), (IntKind.wrap .i64 ((((s.getD 17 0).toNat : Nat) : Int))), (0 : Int))) else none) else none) else none) else none)))) else none) else none) else none) else none)))
def F21 (n : Nat) (s : List UInt8) : Option (Int × Int × Int × Int × Int × Int × Int × Int × Int × Int × Int × Int × Int) := (bif (decide (((s.length : Nat) : Int) < (18 : Int))) then (some ((0 : Int), (0 : Int), (0 : Int), (0 : Int), (0 : Int), (0 : Int), (0 : Int), (0 : Int), (0 : Int), (0 : Int), (0 : Int), (0 : Int), (3 : Int))) else (bif (decide (((s.length : Nat) : Int) > (18 : Int))) then (F21_j2 n s true) else (bif subB s.length none (some (2 : Int)) then (bif (!((s.take 2) == ([18, 1] : List UInt8))) then (F21_j2 n s true) else (bif inb (17 : Int) s.length then (bif ((((s.getD 17 0).toNat : Nat) : Int) == (0 : Int)) then (F21_j2 n s true) else (bif inb (7 : Int) s.length then ((F76 n ([8, 16, 32, 64] : List UInt8) (((s.getD 7 0).toNat : Nat) : Int)).bind fun y_18 => (F21_j2 n s (decide (y_18 < (0 : Int))))) else none)) else none)) else none)))
theorem F21_ok (n : Nat) (s : List UInt8) (r : Int × Int × Int × Int × Int × Int × Int × Int × Int × Int × Int × Int × Int) (h : F21 n s = some r) : PureC Try.prog 21 [(.str s)] (.tup (.cons (.st (.cons (.int .i64 r.1) (.cons (.int .i64 r.2.1) (.cons (.int .i64 r.2.2.1) (.cons (.int .i64 r.2.2.2.1) (.cons (.int .i64 r.2.2.2.2.1) (.cons (.int .i64 r.2.2.2.2.2.1) (.cons (.int .i64 r.2.2.2.2.2.2.1) (.cons (.int .i64 r.2.2.2.2.2.2.2.1) (.cons (.int .i64 r.2.2.2.2.2.2.2.2.1) (.cons (.int .i64 r.2.2.2.2.2.2.2.2.2.1) (.cons (.int .i64 r.2.2.2.2.2.2.2.2.2.2.1) (.int .i64 r.2.2.2.2.2.2.2.2.2.2.2.1))))))))))))) (.cons (.int .i64 r.2.2.2.2.2.2.2.2.2.2.2.2) .nil))) [] := by
  refine PureC.mkS Try.func21 rfl rfl ?_
  intro w0 fz0 hfz
  replace h : (bif (decide (((s.length : Nat) : Int) < (18 : Int))) then (some ((0 : Int), (0 : Int), (0 : Int), (0 : Int), (0 : Int), (0 : Int), (0 : Int), (0 : Int), (0 : Int), (0 : Int), (0 : Int), (0 : Int), (3 : Int))) else (bif (decide (((s.length : Nat) : Int) > (18 : Int))) then (F21_j2 n s true) else (bif subB s.length none (some (2 : Int)) then (bif (!((s.take 2) == ([18, 1] : List UInt8))) then (F21_j2 n s true) else (bif inb (17 : Int) s.length then (bif ((((s.getD 17 0).toNat : Nat) : Int) == (0 : Int)) then (F21_j2 n s true) else (bif inb (7 : Int) s.length then ((F76 n ([8, 16, 32, 64] : List UInt8) (((s.getD 7 0).toNat : Nat) : Int)).bind fun y_18 => (F21_j2 n s (decide (y_18 < (0 : Int))))) else none)) else none)) else none))) = some r := h
  refine TS.seq ?_
  have hq : (True) ∧ ((True) ∧ (True)) := ⟨trivial, ⟨trivial, trivial⟩⟩
  refine TS.reg [] ?_ ?_
  · apply prop_of ?_ hq
    kernel_rfl
  refine XS.then ?_
  refine TS.seq ?_
  have hq : (True) ∧ ((True) ∧ ((True) ∧ (True))) := ⟨trivial, ⟨trivial, ⟨trivial, trivial⟩⟩⟩
  refine TS.reg [] ?_ ?_
  · apply prop_of ?_ hq
    kernel_rfl
  refine XS.then ?_
  refine TS.seq ?_
  refine TS.seq ?_
  have hq : (True) ∧ ((True) ∧ ((True) ∧ (True))) := ⟨trivial, ⟨trivial, ⟨trivial, trivial⟩⟩⟩
  refine TS.reg [] ?_ ?_
  · apply prop_of ?_ hq
    kernel_rfl
  refine XS.then ?_
  rcases bif_some h with ⟨c1, h⟩ | ⟨c2, h⟩
  · refine TS.cond (decide (((s.length : Nat) : Int) < (18 : Int))) ?_ (fun e => ?_) (fun e => by rw [c1] at e; cases e)
    · kernel_rfl
    refine TS.seq ?_
    have hq : (True) ∧ ((True) ∧ ((True) ∧ (True))) := ⟨trivial, ⟨trivial, ⟨trivial, trivial⟩⟩⟩
    refine TS.reg [] ?_ ?_
    · apply prop_of ?_ hq
      kernel_rfl
    refine XS.then ?_
    refine TS.ret ?_
    refine XS.passR ?_
    obtain rfl : ((0 : Int), (0 : Int), (0 : Int), (0 : Int), (0 : Int), (0 : Int), (0 : Int), (0 : Int), (0 : Int), (0 : Int), (0 : Int), (0 : Int), (3 : Int)) = r := Option.some.inj h
    exact XS.fin [] ((True) ∧ ((True) ∧ (True))) (by kernel_rfl) ⟨trivial, ⟨trivial, trivial⟩⟩
  · refine TS.cond (decide (((s.length : Nat) : Int) < (18 : Int))) ?_ (fun e => by rw [c2] at e; cases e) (fun e => ?_)
    · kernel_rfl
    refine TS.skip ?_
    refine XS.then ?_
    refine TS.seq ?_
    refine TS.seq ?_
    refine TS.cut (D := Bool) (fun d => match d with | x => (mkTs 72 [(0, (.str s)), (2, (.ptr 0 [])), (4, (.ptr 1 [])), (29, (.bool x))], [(.box 34 (.st (.cons (.int .i64 (0 : Int)) (.cons (.int .i64 (0 : Int)) (.cons (.int .i64 (0 : Int)) (.cons (.int .i64 (0 : Int)) (.cons (.int .i64 (0 : Int)) (.cons (.int .i64 (0 : Int)) (.cons (.int .i64 (0 : Int)) (.cons (.int .i64 (0 : Int)) (.cons (.int .i64 (0 : Int)) (.cons (.int .i64 (0 : Int)) (.cons (.int .i64 (0 : Int)) (.int .i64 (0 : Int))))))))))))))), (.box 34 (.st (.cons (.int .i64 (0 : Int)) (.cons (.int .i64 (0 : Int)) (.cons (.int .i64 (0 : Int)) (.cons (.int .i64 (0 : Int)) (.cons (.int .i64 (0 : Int)) (.cons (.int .i64 (0 : Int)) (.cons (.int .i64 (0 : Int)) (.cons (.int .i64 (0 : Int)) (.cons (.int .i64 (0 : Int)) (.cons (.int .i64 (0 : Int)) (.cons (.int .i64 (0 : Int)) (.int .i64 (0 : Int)))))))))))))))])) (fun d => F21_j2 n s d = some r) ?_ ?_
    · rintro x h
      replace h : (bif x then (some ((0 : Int), (0 : Int), (0 : Int), (0 : Int), (0 : Int), (0 : Int), (0 : Int), (0 : Int), (0 : Int), (0 : Int), (0 : Int), (0 : Int), (4 : Int))) else ((F77 n s (2 : Int)).bind fun y_14 => (bif inb (4 : Int) s.length then (bif inb (5 : Int) s.length then (bif inb (6 : Int) s.length then (bif inb (7 : Int) s.length then ((F77 n s (8 : Int)).bind fun y_15 => ((F77 n s (10 : Int)).bind fun y_16 => ((F77 n s (12 : Int)).bind fun y_17 => (bif inb (14 : Int) s.length then (bif inb (15 : Int) s.length then (bif inb (16 : Int) s.length then (bif inb (17 : Int) s.length then (some (y_14, (IntKind.wrap .i64 ((((s.getD 4 0).toNat : Nat) : Int))), (IntKind.wrap .i64 ((((s.getD 5 0).toNat : Nat) : Int))), (IntKind.wrap .i64 ((((s.getD 6 0).toNat : Nat) : Int))), (IntKind.wrap .i64 ((((s.getD 7 0).toNat : Nat) : Int))), y_15, y_16, y_17, (IntKind.wrap .i64 ((((s.getD 14 0).toNat : Nat) : Int))), (IntKind.wrap .i64 ((((s.getD 15 0).toNat : Nat) : Int))), (IntKind.wrap .i64 ((((s.getD 16 0).toNat : Nat) : Int))), (IntKind.wrap .i64 ((((s.getD 17 0).toNat : Nat) : Int))), (0 : Int))) else none) else none) else none) else none)))) else none) else none) else none) else none))) = some r := h
      refine XS.then ?_
      rcases bif_some h with ⟨c3, h⟩ | ⟨c4, h⟩
      · refine TS.cond x ?_ (fun e => ?_) (fun e => by rw [c3] at e; cases e)
        · kernel_rfl
        refine TS.seq ?_
        have hq : (True) ∧ ((True) ∧ ((True) ∧ (True))) := ⟨trivial, ⟨trivial, ⟨trivial, trivial⟩⟩⟩
        refine TS.reg [] ?_ ?_
        · apply prop_of ?_ hq
          kernel_rfl
        refine XS.then ?_
        refine TS.ret ?_
        refine XS.passR ?_
        obtain rfl : ((0 : Int), (0 : Int), (0 : Int), (0 : Int), (0 : Int), (0 : Int), (0 : Int), (0 : Int), (0 : Int), (0 : Int), (0 : Int), (0 : Int), (4 : Int)) = r := Option.some.inj h
        exact XS.fin [] ((True) ∧ ((True) ∧ (True))) (by kernel_rfl) ⟨trivial, ⟨trivial, trivial⟩⟩
      · refine TS.cond x ?_ (fun e => by rw [c4] at e; cases e) (fun e => ?_)
        · kernel_rfl
        refine TS.skip ?_
        refine XS.then ?_
        refine TS.seq ?_
        obtain ⟨y_14, hx5, h⟩ := bind_some' h
        obtain ⟨t6, h⟩ := test_some h
        obtain ⟨t7, h⟩ := test_some h
        obtain ⟨t8, h⟩ := test_some h
        obtain ⟨t9, h⟩ := test_some h
        have hq : ((True) ∧ ((PureC Try.prog 77 [(.str s), (.int .i64 (2 : Int))] (.int .i64 y_14) []) ∧ ((True) ∧ ((inR (4 : Int) s.length) ∧ ((True) ∧ ((True) ∧ ((inR (5 : Int) s.length) ∧ ((True) ∧ ((True) ∧ ((inR (6 : Int) s.length) ∧ ((True) ∧ ((True) ∧ ((inR (7 : Int) s.length) ∧ ((True) ∧ (((True) ∧ ((True) ∧ ((True) ∧ ((True) ∧ ((True) ∧ (True)))))) ∧ ((True) ∧ (True))))))))))))))))) ∧ ((True) ∧ (True)) := ⟨⟨trivial, ⟨F77_ok n s (2 : Int) y_14 hx5, ⟨trivial, ⟨inb_ok t6, ⟨trivial, ⟨trivial, ⟨inb_ok t7, ⟨trivial, ⟨trivial, ⟨inb_ok t8, ⟨trivial, ⟨trivial, ⟨inb_ok t9, ⟨trivial, ⟨⟨trivial, ⟨trivial, ⟨trivial, ⟨trivial, ⟨trivial, trivial⟩⟩⟩⟩⟩, ⟨trivial, trivial⟩⟩⟩⟩⟩⟩⟩⟩⟩⟩⟩⟩⟩⟩⟩⟩, ⟨trivial, trivial⟩⟩
        refine TS.draw 16 [] [.none, (.call (.int .i64 y_14) [])] (by kernel_rfl) ?_ ?_
        · apply prop_of ?_ hq
          kernel_rfl
        refine XS.then ?_
        refine TS.seq ?_
        obtain ⟨y_15, hx10, h⟩ := bind_some' h
        obtain ⟨y_16, hx11, h⟩ := bind_some' h
        obtain ⟨y_17, hx12, h⟩ := bind_some' h
        have hq : (True) ∧ ((PureC Try.prog 77 [(.str s), (.int .i64 (8 : Int))] (.int .i64 y_15) []) ∧ ((True) ∧ ((PureC Try.prog 77 [(.str s), (.int .i64 (10 : Int))] (.int .i64 y_16) []) ∧ ((True) ∧ ((PureC Try.prog 77 [(.str s), (.int .i64 (12 : Int))] (.int .i64 y_17) []) ∧ ((True) ∧ ((True) ∧ ((True) ∧ ((True) ∧ ((True) ∧ ((True) ∧ (True)))))))))))) := ⟨trivial, ⟨F77_ok n s (8 : Int) y_15 hx10, ⟨trivial, ⟨F77_ok n s (10 : Int) y_16 hx11, ⟨trivial, ⟨F77_ok n s (12 : Int) y_17 hx12, ⟨trivial, ⟨trivial, ⟨trivial, ⟨trivial, ⟨trivial, ⟨trivial, trivial⟩⟩⟩⟩⟩⟩⟩⟩⟩⟩⟩⟩
        refine TS.reg [.none, (.call (.int .i64 y_15) []), .none, (.call (.int .i64 y_16) []), .none, (.call (.int .i64 y_17) [])] ?_ ?_
        · apply prop_of ?_ hq
          kernel_rfl
        refine XS.then ?_
        refine TS.seq ?_
        obtain ⟨t13, h⟩ := test_some h
        obtain ⟨t14, h⟩ := test_some h
        obtain ⟨t15, h⟩ := test_some h
        obtain ⟨t16, h⟩ := test_some h
        have hq : ((True) ∧ ((inR (14 : Int) s.length) ∧ ((True) ∧ ((True) ∧ ((inR (15 : Int) s.length) ∧ ((True) ∧ ((True) ∧ ((inR (16 : Int) s.length) ∧ ((True) ∧ ((True) ∧ ((inR (17 : Int) s.length) ∧ ((True) ∧ ((True) ∧ ((True) ∧ ((True) ∧ ((True) ∧ ((True) ∧ ((True) ∧ ((True) ∧ (True)))))))))))))))))))) ∧ ((True) ∧ (True)) := ⟨⟨trivial, ⟨inb_ok t13, ⟨trivial, ⟨trivial, ⟨inb_ok t14, ⟨trivial, ⟨trivial, ⟨inb_ok t15, ⟨trivial, ⟨trivial, ⟨inb_ok t16, ⟨trivial, ⟨trivial, ⟨trivial, ⟨trivial, ⟨trivial, ⟨trivial, ⟨trivial, ⟨trivial, trivial⟩⟩⟩⟩⟩⟩⟩⟩⟩⟩⟩⟩⟩⟩⟩⟩⟩⟩⟩, ⟨trivial, trivial⟩⟩
        refine TS.draw 19 [(13, 2), (15, 2), (17, 2)] [] (by kernel_rfl) ?_ ?_
        · apply prop_of ?_ hq
          kernel_rfl
        refine XS.then ?_
        refine TS.seq ?_
        have hq : (True) ∧ ((True) ∧ ((True) ∧ (True))) := ⟨trivial, ⟨trivial, ⟨trivial, trivial⟩⟩⟩
        refine TS.reg [] ?_ ?_
        · apply prop_of ?_ hq
          kernel_rfl
        refine XS.then ?_
        refine TS.ret ?_
        obtain rfl : (y_14, (IntKind.wrap .i64 ((((s.getD 4 0).toNat : Nat) : Int))), (IntKind.wrap .i64 ((((s.getD 5 0).toNat : Nat) : Int))), (IntKind.wrap .i64 ((((s.getD 6 0).toNat : Nat) : Int))), (IntKind.wrap .i64 ((((s.getD 7 0).toNat : Nat) : Int))), y_15, y_16, y_17, (IntKind.wrap .i64 ((((s.getD 14 0).toNat : Nat) : Int))), (IntKind.wrap .i64 ((((s.getD 15 0).toNat : Nat) : Int))), (IntKind.wrap .i64 ((((s.getD 16 0).toNat : Nat) : Int))), (IntKind.wrap .i64 ((((s.getD 17 0).toNat : Nat) : Int))), (0 : Int)) = r := Option.some.inj h
        exact XS.fin [] ((True) ∧ ((True) ∧ (True))) (by kernel_rfl) ⟨trivial, ⟨trivial, trivial⟩⟩
    · rcases bif_some h with ⟨c17, h⟩ | ⟨c18, h⟩
      · have hq : (True) ∧ ((True) ∧ ((True) ∧ (((True) ∧ (decide (((s.length : Nat) : Int) > (18 : Int))) = true) ∧ ((True) ∧ ((True) ∧ ((True) ∧ ((True) ∧ ((True) ∧ (True))))))))) := ⟨trivial, ⟨trivial, ⟨trivial, ⟨⟨trivial, c17⟩, ⟨trivial, ⟨trivial, ⟨trivial, ⟨trivial, ⟨trivial, trivial⟩⟩⟩⟩⟩⟩⟩⟩⟩
        refine TS.reg [.none, .none, .none, .dec true] ?_ ?_
        · apply prop_of ?_ hq
          kernel_rfl
        refine XS.reAny [0, 1] (mkMask 72 [0, 2, 4, 29]) true h ?_
        kernel_rfl
      · obtain ⟨t19, h⟩ := test_some h
        rcases bif_some h with ⟨c20, h⟩ | ⟨c21, h⟩
        · have hq : (True) ∧ ((True) ∧ ((True) ∧ (((True) ∧ (decide (((s.length : Nat) : Int) > (18 : Int))) = false) ∧ ((True) ∧ ((subC s.length none (some (2 : Int))) ∧ ((True) ∧ ((True) ∧ (((True) ∧ (!((s.take 2) == ([18, 1] : List UInt8))) = true) ∧ ((True) ∧ ((True) ∧ ((True) ∧ (True)))))))))))) := ⟨trivial, ⟨trivial, ⟨trivial, ⟨⟨trivial, c18⟩, ⟨trivial, ⟨subB_ok t19, ⟨trivial, ⟨trivial, ⟨⟨trivial, c20⟩, ⟨trivial, ⟨trivial, ⟨trivial, trivial⟩⟩⟩⟩⟩⟩⟩⟩⟩⟩⟩⟩
          refine TS.reg [.none, .none, .none, .dec false, .none, .none, .none, .none, .dec true] ?_ ?_
          · apply prop_of ?_ hq
            kernel_rfl
          refine XS.reAny [0, 1] (mkMask 72 [0, 2, 4, 29]) true h ?_
          kernel_rfl
        · obtain ⟨t22, h⟩ := test_some h
          rcases bif_some h with ⟨c23, h⟩ | ⟨c24, h⟩
          · have hq : (True) ∧ ((True) ∧ ((True) ∧ (((True) ∧ (decide (((s.length : Nat) : Int) > (18 : Int))) = false) ∧ ((True) ∧ ((subC s.length none (some (2 : Int))) ∧ ((True) ∧ ((True) ∧ (((True) ∧ (!((s.take 2) == ([18, 1] : List UInt8))) = false) ∧ ((True) ∧ ((inR (17 : Int) s.length) ∧ ((True) ∧ ((True) ∧ (((True) ∧ ((((s.getD 17 0).toNat : Nat) : Int) == (0 : Int)) = true) ∧ ((True) ∧ (True))))))))))))))) := ⟨trivial, ⟨trivial, ⟨trivial, ⟨⟨trivial, c18⟩, ⟨trivial, ⟨subB_ok t19, ⟨trivial, ⟨trivial, ⟨⟨trivial, c21⟩, ⟨trivial, ⟨inb_ok t22, ⟨trivial, ⟨trivial, ⟨⟨trivial, c23⟩, ⟨trivial, trivial⟩⟩⟩⟩⟩⟩⟩⟩⟩⟩⟩⟩⟩⟩⟩
            refine TS.reg [.none, .none, .none, .dec false, .none, .none, .none, .none, .dec false, .none, .none, .none, .none, .dec true] ?_ ?_
            · apply prop_of ?_ hq
              kernel_rfl
            refine XS.reAny [0, 1] (mkMask 72 [0, 2, 4, 29]) true h ?_
            kernel_rfl
          · obtain ⟨t25, h⟩ := test_some h
            obtain ⟨y_18, hx26, h⟩ := bind_some' h
            have hq : (True) ∧ ((True) ∧ ((True) ∧ (((True) ∧ (decide (((s.length : Nat) : Int) > (18 : Int))) = false) ∧ ((True) ∧ ((subC s.length none (some (2 : Int))) ∧ ((True) ∧ ((True) ∧ (((True) ∧ (!((s.take 2) == ([18, 1] : List UInt8))) = false) ∧ ((True) ∧ ((inR (17 : Int) s.length) ∧ ((True) ∧ ((True) ∧ (((True) ∧ ((((s.getD 17 0).toNat : Nat) : Int) == (0 : Int)) = false) ∧ ((True) ∧ ((inR (7 : Int) s.length) ∧ ((PureC Try.prog 76 [(.str ([8, 16, 32, 64] : List UInt8)), (.int .u8 (((s.getD 7 0).toNat : Nat) : Int))] (.int .i64 y_18) []) ∧ ((True) ∧ ((True) ∧ (True))))))))))))))))))) := ⟨trivial, ⟨trivial, ⟨trivial, ⟨⟨trivial, c18⟩, ⟨trivial, ⟨subB_ok t19, ⟨trivial, ⟨trivial, ⟨⟨trivial, c21⟩, ⟨trivial, ⟨inb_ok t22, ⟨trivial, ⟨trivial, ⟨⟨trivial, c24⟩, ⟨trivial, ⟨inb_ok t25, ⟨F76_ok n ([8, 16, 32, 64] : List UInt8) (((s.getD 7 0).toNat : Nat) : Int) y_18 hx26, ⟨trivial, ⟨trivial, trivial⟩⟩⟩⟩⟩⟩⟩⟩⟩⟩⟩⟩⟩⟩⟩⟩⟩⟩⟩
            refine TS.reg [.none, .none, .none, .dec false, .none, .none, .none, .none, .dec false, .none, .none, .none, .none, .dec false, .none, .none, (.call (.int .i64 y_18) [])] ?_ ?_
            · apply prop_of ?_ hq
              kernel_rfl
            refine XS.reAny [0, 1] (mkMask 72 [0, 2, 4, 29]) (decide (y_18 < (0 : Int))) h ?_
            kernel_rfl

/-! plugtree/pluglaw.DescDevices -/
def F4 (n : Nat) (d_Usb : Int) (d_Class : Int) (d_Sub : Int) (d_Proto : Int) (d_Max0 : Int) (d_Vendor : Int) (d_Product : Int) (d_Release : Int) (d_Maker : Int) (d_Name : Int) (d_Serial : Int) (d_Configs : Int) (s : List UInt8) : Option Bool := ((F18 n d_Usb d_Class d_Sub d_Proto d_Max0 d_Vendor d_Product d_Release d_Maker d_Name d_Serial d_Configs).bind fun y_2 => ((F19 n d_Usb d_Class d_Sub d_Proto d_Max0 d_Vendor d_Product d_Release d_Maker d_Name d_Serial d_Configs).bind fun y_3 => ((F20 n s).bind fun y_4 => ((F21 n s).bind fun y_5 => (bif (y_2.1 == y_3.1) then (bif (y_2.2 == y_3.2) then (bif (Sh.beq (.st (.pair (.int .i64) (.pair (.int .i64) (.pair (.int .i64) (.pair (.int .i64) (.pair (.int .i64) (.pair (.int .i64) (.pair (.int .i64) (.pair (.int .i64) (.pair (.int .i64) (.pair (.int .i64) (.pair (.int .i64) (.int .i64))))))))))))) (y_4.1, (y_4.2.1, (y_4.2.2.1, (y_4.2.2.2.1, (y_4.2.2.2.2.1, (y_4.2.2.2.2.2.1, (y_4.2.2.2.2.2.2.1, (y_4.2.2.2.2.2.2.2.1, (y_4.2.2.2.2.2.2.2.2.1, (y_4.2.2.2.2.2.2.2.2.2.1, (y_4.2.2.2.2.2.2.2.2.2.2.1, y_4.2.2.2.2.2.2.2.2.2.2.2.1))))))))))) (y_5.1, (y_5.2.1, (y_5.2.2.1, (y_5.2.2.2.1, (y_5.2.2.2.2.1, (y_5.2.2.2.2.2.1, (y_5.2.2.2.2.2.2.1, (y_5.2.2.2.2.2.2.2.1, (y_5.2.2.2.2.2.2.2.2.1, (y_5.2.2.2.2.2.2.2.2.2.1, (y_5.2.2.2.2.2.2.2.2.2.2.1, y_5.2.2.2.2.2.2.2.2.2.2.2.1)))))))))))) then (some (y_4.2.2.2.2.2.2.2.2.2.2.2.2 == y_5.2.2.2.2.2.2.2.2.2.2.2.2)) else (some false)) else (some false)) else (some false))))))
theorem F4_ok (n : Nat) (d_Usb : Int) (d_Class : Int) (d_Sub : Int) (d_Proto : Int) (d_Max0 : Int) (d_Vendor : Int) (d_Product : Int) (d_Release : Int) (d_Maker : Int) (d_Name : Int) (d_Serial : Int) (d_Configs : Int) (s : List UInt8) (r : Bool) (h : F4 n d_Usb d_Class d_Sub d_Proto d_Max0 d_Vendor d_Product d_Release d_Maker d_Name d_Serial d_Configs s = some r) : PureC Try.prog 4 [(.st (.cons (.int .i64 d_Usb) (.cons (.int .i64 d_Class) (.cons (.int .i64 d_Sub) (.cons (.int .i64 d_Proto) (.cons (.int .i64 d_Max0) (.cons (.int .i64 d_Vendor) (.cons (.int .i64 d_Product) (.cons (.int .i64 d_Release) (.cons (.int .i64 d_Maker) (.cons (.int .i64 d_Name) (.cons (.int .i64 d_Serial) (.int .i64 d_Configs))))))))))))), (.str s)] (.bool r) [] := by
  refine PureC.mkS Try.func4 rfl rfl ?_
  intro w0 fz0 hfz
  replace h : ((F18 n d_Usb d_Class d_Sub d_Proto d_Max0 d_Vendor d_Product d_Release d_Maker d_Name d_Serial d_Configs).bind fun y_2 => ((F19 n d_Usb d_Class d_Sub d_Proto d_Max0 d_Vendor d_Product d_Release d_Maker d_Name d_Serial d_Configs).bind fun y_3 => ((F20 n s).bind fun y_4 => ((F21 n s).bind fun y_5 => (bif (y_2.1 == y_3.1) then (bif (y_2.2 == y_3.2) then (bif (Sh.beq (.st (.pair (.int .i64) (.pair (.int .i64) (.pair (.int .i64) (.pair (.int .i64) (.pair (.int .i64) (.pair (.int .i64) (.pair (.int .i64) (.pair (.int .i64) (.pair (.int .i64) (.pair (.int .i64) (.pair (.int .i64) (.int .i64))))))))))))) (y_4.1, (y_4.2.1, (y_4.2.2.1, (y_4.2.2.2.1, (y_4.2.2.2.2.1, (y_4.2.2.2.2.2.1, (y_4.2.2.2.2.2.2.1, (y_4.2.2.2.2.2.2.2.1, (y_4.2.2.2.2.2.2.2.2.1, (y_4.2.2.2.2.2.2.2.2.2.1, (y_4.2.2.2.2.2.2.2.2.2.2.1, y_4.2.2.2.2.2.2.2.2.2.2.2.1))))))))))) (y_5.1, (y_5.2.1, (y_5.2.2.1, (y_5.2.2.2.1, (y_5.2.2.2.2.1, (y_5.2.2.2.2.2.1, (y_5.2.2.2.2.2.2.1, (y_5.2.2.2.2.2.2.2.1, (y_5.2.2.2.2.2.2.2.2.1, (y_5.2.2.2.2.2.2.2.2.2.1, (y_5.2.2.2.2.2.2.2.2.2.2.1, y_5.2.2.2.2.2.2.2.2.2.2.2.1)))))))))))) then (some (y_4.2.2.2.2.2.2.2.2.2.2.2.2 == y_5.2.2.2.2.2.2.2.2.2.2.2.2)) else (some false)) else (some false)) else (some false)))))) = some r := h
  refine TS.seq ?_
  have hq : (True) ∧ ((True) ∧ (True)) := ⟨trivial, ⟨trivial, trivial⟩⟩
  refine TS.reg [] ?_ ?_
  · apply prop_of ?_ hq
    kernel_rfl
  refine XS.then ?_
  refine TS.seq ?_
  obtain ⟨y_2, hx1, h⟩ := bind_some' h
  have hq : (True) ∧ ((PureC Try.prog 18 [(.st (.cons (.int .i64 d_Usb) (.cons (.int .i64 d_Class) (.cons (.int .i64 d_Sub) (.cons (.int .i64 d_Proto) (.cons (.int .i64 d_Max0) (.cons (.int .i64 d_Vendor) (.cons (.int .i64 d_Product) (.cons (.int .i64 d_Release) (.cons (.int .i64 d_Maker) (.cons (.int .i64 d_Name) (.cons (.int .i64 d_Serial) (.int .i64 d_Configs)))))))))))))] (.tup (.cons (.str y_2.1) (.cons (.int .i64 y_2.2) .nil))) []) ∧ ((True) ∧ ((True) ∧ ((True) ∧ ((True) ∧ ((True) ∧ (True))))))) := ⟨trivial, ⟨F18_ok n d_Usb d_Class d_Sub d_Proto d_Max0 d_Vendor d_Product d_Release d_Maker d_Name d_Serial d_Configs y_2 hx1, ⟨trivial, ⟨trivial, ⟨trivial, ⟨trivial, ⟨trivial, trivial⟩⟩⟩⟩⟩⟩⟩
  refine TS.reg [.none, (.call (.tup (.cons (.str y_2.1) (.cons (.int .i64 y_2.2) .nil))) [])] ?_ ?_
  · apply prop_of ?_ hq
    kernel_rfl
  refine XS.then ?_
  refine TS.seq ?_
  obtain ⟨y_3, hx2, h⟩ := bind_some' h
  have hq : (True) ∧ ((PureC Try.prog 19 [(.st (.cons (.int .i64 d_Usb) (.cons (.int .i64 d_Class) (.cons (.int .i64 d_Sub) (.cons (.int .i64 d_Proto) (.cons (.int .i64 d_Max0) (.cons (.int .i64 d_Vendor) (.cons (.int .i64 d_Product) (.cons (.int .i64 d_Release) (.cons (.int .i64 d_Maker) (.cons (.int .i64 d_Name) (.cons (.int .i64 d_Serial) (.int .i64 d_Configs)))))))))))))] (.tup (.cons (.str y_3.1) (.cons (.int .i64 y_3.2) .nil))) []) ∧ ((True) ∧ ((True) ∧ ((True) ∧ ((True) ∧ ((True) ∧ (True))))))) := ⟨trivial, ⟨F19_ok n d_Usb d_Class d_Sub d_Proto d_Max0 d_Vendor d_Product d_Release d_Maker d_Name d_Serial d_Configs y_3 hx2, ⟨trivial, ⟨trivial, ⟨trivial, ⟨trivial, ⟨trivial, trivial⟩⟩⟩⟩⟩⟩⟩
  refine TS.reg [.none, (.call (.tup (.cons (.str y_3.1) (.cons (.int .i64 y_3.2) .nil))) [])] ?_ ?_
  · apply prop_of ?_ hq
    kernel_rfl
  refine XS.then ?_
  refine TS.seq ?_
  obtain ⟨y_4, hx3, h⟩ := bind_some' h
  have hq : (True) ∧ ((PureC Try.prog 20 [(.str s)] (.tup (.cons (.st (.cons (.int .i64 y_4.1) (.cons (.int .i64 y_4.2.1) (.cons (.int .i64 y_4.2.2.1) (.cons (.int .i64 y_4.2.2.2.1) (.cons (.int .i64 y_4.2.2.2.2.1) (.cons (.int .i64 y_4.2.2.2.2.2.1) (.cons (.int .i64 y_4.2.2.2.2.2.2.1) (.cons (.int .i64 y_4.2.2.2.2.2.2.2.1) (.cons (.int .i64 y_4.2.2.2.2.2.2.2.2.1) (.cons (.int .i64 y_4.2.2.2.2.2.2.2.2.2.1) (.cons (.int .i64 y_4.2.2.2.2.2.2.2.2.2.2.1) (.int .i64 y_4.2.2.2.2.2.2.2.2.2.2.2.1))))))))))))) (.cons (.int .i64 y_4.2.2.2.2.2.2.2.2.2.2.2.2) .nil))) []) ∧ ((True) ∧ ((True) ∧ ((True) ∧ ((True) ∧ ((True) ∧ ((True) ∧ (True)))))))) := ⟨trivial, ⟨F20_ok n s y_4 hx3, ⟨trivial, ⟨trivial, ⟨trivial, ⟨trivial, ⟨trivial, ⟨trivial, trivial⟩⟩⟩⟩⟩⟩⟩⟩
  refine TS.reg [.none, (.call (.tup (.cons (.st (.cons (.int .i64 y_4.1) (.cons (.int .i64 y_4.2.1) (.cons (.int .i64 y_4.2.2.1) (.cons (.int .i64 y_4.2.2.2.1) (.cons (.int .i64 y_4.2.2.2.2.1) (.cons (.int .i64 y_4.2.2.2.2.2.1) (.cons (.int .i64 y_4.2.2.2.2.2.2.1) (.cons (.int .i64 y_4.2.2.2.2.2.2.2.1) (.cons (.int .i64 y_4.2.2.2.2.2.2.2.2.1) (.cons (.int .i64 y_4.2.2.2.2.2.2.2.2.2.1) (.cons (.int .i64 y_4.2.2.2.2.2.2.2.2.2.2.1) (.int .i64 y_4.2.2.2.2.2.2.2.2.2.2.2.1))))))))))))) (.cons (.int .i64 y_4.2.2.2.2.2.2.2.2.2.2.2.2) .nil))) [])] ?_ ?_
  · apply prop_of ?_ hq
    kernel_rfl
  refine XS.then ?_
  refine TS.seq ?_
  obtain ⟨y_5, hx4, h⟩ := bind_some' h
  have hq : (True) ∧ ((PureC Try.prog 21 [(.str s)] (.tup (.cons (.st (.cons (.int .i64 y_5.1) (.cons (.int .i64 y_5.2.1) (.cons (.int .i64 y_5.2.2.1) (.cons (.int .i64 y_5.2.2.2.1) (.cons (.int .i64 y_5.2.2.2.2.1) (.cons (.int .i64 y_5.2.2.2.2.2.1) (.cons (.int .i64 y_5.2.2.2.2.2.2.1) (.cons (.int .i64 y_5.2.2.2.2.2.2.2.1) (.cons (.int .i64 y_5.2.2.2.2.2.2.2.2.1) (.cons (.int .i64 y_5.2.2.2.2.2.2.2.2.2.1) (.cons (.int .i64 y_5.2.2.2.2.2.2.2.2.2.2.1) (.int .i64 y_5.2.2.2.2.2.2.2.2.2.2.2.1))))))))))))) (.cons (.int .i64 y_5.2.2.2.2.2.2.2.2.2.2.2.2) .nil))) []) ∧ ((True) ∧ ((True) ∧ ((True) ∧ ((True) ∧ ((True) ∧ ((True) ∧ (True)))))))) := ⟨trivial, ⟨F21_ok n s y_5 hx4, ⟨trivial, ⟨trivial, ⟨trivial, ⟨trivial, ⟨trivial, ⟨trivial, trivial⟩⟩⟩⟩⟩⟩⟩⟩
  refine TS.reg [.none, (.call (.tup (.cons (.st (.cons (.int .i64 y_5.1) (.cons (.int .i64 y_5.2.1) (.cons (.int .i64 y_5.2.2.1) (.cons (.int .i64 y_5.2.2.2.1) (.cons (.int .i64 y_5.2.2.2.2.1) (.cons (.int .i64 y_5.2.2.2.2.2.1) (.cons (.int .i64 y_5.2.2.2.2.2.2.1) (.cons (.int .i64 y_5.2.2.2.2.2.2.2.1) (.cons (.int .i64 y_5.2.2.2.2.2.2.2.2.1) (.cons (.int .i64 y_5.2.2.2.2.2.2.2.2.2.1) (.cons (.int .i64 y_5.2.2.2.2.2.2.2.2.2.2.1) (.int .i64 y_5.2.2.2.2.2.2.2.2.2.2.2.1))))))))))))) (.cons (.int .i64 y_5.2.2.2.2.2.2.2.2.2.2.2.2) .nil))) [])] ?_ ?_
  · apply prop_of ?_ hq
    kernel_rfl
  refine XS.then ?_
  refine TS.seq ?_
  rcases bif_some h with ⟨c5, h⟩ | ⟨c6, h⟩
  · rcases bif_some h with ⟨c7, h⟩ | ⟨c8, h⟩
    · rcases bif_some h with ⟨c9, h⟩ | ⟨c10, h⟩
      · have hq : (True) ∧ ((True) ∧ ((True) ∧ (((True) ∧ (y_2.1 == y_3.1) = true) ∧ ((True) ∧ ((True) ∧ ((True) ∧ ((True) ∧ (((True) ∧ (y_2.2 == y_3.2) = true) ∧ ((True) ∧ ((True) ∧ ((True) ∧ ((True) ∧ (((True) ∧ (Sh.beq (.st (.pair (.int .i64) (.pair (.int .i64) (.pair (.int .i64) (.pair (.int .i64) (.pair (.int .i64) (.pair (.int .i64) (.pair (.int .i64) (.pair (.int .i64) (.pair (.int .i64) (.pair (.int .i64) (.pair (.int .i64) (.int .i64))))))))))))) (y_4.1, (y_4.2.1, (y_4.2.2.1, (y_4.2.2.2.1, (y_4.2.2.2.2.1, (y_4.2.2.2.2.2.1, (y_4.2.2.2.2.2.2.1, (y_4.2.2.2.2.2.2.2.1, (y_4.2.2.2.2.2.2.2.2.1, (y_4.2.2.2.2.2.2.2.2.2.1, (y_4.2.2.2.2.2.2.2.2.2.2.1, y_4.2.2.2.2.2.2.2.2.2.2.2.1))))))))))) (y_5.1, (y_5.2.1, (y_5.2.2.1, (y_5.2.2.2.1, (y_5.2.2.2.2.1, (y_5.2.2.2.2.2.1, (y_5.2.2.2.2.2.2.1, (y_5.2.2.2.2.2.2.2.1, (y_5.2.2.2.2.2.2.2.2.1, (y_5.2.2.2.2.2.2.2.2.2.1, (y_5.2.2.2.2.2.2.2.2.2.2.1, y_5.2.2.2.2.2.2.2.2.2.2.2.1)))))))))))) = true) ∧ ((True) ∧ ((True) ∧ ((True) ∧ ((True) ∧ ((True) ∧ (True))))))))))))))))))) := ⟨trivial, ⟨trivial, ⟨trivial, ⟨⟨trivial, c5⟩, ⟨trivial, ⟨trivial, ⟨trivial, ⟨trivial, ⟨⟨trivial, c7⟩, ⟨trivial, ⟨trivial, ⟨trivial, ⟨trivial, ⟨⟨trivial, c9⟩, ⟨trivial, ⟨trivial, ⟨trivial, ⟨trivial, ⟨trivial, trivial⟩⟩⟩⟩⟩⟩⟩⟩⟩⟩⟩⟩⟩⟩⟩⟩⟩⟩⟩
        refine TS.reg [.none, .none, .none, .dec true, .none, .none, .none, .none, .dec true, .none, .none, .none, .none, .dec true] ?_ ?_
        · apply prop_of ?_ hq
          kernel_rfl
        refine XS.then ?_
        refine TS.ret ?_
        obtain rfl : (y_4.2.2.2.2.2.2.2.2.2.2.2.2 == y_5.2.2.2.2.2.2.2.2.2.2.2.2) = r := Option.some.inj h
        exact XS.fin [] ((True) ∧ (True)) (by kernel_rfl) ⟨trivial, trivial⟩
      · have hq : (True) ∧ ((True) ∧ ((True) ∧ (((True) ∧ (y_2.1 == y_3.1) = true) ∧ ((True) ∧ ((True) ∧ ((True) ∧ ((True) ∧ (((True) ∧ (y_2.2 == y_3.2) = true) ∧ ((True) ∧ ((True) ∧ ((True) ∧ ((True) ∧ (((True) ∧ (Sh.beq (.st (.pair (.int .i64) (.pair (.int .i64) (.pair (.int .i64) (.pair (.int .i64) (.pair (.int .i64) (.pair (.int .i64) (.pair (.int .i64) (.pair (.int .i64) (.pair (.int .i64) (.pair (.int .i64) (.pair (.int .i64) (.int .i64))))))))))))) (y_4.1, (y_4.2.1, (y_4.2.2.1, (y_4.2.2.2.1, (y_4.2.2.2.2.1, (y_4.2.2.2.2.2.1, (y_4.2.2.2.2.2.2.1, (y_4.2.2.2.2.2.2.2.1, (y_4.2.2.2.2.2.2.2.2.1, (y_4.2.2.2.2.2.2.2.2.2.1, (y_4.2.2.2.2.2.2.2.2.2.2.1, y_4.2.2.2.2.2.2.2.2.2.2.2.1))))))))))) (y_5.1, (y_5.2.1, (y_5.2.2.1, (y_5.2.2.2.1, (y_5.2.2.2.2.1, (y_5.2.2.2.2.2.1, (y_5.2.2.2.2.2.2.1, (y_5.2.2.2.2.2.2.2.1, (y_5.2.2.2.2.2.2.2.2.1, (y_5.2.2.2.2.2.2.2.2.2.1, (y_5.2.2.2.2.2.2.2.2.2.2.1, y_5.2.2.2.2.2.2.2.2.2.2.2.1)))))))))))) = false) ∧ ((True) ∧ ((True) ∧ (True)))))))))))))))) := ⟨trivial, ⟨trivial, ⟨trivial, ⟨⟨trivial, c5⟩, ⟨trivial, ⟨trivial, ⟨trivial, ⟨trivial, ⟨⟨trivial, c7⟩, ⟨trivial, ⟨trivial, ⟨trivial, ⟨trivial, ⟨⟨trivial, c10⟩, ⟨trivial, ⟨trivial, trivial⟩⟩⟩⟩⟩⟩⟩⟩⟩⟩⟩⟩⟩⟩⟩⟩
        refine TS.reg [.none, .none, .none, .dec true, .none, .none, .none, .none, .dec true, .none, .none, .none, .none, .dec false] ?_ ?_
        · apply prop_of ?_ hq
          kernel_rfl
        refine XS.then ?_
        refine TS.ret ?_
        obtain rfl : false = r := Option.some.inj h
        exact XS.fin [] ((True) ∧ (True)) (by kernel_rfl) ⟨trivial, trivial⟩
    · have hq : (True) ∧ ((True) ∧ ((True) ∧ (((True) ∧ (y_2.1 == y_3.1) = true) ∧ ((True) ∧ ((True) ∧ ((True) ∧ ((True) ∧ (((True) ∧ (y_2.2 == y_3.2) = false) ∧ ((True) ∧ ((True) ∧ ((True) ∧ ((True) ∧ (True))))))))))))) := ⟨trivial, ⟨trivial, ⟨trivial, ⟨⟨trivial, c5⟩, ⟨trivial, ⟨trivial, ⟨trivial, ⟨trivial, ⟨⟨trivial, c8⟩, ⟨trivial, ⟨trivial, ⟨trivial, ⟨trivial, trivial⟩⟩⟩⟩⟩⟩⟩⟩⟩⟩⟩⟩⟩
      refine TS.reg [.none, .none, .none, .dec true, .none, .none, .none, .none, .dec false] ?_ ?_
      · apply prop_of ?_ hq
        kernel_rfl
      refine XS.then ?_
      refine TS.ret ?_
      obtain rfl : false = r := Option.some.inj h
      exact XS.fin [] ((True) ∧ (True)) (by kernel_rfl) ⟨trivial, trivial⟩
  · have hq : (True) ∧ ((True) ∧ ((True) ∧ (((True) ∧ (y_2.1 == y_3.1) = false) ∧ ((True) ∧ ((True) ∧ ((True) ∧ ((True) ∧ ((True) ∧ ((True) ∧ (True)))))))))) := ⟨trivial, ⟨trivial, ⟨trivial, ⟨⟨trivial, c6⟩, ⟨trivial, ⟨trivial, ⟨trivial, ⟨trivial, ⟨trivial, ⟨trivial, trivial⟩⟩⟩⟩⟩⟩⟩⟩⟩⟩
    refine TS.reg [.none, .none, .none, .dec false] ?_ ?_
    · apply prop_of ?_ hq
      kernel_rfl
    refine XS.then ?_
    refine TS.ret ?_
    obtain rfl : false = r := Option.some.inj h
    exact XS.fin [] ((True) ∧ (True)) (by kernel_rfl) ⟨trivial, trivial⟩
end Go.Proofs.Ytgcdohclbkmmdaa
