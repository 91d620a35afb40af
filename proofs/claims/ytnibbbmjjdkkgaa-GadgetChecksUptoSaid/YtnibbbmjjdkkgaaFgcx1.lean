/- Functions of the program, as functions of values. -/
import Derived.Test.YtnibbbmjjdkkgaaAm28
import Derived.Test.YtnibbbmjjdkkgaaShelf
import Derived.Test.YtnibbbmjjdkkgaaChecked
namespace Go.Proofs.Ytnibbbmjjdkkgaa
open Go Go.RowKit
set_option linter.unusedVariables false
set_option maxRecDepth 100000

/-! plugtree/desc.within -/
def F44_l2 (n : Nat) (most : Int) (l : List Int) (k44_2 : Int → Option Bool) : Int → Option Bool
  | x => (bif (decide (x < ((l.length : Nat) : Int))) then (bif inb x l.length then (bif (decide ((l.getD x.toNat (0 : Int)) < (0 : Int))) then (some false) else (bif (decide ((l.getD x.toNat (0 : Int)) > most)) then (some false) else (k44_2 (IntKind.wrap .i64 (x + (1 : Int)))))) else none) else (some true))
def F44 (n : Nat) (most : Int) (l : List Int) : Option Bool := (loopF (F44_l2 n most l) n (0 : Int))
theorem F44_ok (n : Nat) (most : Int) (l : List Int) (r : Bool) (h : F44 n most l = some r) : PureC Try.prog 44 [(.int .i64 most), (.sl (.int .i64) l)] (.bool r) [] := by
  refine PureC.mkS Try.func44 rfl rfl ?_
  intro w0 fz0 hfz
  replace h : (loopF (F44_l2 n most l) n (0 : Int)) = some r := h
  refine TS.seq ?_
  have hq : (True) ∧ (True) := ⟨trivial, trivial⟩
  refine TS.reg [] ?_ ?_
  · apply prop_of ?_ hq
    kernel_rfl
  refine XS.then ?_
  refine TS.seq ?_
  refine TS.seq ?_
  have hq : (True) ∧ ((True) ∧ ((True) ∧ (True))) := ⟨trivial, ⟨trivial, ⟨trivial, trivial⟩⟩⟩
  refine TS.reg [] ?_ ?_
  · apply prop_of ?_ hq
    kernel_rfl
  refine XS.then ?_
  refine TS.block ?_
  refine TS.reLoop [] (mkMask 21 [0, 7, 8, 9]) (D := Int) (fun d => match d with | x => (mkTs 21 [(0, (.int .i64 most)), (7, (.sl (.int .i64) l)), (8, (.int .i64 ((l.length : Nat) : Int))), (9, (.int .i64 x))], [])) (fun n' d => loopF (F44_l2 n most l) n' d = some r) n (0 : Int) h ?_ (fun d => loopF_zero _ d r) ?_
  · kernel_rfl
  · rintro n2 x h
    replace h : (bif (decide (x < ((l.length : Nat) : Int))) then (bif inb x l.length then (bif (decide ((l.getD x.toNat (0 : Int)) < (0 : Int))) then (some false) else (bif (decide ((l.getD x.toNat (0 : Int)) > most)) then (some false) else ((loopF (F44_l2 n most l) n2) (IntKind.wrap .i64 (x + (1 : Int)))))) else none) else (some true)) = some r := h
    refine TS.seq ?_
    have hq : (True) ∧ (True) := ⟨trivial, trivial⟩
    refine TS.reg [] ?_ ?_
    · apply prop_of ?_ hq
      kernel_rfl
    refine XS.then ?_
    refine TS.seq ?_
    rcases bif_some h with ⟨c1, h⟩ | ⟨c2, h⟩
    · refine TS.cond (decide (x < ((l.length : Nat) : Int))) ?_ (fun hcz => ?_) (fun hcz => by rw [c1] at hcz; cases hcz)
      · kernel_rfl
      refine TS.skip ?_
      refine XS.then ?_
      refine TS.seq ?_
      refine TS.block ?_
      refine TS.seq ?_
      obtain ⟨t3, h⟩ := test_some h
      have hq : (inR x l.length) ∧ ((True) ∧ ((True) ∧ (True))) := ⟨inb_ok t3, ⟨trivial, ⟨trivial, trivial⟩⟩⟩
      refine TS.reg [] ?_ ?_
      · apply prop_of ?_ hq
        kernel_rfl
      refine XS.then ?_
      refine TS.seq ?_
      rcases bif_some h with ⟨c4, h⟩ | ⟨c5, h⟩
      · have hq : (True) ∧ ((True) ∧ (((True) ∧ (decide ((l.getD x.toNat (0 : Int)) < (0 : Int))) = true) ∧ ((True) ∧ (True)))) := ⟨trivial, ⟨trivial, ⟨⟨trivial, c4⟩, ⟨trivial, trivial⟩⟩⟩⟩
        refine TS.reg [.none, .none, .dec true] ?_ ?_
        · apply prop_of ?_ hq
          kernel_rfl
        refine XS.then ?_
        refine TS.yes ?_ ?_
        · kernel_rfl
        refine TS.seq ?_
        have hq : (True) ∧ (True) := ⟨trivial, trivial⟩
        refine TS.reg [] ?_ ?_
        · apply prop_of ?_ hq
          kernel_rfl
        refine XS.then ?_
        refine TS.ret ?_
        refine XS.blockRet ?_
        refine XS.passR ?_
        refine XS.passR ?_
        refine XS.blockRet ?_
        refine XS.passR ?_
        obtain rfl : false = r := Option.some.inj h
        exact XS.fin [] ((True) ∧ (True)) (by kernel_rfl) ⟨trivial, trivial⟩
      · have hq : (True) ∧ ((True) ∧ (((True) ∧ (decide ((l.getD x.toNat (0 : Int)) < (0 : Int))) = false) ∧ ((True) ∧ ((True) ∧ ((True) ∧ ((True) ∧ (True))))))) := ⟨trivial, ⟨trivial, ⟨⟨trivial, c5⟩, ⟨trivial, ⟨trivial, ⟨trivial, ⟨trivial, trivial⟩⟩⟩⟩⟩⟩⟩
        refine TS.reg [.none, .none, .dec false] ?_ ?_
        · apply prop_of ?_ hq
          kernel_rfl
        refine XS.then ?_
        rcases bif_some h with ⟨c6, h⟩ | ⟨c7, h⟩
        · refine TS.cond (decide ((l.getD x.toNat (0 : Int)) > most)) ?_ (fun hcz => ?_) (fun hcz => by rw [c6] at hcz; cases hcz)
          · kernel_rfl
          refine TS.seq ?_
          have hq : (True) ∧ (True) := ⟨trivial, trivial⟩
          refine TS.reg [] ?_ ?_
          · apply prop_of ?_ hq
            kernel_rfl
          refine XS.then ?_
          refine TS.ret ?_
          refine XS.blockRet ?_
          refine XS.passR ?_
          refine XS.passR ?_
          refine XS.blockRet ?_
          refine XS.passR ?_
          obtain rfl : false = r := Option.some.inj h
          exact XS.fin [] ((True) ∧ (True)) (by kernel_rfl) ⟨trivial, trivial⟩
        · refine TS.cond (decide ((l.getD x.toNat (0 : Int)) > most)) ?_ (fun hcz => by rw [c7] at hcz; cases hcz) (fun hcz => ?_)
          · kernel_rfl
          refine TS.skip ?_
          refine XS.blockEnd ?_
          refine XS.then ?_
          have hq : (True) ∧ ((True) ∧ (True)) := ⟨trivial, ⟨trivial, trivial⟩⟩
          refine TS.reg [] ?_ ?_
          · apply prop_of ?_ hq
            kernel_rfl
          refine XS.reAny [] (mkMask 21 [0, 7, 8, 9]) (IntKind.wrap .i64 (x + (1 : Int))) h ?_
          kernel_rfl
    · refine TS.cond (decide (x < ((l.length : Nat) : Int))) ?_ (fun hcz => by rw [c2] at hcz; cases hcz) (fun hcz => ?_)
      · kernel_rfl
      refine TS.exit ?_
      refine XS.passE ?_
      refine XS.passE ?_
      refine XS.out ?_
      refine XS.then ?_
      refine TS.seq ?_
      have hq : (True) ∧ (True) := ⟨trivial, trivial⟩
      refine TS.reg [] ?_ ?_
      · apply prop_of ?_ hq
        kernel_rfl
      refine XS.then ?_
      refine TS.ret ?_
      obtain rfl : true = r := Option.some.inj h
      exact XS.fin [] ((True) ∧ (True)) (by kernel_rfl) ⟨trivial, trivial⟩

/-! plugtree/desc.bytes -/
def F16 (n : Nat) (l : List Int) : Option Bool := ((F44 n (255 : Int) l).bind fun y_2 => (some y_2))
theorem F16_ok (n : Nat) (l : List Int) (r : Bool) (h : F16 n l = some r) : PureC Try.prog 16 [(.sl (.int .i64) l)] (.bool r) [] := by
  refine PureC.mkS Try.func16 rfl rfl ?_
  intro w0 fz0 hfz
  replace h : ((F44 n (255 : Int) l).bind fun y_2 => (some y_2)) = some r := h
  refine TS.seq ?_
  have hq : (True) ∧ (True) := ⟨trivial, trivial⟩
  refine TS.reg [] ?_ ?_
  · apply prop_of ?_ hq
    kernel_rfl
  refine XS.then ?_
  refine TS.seq ?_
  obtain ⟨y_2, hx1, h⟩ := bind_some' h
  have hq : (True) ∧ ((PureC Try.prog 44 [(.int .i64 (255 : Int)), (.sl (.int .i64) l)] (.bool y_2) []) ∧ ((True) ∧ (True))) := ⟨trivial, ⟨F44_ok n (255 : Int) l y_2 hx1, ⟨trivial, trivial⟩⟩⟩
  refine TS.reg [.none, (.call (.bool y_2) [])] ?_ ?_
  · apply prop_of ?_ hq
    kernel_rfl
  refine XS.then ?_
  refine TS.ret ?_
  obtain rfl : y_2 = r := Option.some.inj h
  exact XS.fin [] ((True) ∧ (True)) (by kernel_rfl) ⟨trivial, trivial⟩

/-! plugtree/desc.put -/
def F18_l2 (n : Nat) (l : List Int) (k18_2 : (Int × (List Int)) → Option (List UInt8)) : (Int × (List Int)) → Option (List UInt8)
  | (x, m0) => (bif (decide (x < ((l.length : Nat) : Int))) then (bif inb x l.length then (bif (decide (m0.length + [(IntKind.wrap .u8 ((l.getD x.toNat (0 : Int))))].length ≤ 140737488355328)) then (k18_2 ((IntKind.wrap .i64 (x + (1 : Int))), (m0 ++ [(IntKind.wrap .u8 ((l.getD x.toNat (0 : Int))))]))) else none) else none) else (some (strOf m0)))
def F18 (n : Nat) (l : List Int) : Option (List UInt8) := (loopF (F18_l2 n l) n ((0 : Int), ([] : List Int)))
theorem F18_ok (n : Nat) (l : List Int) (r : List UInt8) (h : F18 n l = some r) : PureC Try.prog 18 [(.sl (.int .i64) l)] (.str r) [] := by
  refine PureC.mkS Try.func18 rfl rfl ?_
  intro w0 fz0 hfz
  replace h : (loopF (F18_l2 n l) n ((0 : Int), ([] : List Int))) = some r := h
  refine TS.seq ?_
  have hq : (True) ∧ (True) := ⟨trivial, trivial⟩
  refine TS.reg [] ?_ ?_
  · apply prop_of ?_ hq
    kernel_rfl
  refine XS.then ?_
  refine TS.seq ?_
  have hq : (True) ∧ (True) := ⟨trivial, trivial⟩
  refine TS.reg [] ?_ ?_
  · apply prop_of ?_ hq
    kernel_rfl
  refine XS.then ?_
  refine TS.seq ?_
  refine TS.seq ?_
  have hq : (True) ∧ ((True) ∧ ((True) ∧ (True))) := ⟨trivial, ⟨trivial, ⟨trivial, trivial⟩⟩⟩
  refine TS.reg [] ?_ ?_
  · apply prop_of ?_ hq
    kernel_rfl
  refine XS.then ?_
  refine TS.block ?_
  refine TS.wk (.row false 3 [] 5 (.int .u8)) ?_
  refine TS.reLoop [0] (mkMask 20 [3, 6, 7, 8]) (D := Int × (List Int)) (fun d => match d with | (x, m0) => (mkTs 20 [(3, (.row 0)), (6, (.sl (.int .i64) l)), (7, (.int .i64 ((l.length : Nat) : Int))), (8, (.int .i64 x))], [(.row 5 (.int .u8) m0)])) (fun n' d => loopF (F18_l2 n l) n' d = some r) n ((0 : Int), ([] : List Int)) h ?_ (fun d => loopF_zero _ d r) ?_
  · kernel_rfl
  · rintro n2 ⟨x, m0⟩ h
    replace h : (bif (decide (x < ((l.length : Nat) : Int))) then (bif inb x l.length then (bif (decide (m0.length + [(IntKind.wrap .u8 ((l.getD x.toNat (0 : Int))))].length ≤ 140737488355328)) then ((loopF (F18_l2 n l) n2) ((IntKind.wrap .i64 (x + (1 : Int))), (m0 ++ [(IntKind.wrap .u8 ((l.getD x.toNat (0 : Int))))]))) else none) else none) else (some (strOf m0))) = some r := h
    refine TS.seq ?_
    have hq : (True) ∧ (True) := ⟨trivial, trivial⟩
    refine TS.reg [] ?_ ?_
    · apply prop_of ?_ hq
      kernel_rfl
    refine XS.then ?_
    refine TS.seq ?_
    rcases bif_some h with ⟨c1, h⟩ | ⟨c2, h⟩
    · refine TS.cond (decide (x < ((l.length : Nat) : Int))) ?_ (fun hcz => ?_) (fun hcz => by rw [c1] at hcz; cases hcz)
      · kernel_rfl
      refine TS.skip ?_
      refine XS.then ?_
      refine TS.seq ?_
      refine TS.block ?_
      refine TS.seq ?_
      obtain ⟨t3, h⟩ := test_some h
      have hq : (inR x l.length) ∧ ((True) ∧ ((True) ∧ (True))) := ⟨inb_ok t3, ⟨trivial, ⟨trivial, trivial⟩⟩⟩
      refine TS.reg [] ?_ ?_
      · apply prop_of ?_ hq
        kernel_rfl
      refine XS.then ?_
      obtain ⟨t4, h⟩ := test_some h
      have hq : (True) ∧ ((True) ∧ ((True) ∧ (((0 < 1 ∧ True) ∧ (True)) ∧ ((m0.length + [(IntKind.wrap .u8 ((l.getD x.toNat (0 : Int))))].length ≤ 140737488355328) ∧ ((True) ∧ (True)))))) := ⟨trivial, ⟨trivial, ⟨trivial, ⟨⟨⟨by decide, trivial⟩, trivial⟩, ⟨of_decide_eq_true t4, ⟨trivial, trivial⟩⟩⟩⟩⟩⟩
      refine TS.reg [] ?_ ?_
      · apply prop_of ?_ hq
        kernel_rfl
      refine XS.blockEnd ?_
      refine XS.then ?_
      have hq : (True) ∧ ((True) ∧ (True)) := ⟨trivial, ⟨trivial, trivial⟩⟩
      refine TS.reg [] ?_ ?_
      · apply prop_of ?_ hq
        kernel_rfl
      refine XS.reAny [2] (mkMask 20 [3, 6, 7, 8]) ((IntKind.wrap .i64 (x + (1 : Int))), (m0 ++ [(IntKind.wrap .u8 ((l.getD x.toNat (0 : Int))))])) h ?_
      kernel_rfl
    · refine TS.cond (decide (x < ((l.length : Nat) : Int))) ?_ (fun hcz => by rw [c2] at hcz; cases hcz) (fun hcz => ?_)
      · kernel_rfl
      refine TS.exit ?_
      refine XS.passE ?_
      refine XS.passE ?_
      refine XS.out ?_
      refine XS.then ?_
      refine TS.seq ?_
      have hq : (True) ∧ ((True) ∧ ((True) ∧ (True))) := ⟨trivial, ⟨trivial, ⟨trivial, trivial⟩⟩⟩
      refine TS.reg [] ?_ ?_
      · apply prop_of ?_ hq
        kernel_rfl
      refine XS.then ?_
      refine TS.ret ?_
      obtain rfl : (strOf m0) = r := Option.some.inj h
      exact XS.fin [] ((True) ∧ (True)) (by kernel_rfl) ⟨trivial, trivial⟩

/-! plugtree/desc.word -/
def F20 (n : Nat) (vn : Int) : Option (List UInt8) := ((F18 n [vn, (shrI .i64 vn (8 : Int))]).bind fun y_2 => (some y_2))
theorem F20_ok (n : Nat) (vn : Int) (r : List UInt8) (h : F20 n vn = some r) : PureC Try.prog 20 [(.int .i64 vn)] (.str r) [] := by
  refine PureC.mkS Try.func20 rfl rfl ?_
  intro w0 fz0 hfz
  replace h : ((F18 n [vn, (shrI .i64 vn (8 : Int))]).bind fun y_2 => (some y_2)) = some r := h
  refine TS.seq ?_
  have hq : (True) ∧ (True) := ⟨trivial, trivial⟩
  refine TS.reg [] ?_ ?_
  · apply prop_of ?_ hq
    kernel_rfl
  refine XS.then ?_
  refine TS.seq ?_
  obtain ⟨y_2, hx1, h⟩ := bind_some' h
  have hq : (True) ∧ ((True) ∧ ((0 ≤ (8 : Int)) ∧ (((0 < 2 ∧ True) ∧ ((1 < 2 ∧ True) ∧ (True))) ∧ ((((True) ∧ (True)) ∧ PureC Try.prog 18 [(.sl (.int .i64) [vn, (shrI .i64 vn (8 : Int))])] (.str y_2) []) ∧ ((True) ∧ (True)))))) := ⟨trivial, ⟨trivial, ⟨by decide, ⟨⟨⟨by decide, trivial⟩, ⟨⟨by decide, trivial⟩, trivial⟩⟩, ⟨⟨⟨trivial, trivial⟩, F18_ok n [vn, (shrI .i64 vn (8 : Int))] y_2 hx1⟩, ⟨trivial, trivial⟩⟩⟩⟩⟩⟩
  refine TS.reg [.none, .none, .none, .none, (.call (.str y_2) [])] ?_ ?_
  · apply prop_of ?_ hq
    kernel_rfl
  refine XS.then ?_
  refine TS.ret ?_
  obtain rfl : y_2 = r := Option.some.inj h
  exact XS.fin [] ((True) ∧ (True)) (by kernel_rfl) ⟨trivial, trivial⟩

/-! plugtree/desc.WriteDevice -/
def F32_j4 (n : Nat) (d_Usb : Int) (d_Class : Int) (d_Sub : Int) (d_Proto : Int) (d_Max0 : Int) (d_Vendor : Int) (d_Product : Int) (d_Release : Int) (d_Maker : Int) (d_Name : Int) (d_Serial : Int) (d_Configs : Int) : Bool → Option ((List UInt8) × Int)
  | x => (bif x then (some (([] : List UInt8), (1 : Int))) else ((F18 n [(18 : Int), (1 : Int)]).bind fun y_3 => ((F20 n d_Usb).bind fun y_4 => (bif (decide (y_3.length + y_4.length ≤ 9223372036854775807)) then ((F18 n [d_Class, d_Sub, d_Proto, d_Max0]).bind fun y_5 => (bif (decide ((y_3 ++ y_4).length + y_5.length ≤ 9223372036854775807)) then ((F20 n d_Vendor).bind fun y_6 => (bif (decide (((y_3 ++ y_4) ++ y_5).length + y_6.length ≤ 9223372036854775807)) then ((F20 n d_Product).bind fun y_7 => (bif (decide ((((y_3 ++ y_4) ++ y_5) ++ y_6).length + y_7.length ≤ 9223372036854775807)) then ((F20 n d_Release).bind fun y_8 => (bif (decide (((((y_3 ++ y_4) ++ y_5) ++ y_6) ++ y_7).length + y_8.length ≤ 9223372036854775807)) then ((F18 n [d_Maker, d_Name, d_Serial, d_Configs]).bind fun y_9 => (bif (decide ((((((y_3 ++ y_4) ++ y_5) ++ y_6) ++ y_7) ++ y_8).length + y_9.length ≤ 9223372036854775807)) then (some (((((((y_3 ++ y_4) ++ y_5) ++ y_6) ++ y_7) ++ y_8) ++ y_9), (0 : Int))) else none)) else none)) else none)) else none)) else none)) else none))))
def F32_j3 (n : Nat) (d_Usb : Int) (d_Class : Int) (d_Sub : Int) (d_Proto : Int) (d_Max0 : Int) (d_Vendor : Int) (d_Product : Int) (d_Release : Int) (d_Maker : Int) (d_Name : Int) (d_Serial : Int) (d_Configs : Int) : Bool → Option ((List UInt8) × Int)
  | size => ((F16 n [d_Class, d_Sub, d_Proto, d_Maker, d_Name, d_Serial]).bind fun y_10 => (bif (!y_10) then (F32_j4 n d_Usb d_Class d_Sub d_Proto d_Max0 d_Vendor d_Product d_Release d_Maker d_Name d_Serial d_Configs true) else ((F44 n (65535 : Int) [d_Usb, d_Vendor, d_Product, d_Release]).bind fun y_11 => (bif (!y_11) then (F32_j4 n d_Usb d_Class d_Sub d_Proto d_Max0 d_Vendor d_Product d_Release d_Maker d_Name d_Serial d_Configs true) else (bif (!size) then (F32_j4 n d_Usb d_Class d_Sub d_Proto d_Max0 d_Vendor d_Product d_Release d_Maker d_Name d_Serial d_Configs true) else (bif (decide (d_Configs < (1 : Int))) then (F32_j4 n d_Usb d_Class d_Sub d_Proto d_Max0 d_Vendor d_Product d_Release d_Maker d_Name d_Serial d_Configs true) else (F32_j4 n d_Usb d_Class d_Sub d_Proto d_Max0 d_Vendor d_Product d_Release d_Maker d_Name d_Serial d_Configs (decide (d_Configs > (255 : Int))))))))))
def F32 (n : Nat) (d_Usb : Int) (d_Class : Int) (d_Sub : Int) (d_Proto : Int) (d_Max0 : Int) (d_Vendor : Int) (d_Product : Int) (d_Release : Int) (d_Maker : Int) (d_Name : Int) (d_Serial : Int) (d_Configs : Int) : Option ((List UInt8) × Int) := (bif (d_Max0 == (8 : Int)) then (F32_j3 n d_Usb d_Class d_Sub d_Proto d_Max0 d_Vendor d_Product d_Release d_Maker d_Name d_Serial d_Configs true) else (bif (d_Max0 == (16 : Int)) then (F32_j3 n d_Usb d_Class d_Sub d_Proto d_Max0 d_Vendor d_Product d_Release d_Maker d_Name d_Serial d_Configs true) else (bif (d_Max0 == (32 : Int)) then (F32_j3 n d_Usb d_Class d_Sub d_Proto d_Max0 d_Vendor d_Product d_Release d_Maker d_Name d_Serial d_Configs true) else (F32_j3 n d_Usb d_Class d_Sub d_Proto d_Max0 d_Vendor d_Product d_Release d_Maker d_Name d_Serial d_Configs (d_Max0 == (64 : Int))))))
theorem F32_ok (n : Nat) (d_Usb : Int) (d_Class : Int) (d_Sub : Int) (d_Proto : Int) (d_Max0 : Int) (d_Vendor : Int) (d_Product : Int) (d_Release : Int) (d_Maker : Int) (d_Name : Int) (d_Serial : Int) (d_Configs : Int) (r : (List UInt8) × Int) (h : F32 n d_Usb d_Class d_Sub d_Proto d_Max0 d_Vendor d_Product d_Release d_Maker d_Name d_Serial d_Configs = some r) : PureC Try.prog 32 [(.st (.cons (.int .i64 d_Usb) (.cons (.int .i64 d_Class) (.cons (.int .i64 d_Sub) (.cons (.int .i64 d_Proto) (.cons (.int .i64 d_Max0) (.cons (.int .i64 d_Vendor) (.cons (.int .i64 d_Product) (.cons (.int .i64 d_Release) (.cons (.int .i64 d_Maker) (.cons (.int .i64 d_Name) (.cons (.int .i64 d_Serial) (.int .i64 d_Configs)))))))))))))] (.tup (.cons (.str r.1) (.cons (.int .i64 r.2) .nil))) [] := by
  refine PureC.mkS Try.func32 rfl rfl ?_
  intro w0 fz0 hfz
  replace h : (bif (d_Max0 == (8 : Int)) then (F32_j3 n d_Usb d_Class d_Sub d_Proto d_Max0 d_Vendor d_Product d_Release d_Maker d_Name d_Serial d_Configs true) else (bif (d_Max0 == (16 : Int)) then (F32_j3 n d_Usb d_Class d_Sub d_Proto d_Max0 d_Vendor d_Product d_Release d_Maker d_Name d_Serial d_Configs true) else (bif (d_Max0 == (32 : Int)) then (F32_j3 n d_Usb d_Class d_Sub d_Proto d_Max0 d_Vendor d_Product d_Release d_Maker d_Name d_Serial d_Configs true) else (F32_j3 n d_Usb d_Class d_Sub d_Proto d_Max0 d_Vendor d_Product d_Release d_Maker d_Name d_Serial d_Configs (d_Max0 == (64 : Int)))))) = some r := h
  refine TS.seq ?_
  have hq : (True) ∧ ((True) ∧ ((True) ∧ (True))) := ⟨trivial, ⟨trivial, ⟨trivial, trivial⟩⟩⟩
  refine TS.reg [] ?_ ?_
  · apply prop_of ?_ hq
    kernel_rfl
  refine XS.then ?_
  refine TS.seq ?_
  refine TS.cut (D := Bool) (fun d => match d with | size => (mkTs 105 [(1, (.ptr 0 [])), (4, (.bool size))], [(.box 34 (.st (.cons (.int .i64 d_Usb) (.cons (.int .i64 d_Class) (.cons (.int .i64 d_Sub) (.cons (.int .i64 d_Proto) (.cons (.int .i64 d_Max0) (.cons (.int .i64 d_Vendor) (.cons (.int .i64 d_Product) (.cons (.int .i64 d_Release) (.cons (.int .i64 d_Maker) (.cons (.int .i64 d_Name) (.cons (.int .i64 d_Serial) (.int .i64 d_Configs))))))))))))))])) (fun d => F32_j3 n d_Usb d_Class d_Sub d_Proto d_Max0 d_Vendor d_Product d_Release d_Maker d_Name d_Serial d_Configs d = some r) ?_ ?_
  · rintro size h
    replace h : ((F16 n [d_Class, d_Sub, d_Proto, d_Maker, d_Name, d_Serial]).bind fun y_10 => (bif (!y_10) then (F32_j4 n d_Usb d_Class d_Sub d_Proto d_Max0 d_Vendor d_Product d_Release d_Maker d_Name d_Serial d_Configs true) else ((F44 n (65535 : Int) [d_Usb, d_Vendor, d_Product, d_Release]).bind fun y_11 => (bif (!y_11) then (F32_j4 n d_Usb d_Class d_Sub d_Proto d_Max0 d_Vendor d_Product d_Release d_Maker d_Name d_Serial d_Configs true) else (bif (!size) then (F32_j4 n d_Usb d_Class d_Sub d_Proto d_Max0 d_Vendor d_Product d_Release d_Maker d_Name d_Serial d_Configs true) else (bif (decide (d_Configs < (1 : Int))) then (F32_j4 n d_Usb d_Class d_Sub d_Proto d_Max0 d_Vendor d_Product d_Release d_Maker d_Name d_Serial d_Configs true) else (F32_j4 n d_Usb d_Class d_Sub d_Proto d_Max0 d_Vendor d_Product d_Release d_Maker d_Name d_Serial d_Configs (decide (d_Configs > (255 : Int)))))))))) = some r := h
    refine XS.then ?_
    refine TS.seq ?_
    refine TS.seq ?_
    refine TS.cut (D := Bool) (fun d => match d with | x => (mkTs 105 [(1, (.ptr 0 [])), (64, (.bool x))], [(.box 34 (.st (.cons (.int .i64 d_Usb) (.cons (.int .i64 d_Class) (.cons (.int .i64 d_Sub) (.cons (.int .i64 d_Proto) (.cons (.int .i64 d_Max0) (.cons (.int .i64 d_Vendor) (.cons (.int .i64 d_Product) (.cons (.int .i64 d_Release) (.cons (.int .i64 d_Maker) (.cons (.int .i64 d_Name) (.cons (.int .i64 d_Serial) (.int .i64 d_Configs))))))))))))))])) (fun d => F32_j4 n d_Usb d_Class d_Sub d_Proto d_Max0 d_Vendor d_Product d_Release d_Maker d_Name d_Serial d_Configs d = some r) ?_ ?_
    · rintro x h
      replace h : (bif x then (some (([] : List UInt8), (1 : Int))) else ((F18 n [(18 : Int), (1 : Int)]).bind fun y_3 => ((F20 n d_Usb).bind fun y_4 => (bif (decide (y_3.length + y_4.length ≤ 9223372036854775807)) then ((F18 n [d_Class, d_Sub, d_Proto, d_Max0]).bind fun y_5 => (bif (decide ((y_3 ++ y_4).length + y_5.length ≤ 9223372036854775807)) then ((F20 n d_Vendor).bind fun y_6 => (bif (decide (((y_3 ++ y_4) ++ y_5).length + y_6.length ≤ 9223372036854775807)) then ((F20 n d_Product).bind fun y_7 => (bif (decide ((((y_3 ++ y_4) ++ y_5) ++ y_6).length + y_7.length ≤ 9223372036854775807)) then ((F20 n d_Release).bind fun y_8 => (bif (decide (((((y_3 ++ y_4) ++ y_5) ++ y_6) ++ y_7).length + y_8.length ≤ 9223372036854775807)) then ((F18 n [d_Maker, d_Name, d_Serial, d_Configs]).bind fun y_9 => (bif (decide ((((((y_3 ++ y_4) ++ y_5) ++ y_6) ++ y_7) ++ y_8).length + y_9.length ≤ 9223372036854775807)) then (some (((((((y_3 ++ y_4) ++ y_5) ++ y_6) ++ y_7) ++ y_8) ++ y_9), (0 : Int))) else none)) else none)) else none)) else none)) else none)) else none)))) = some r := h
      refine XS.then ?_
      rcases bif_some h with ⟨c1, h⟩ | ⟨c2, h⟩
      · refine TS.cond x ?_ (fun hcz => ?_) (fun hcz => by rw [c1] at hcz; cases hcz)
        · kernel_rfl
        refine TS.seq ?_
        have hq : (True) ∧ ((True) ∧ (True)) := ⟨trivial, ⟨trivial, trivial⟩⟩
        refine TS.reg [] ?_ ?_
        · apply prop_of ?_ hq
          kernel_rfl
        refine XS.then ?_
        refine TS.ret ?_
        refine XS.passR ?_
        obtain rfl : (([] : List UInt8), (1 : Int)) = r := Option.some.inj h
        exact XS.fin [] ((True) ∧ ((True) ∧ (True))) (by kernel_rfl) ⟨trivial, ⟨trivial, trivial⟩⟩
      · refine TS.cond x ?_ (fun hcz => by rw [c2] at hcz; cases hcz) (fun hcz => ?_)
        · kernel_rfl
        refine TS.skip ?_
        refine XS.then ?_
        refine TS.seq ?_
        obtain ⟨y_3, hx3, h⟩ := bind_some' h
        obtain ⟨y_4, hx4, h⟩ := bind_some' h
        obtain ⟨t5, h⟩ := test_some h
        obtain ⟨y_5, hx6, h⟩ := bind_some' h
        obtain ⟨t7, h⟩ := test_some h
        obtain ⟨y_6, hx8, h⟩ := bind_some' h
        obtain ⟨t9, h⟩ := test_some h
        obtain ⟨y_7, hx10, h⟩ := bind_some' h
        obtain ⟨t11, h⟩ := test_some h
        obtain ⟨y_8, hx12, h⟩ := bind_some' h
        obtain ⟨t13, h⟩ := test_some h
        obtain ⟨y_9, hx14, h⟩ := bind_some' h
        obtain ⟨t15, h⟩ := test_some h
        have hq : (((0 < 2 ∧ True) ∧ ((1 < 2 ∧ True) ∧ (True))) ∧ ((((True) ∧ (True)) ∧ PureC Try.prog 18 [(.sl (.int .i64) [(18 : Int), (1 : Int)])] (.str y_3) []) ∧ ((True) ∧ ((True) ∧ ((PureC Try.prog 20 [(.int .i64 d_Usb)] (.str y_4) []) ∧ ((y_3.length + y_4.length ≤ 9223372036854775807) ∧ ((True) ∧ ((True) ∧ ((True) ∧ ((True) ∧ ((True) ∧ ((True) ∧ ((True) ∧ ((True) ∧ (((0 < 4 ∧ True) ∧ ((1 < 4 ∧ True) ∧ ((2 < 4 ∧ True) ∧ ((3 < 4 ∧ True) ∧ (True))))) ∧ ((((True) ∧ (True)) ∧ PureC Try.prog 18 [(.sl (.int .i64) [d_Class, d_Sub, d_Proto, d_Max0])] (.str y_5) []) ∧ (((y_3 ++ y_4).length + y_5.length ≤ 9223372036854775807) ∧ ((True) ∧ ((True) ∧ ((PureC Try.prog 20 [(.int .i64 d_Vendor)] (.str y_6) []) ∧ ((((y_3 ++ y_4) ++ y_5).length + y_6.length ≤ 9223372036854775807) ∧ ((True) ∧ ((True) ∧ ((PureC Try.prog 20 [(.int .i64 d_Product)] (.str y_7) []) ∧ (((((y_3 ++ y_4) ++ y_5) ++ y_6).length + y_7.length ≤ 9223372036854775807) ∧ ((True) ∧ ((True) ∧ ((PureC Try.prog 20 [(.int .i64 d_Release)] (.str y_8) []) ∧ ((((((y_3 ++ y_4) ++ y_5) ++ y_6) ++ y_7).length + y_8.length ≤ 9223372036854775807) ∧ ((True) ∧ ((True) ∧ ((True) ∧ ((True) ∧ ((True) ∧ ((True) ∧ ((True) ∧ ((True) ∧ (((0 < 4 ∧ True) ∧ ((1 < 4 ∧ True) ∧ ((2 < 4 ∧ True) ∧ ((3 < 4 ∧ True) ∧ (True))))) ∧ ((((True) ∧ (True)) ∧ PureC Try.prog 18 [(.sl (.int .i64) [d_Maker, d_Name, d_Serial, d_Configs])] (.str y_9) []) ∧ (((((((y_3 ++ y_4) ++ y_5) ++ y_6) ++ y_7) ++ y_8).length + y_9.length ≤ 9223372036854775807) ∧ (True))))))))))))))))))))))))))))))))))))))))) ∧ ((True) ∧ ((True) ∧ (True))) := ⟨⟨⟨⟨by decide, trivial⟩, ⟨⟨by decide, trivial⟩, trivial⟩⟩, ⟨⟨⟨trivial, trivial⟩, F18_ok n [(18 : Int), (1 : Int)] y_3 hx3⟩, ⟨trivial, ⟨trivial, ⟨F20_ok n d_Usb y_4 hx4, ⟨of_decide_eq_true t5, ⟨trivial, ⟨trivial, ⟨trivial, ⟨trivial, ⟨trivial, ⟨trivial, ⟨trivial, ⟨trivial, ⟨⟨⟨by decide, trivial⟩, ⟨⟨by decide, trivial⟩, ⟨⟨by decide, trivial⟩, ⟨⟨by decide, trivial⟩, trivial⟩⟩⟩⟩, ⟨⟨⟨trivial, trivial⟩, F18_ok n [d_Class, d_Sub, d_Proto, d_Max0] y_5 hx6⟩, ⟨of_decide_eq_true t7, ⟨trivial, ⟨trivial, ⟨F20_ok n d_Vendor y_6 hx8, ⟨of_decide_eq_true t9, ⟨trivial, ⟨trivial, ⟨F20_ok n d_Product y_7 hx10, ⟨of_decide_eq_true t11, ⟨trivial, ⟨trivial, ⟨F20_ok n d_Release y_8 hx12, ⟨of_decide_eq_true t13, ⟨trivial, ⟨trivial, ⟨trivial, ⟨trivial, ⟨trivial, ⟨trivial, ⟨trivial, ⟨trivial, ⟨⟨⟨by decide, trivial⟩, ⟨⟨by decide, trivial⟩, ⟨⟨by decide, trivial⟩, ⟨⟨by decide, trivial⟩, trivial⟩⟩⟩⟩, ⟨⟨⟨trivial, trivial⟩, F18_ok n [d_Maker, d_Name, d_Serial, d_Configs] y_9 hx14⟩, ⟨of_decide_eq_true t15, trivial⟩⟩⟩⟩⟩⟩⟩⟩⟩⟩⟩⟩⟩⟩⟩⟩⟩⟩⟩⟩⟩⟩⟩⟩⟩⟩⟩⟩⟩⟩⟩⟩⟩⟩⟩⟩⟩⟩⟩⟩, ⟨trivial, ⟨trivial, trivial⟩⟩⟩
        refine TS.draw 40 [] [.none, (.call (.str y_3) []), .none, .none, (.call (.str y_4) []), .none, .none, .none, .none, .none, .none, .none, .none, .none, .none, (.call (.str y_5) []), .none, .none, .none, (.call (.str y_6) []), .none, .none, .none, (.call (.str y_7) []), .none, .none, .none, (.call (.str y_8) []), .none, .none, .none, .none, .none, .none, .none, .none, .none, .none, (.call (.str y_9) [])] (by kernel_rfl) ?_ ?_
        · apply prop_of ?_ hq
          kernel_rfl
        refine XS.then ?_
        refine TS.ret ?_
        obtain rfl : (((((((y_3 ++ y_4) ++ y_5) ++ y_6) ++ y_7) ++ y_8) ++ y_9), (0 : Int)) = r := Option.some.inj h
        exact XS.fin [] ((True) ∧ ((True) ∧ (True))) (by kernel_rfl) ⟨trivial, ⟨trivial, trivial⟩⟩
    · obtain ⟨y_10, hx16, h⟩ := bind_some' h
      rcases bif_some h with ⟨c17, h⟩ | ⟨c18, h⟩
      · have hq : (True) ∧ ((True) ∧ ((True) ∧ ((True) ∧ ((True) ∧ ((True) ∧ ((True) ∧ ((True) ∧ ((True) ∧ ((True) ∧ ((True) ∧ ((True) ∧ (((0 < 6 ∧ True) ∧ ((1 < 6 ∧ True) ∧ ((2 < 6 ∧ True) ∧ ((3 < 6 ∧ True) ∧ ((4 < 6 ∧ True) ∧ ((5 < 6 ∧ True) ∧ (True))))))) ∧ ((((True) ∧ (True)) ∧ PureC Try.prog 16 [(.sl (.int .i64) [d_Class, d_Sub, d_Proto, d_Maker, d_Name, d_Serial])] (.bool y_10) []) ∧ ((True) ∧ (((True) ∧ (!y_10) = true) ∧ ((True) ∧ ((True) ∧ ((True) ∧ ((True) ∧ ((True) ∧ ((True) ∧ ((True) ∧ (True))))))))))))))))))))))) := ⟨trivial, ⟨trivial, ⟨trivial, ⟨trivial, ⟨trivial, ⟨trivial, ⟨trivial, ⟨trivial, ⟨trivial, ⟨trivial, ⟨trivial, ⟨trivial, ⟨⟨⟨by decide, trivial⟩, ⟨⟨by decide, trivial⟩, ⟨⟨by decide, trivial⟩, ⟨⟨by decide, trivial⟩, ⟨⟨by decide, trivial⟩, ⟨⟨by decide, trivial⟩, trivial⟩⟩⟩⟩⟩⟩, ⟨⟨⟨trivial, trivial⟩, F16_ok n [d_Class, d_Sub, d_Proto, d_Maker, d_Name, d_Serial] y_10 hx16⟩, ⟨trivial, ⟨⟨trivial, c17⟩, ⟨trivial, ⟨trivial, ⟨trivial, ⟨trivial, ⟨trivial, ⟨trivial, ⟨trivial, trivial⟩⟩⟩⟩⟩⟩⟩⟩⟩⟩⟩⟩⟩⟩⟩⟩⟩⟩⟩⟩⟩⟩⟩
        refine TS.reg [.none, .none, .none, .none, .none, .none, .none, .none, .none, .none, .none, .none, .none, (.call (.bool y_10) []), .none, .dec true] ?_ ?_
        · apply prop_of ?_ hq
          kernel_rfl
        refine XS.reAny [0] (mkMask 105 [1, 64]) true h ?_
        kernel_rfl
      · obtain ⟨y_11, hx19, h⟩ := bind_some' h
        rcases bif_some h with ⟨c20, h⟩ | ⟨c21, h⟩
        · have hq : (True) ∧ ((True) ∧ ((True) ∧ ((True) ∧ ((True) ∧ ((True) ∧ ((True) ∧ ((True) ∧ ((True) ∧ ((True) ∧ ((True) ∧ ((True) ∧ (((0 < 6 ∧ True) ∧ ((1 < 6 ∧ True) ∧ ((2 < 6 ∧ True) ∧ ((3 < 6 ∧ True) ∧ ((4 < 6 ∧ True) ∧ ((5 < 6 ∧ True) ∧ (True))))))) ∧ ((((True) ∧ (True)) ∧ PureC Try.prog 16 [(.sl (.int .i64) [d_Class, d_Sub, d_Proto, d_Maker, d_Name, d_Serial])] (.bool y_10) []) ∧ ((True) ∧ (((True) ∧ (!y_10) = false) ∧ ((True) ∧ ((True) ∧ ((True) ∧ ((True) ∧ ((True) ∧ ((True) ∧ ((True) ∧ ((True) ∧ (((0 < 4 ∧ True) ∧ ((1 < 4 ∧ True) ∧ ((2 < 4 ∧ True) ∧ ((3 < 4 ∧ True) ∧ (True))))) ∧ ((((True) ∧ ((True) ∧ (True))) ∧ PureC Try.prog 44 [(.int .i64 (65535 : Int)), (.sl (.int .i64) [d_Usb, d_Vendor, d_Product, d_Release])] (.bool y_11) []) ∧ ((True) ∧ ((True) ∧ (((True) ∧ (!y_11) = true) ∧ ((True) ∧ ((True) ∧ ((True) ∧ ((True) ∧ ((True) ∧ (True)))))))))))))))))))))))))))))))))) := ⟨trivial, ⟨trivial, ⟨trivial, ⟨trivial, ⟨trivial, ⟨trivial, ⟨trivial, ⟨trivial, ⟨trivial, ⟨trivial, ⟨trivial, ⟨trivial, ⟨⟨⟨by decide, trivial⟩, ⟨⟨by decide, trivial⟩, ⟨⟨by decide, trivial⟩, ⟨⟨by decide, trivial⟩, ⟨⟨by decide, trivial⟩, ⟨⟨by decide, trivial⟩, trivial⟩⟩⟩⟩⟩⟩, ⟨⟨⟨trivial, trivial⟩, F16_ok n [d_Class, d_Sub, d_Proto, d_Maker, d_Name, d_Serial] y_10 hx16⟩, ⟨trivial, ⟨⟨trivial, c18⟩, ⟨trivial, ⟨trivial, ⟨trivial, ⟨trivial, ⟨trivial, ⟨trivial, ⟨trivial, ⟨trivial, ⟨⟨⟨by decide, trivial⟩, ⟨⟨by decide, trivial⟩, ⟨⟨by decide, trivial⟩, ⟨⟨by decide, trivial⟩, trivial⟩⟩⟩⟩, ⟨⟨⟨trivial, ⟨trivial, trivial⟩⟩, F44_ok n (65535 : Int) [d_Usb, d_Vendor, d_Product, d_Release] y_11 hx19⟩, ⟨trivial, ⟨trivial, ⟨⟨trivial, c20⟩, ⟨trivial, ⟨trivial, ⟨trivial, ⟨trivial, ⟨trivial, trivial⟩⟩⟩⟩⟩⟩⟩⟩⟩⟩⟩⟩⟩⟩⟩⟩⟩⟩⟩⟩⟩⟩⟩⟩⟩⟩⟩⟩⟩⟩⟩⟩⟩⟩
          refine TS.reg [.none, .none, .none, .none, .none, .none, .none, .none, .none, .none, .none, .none, .none, (.call (.bool y_10) []), .none, .dec false, .none, .none, .none, .none, .none, .none, .none, .none, .none, (.call (.bool y_11) []), .none, .none, .dec true] ?_ ?_
          · apply prop_of ?_ hq
            kernel_rfl
          refine XS.reAny [0] (mkMask 105 [1, 64]) true h ?_
          kernel_rfl
        · rcases bif_some h with ⟨c22, h⟩ | ⟨c23, h⟩
          · have hq : (True) ∧ ((True) ∧ ((True) ∧ ((True) ∧ ((True) ∧ ((True) ∧ ((True) ∧ ((True) ∧ ((True) ∧ ((True) ∧ ((True) ∧ ((True) ∧ (((0 < 6 ∧ True) ∧ ((1 < 6 ∧ True) ∧ ((2 < 6 ∧ True) ∧ ((3 < 6 ∧ True) ∧ ((4 < 6 ∧ True) ∧ ((5 < 6 ∧ True) ∧ (True))))))) ∧ ((((True) ∧ (True)) ∧ PureC Try.prog 16 [(.sl (.int .i64) [d_Class, d_Sub, d_Proto, d_Maker, d_Name, d_Serial])] (.bool y_10) []) ∧ ((True) ∧ (((True) ∧ (!y_10) = false) ∧ ((True) ∧ ((True) ∧ ((True) ∧ ((True) ∧ ((True) ∧ ((True) ∧ ((True) ∧ ((True) ∧ (((0 < 4 ∧ True) ∧ ((1 < 4 ∧ True) ∧ ((2 < 4 ∧ True) ∧ ((3 < 4 ∧ True) ∧ (True))))) ∧ ((((True) ∧ ((True) ∧ (True))) ∧ PureC Try.prog 44 [(.int .i64 (65535 : Int)), (.sl (.int .i64) [d_Usb, d_Vendor, d_Product, d_Release])] (.bool y_11) []) ∧ ((True) ∧ ((True) ∧ (((True) ∧ (!y_11) = false) ∧ ((True) ∧ ((True) ∧ ((True) ∧ (((True) ∧ (!size) = true) ∧ ((True) ∧ ((True) ∧ ((True) ∧ (True)))))))))))))))))))))))))))))))))))) := ⟨trivial, ⟨trivial, ⟨trivial, ⟨trivial, ⟨trivial, ⟨trivial, ⟨trivial, ⟨trivial, ⟨trivial, ⟨trivial, ⟨trivial, ⟨trivial, ⟨⟨⟨by decide, trivial⟩, ⟨⟨by decide, trivial⟩, ⟨⟨by decide, trivial⟩, ⟨⟨by decide, trivial⟩, ⟨⟨by decide, trivial⟩, ⟨⟨by decide, trivial⟩, trivial⟩⟩⟩⟩⟩⟩, ⟨⟨⟨trivial, trivial⟩, F16_ok n [d_Class, d_Sub, d_Proto, d_Maker, d_Name, d_Serial] y_10 hx16⟩, ⟨trivial, ⟨⟨trivial, c18⟩, ⟨trivial, ⟨trivial, ⟨trivial, ⟨trivial, ⟨trivial, ⟨trivial, ⟨trivial, ⟨trivial, ⟨⟨⟨by decide, trivial⟩, ⟨⟨by decide, trivial⟩, ⟨⟨by decide, trivial⟩, ⟨⟨by decide, trivial⟩, trivial⟩⟩⟩⟩, ⟨⟨⟨trivial, ⟨trivial, trivial⟩⟩, F44_ok n (65535 : Int) [d_Usb, d_Vendor, d_Product, d_Release] y_11 hx19⟩, ⟨trivial, ⟨trivial, ⟨⟨trivial, c21⟩, ⟨trivial, ⟨trivial, ⟨trivial, ⟨⟨trivial, c22⟩, ⟨trivial, ⟨trivial, ⟨trivial, trivial⟩⟩⟩⟩⟩⟩⟩⟩⟩⟩⟩⟩⟩⟩⟩⟩⟩⟩⟩⟩⟩⟩⟩⟩⟩⟩⟩⟩⟩⟩⟩⟩⟩⟩⟩⟩
            refine TS.reg [.none, .none, .none, .none, .none, .none, .none, .none, .none, .none, .none, .none, .none, (.call (.bool y_10) []), .none, .dec false, .none, .none, .none, .none, .none, .none, .none, .none, .none, (.call (.bool y_11) []), .none, .none, .dec false, .none, .none, .none, .dec true] ?_ ?_
            · apply prop_of ?_ hq
              kernel_rfl
            refine XS.reAny [0] (mkMask 105 [1, 64]) true h ?_
            kernel_rfl
          · rcases bif_some h with ⟨c24, h⟩ | ⟨c25, h⟩
            · have hq : (True) ∧ ((True) ∧ ((True) ∧ ((True) ∧ ((True) ∧ ((True) ∧ ((True) ∧ ((True) ∧ ((True) ∧ ((True) ∧ ((True) ∧ ((True) ∧ (((0 < 6 ∧ True) ∧ ((1 < 6 ∧ True) ∧ ((2 < 6 ∧ True) ∧ ((3 < 6 ∧ True) ∧ ((4 < 6 ∧ True) ∧ ((5 < 6 ∧ True) ∧ (True))))))) ∧ ((((True) ∧ (True)) ∧ PureC Try.prog 16 [(.sl (.int .i64) [d_Class, d_Sub, d_Proto, d_Maker, d_Name, d_Serial])] (.bool y_10) []) ∧ ((True) ∧ (((True) ∧ (!y_10) = false) ∧ ((True) ∧ ((True) ∧ ((True) ∧ ((True) ∧ ((True) ∧ ((True) ∧ ((True) ∧ ((True) ∧ (((0 < 4 ∧ True) ∧ ((1 < 4 ∧ True) ∧ ((2 < 4 ∧ True) ∧ ((3 < 4 ∧ True) ∧ (True))))) ∧ ((((True) ∧ ((True) ∧ (True))) ∧ PureC Try.prog 44 [(.int .i64 (65535 : Int)), (.sl (.int .i64) [d_Usb, d_Vendor, d_Product, d_Release])] (.bool y_11) []) ∧ ((True) ∧ ((True) ∧ (((True) ∧ (!y_11) = false) ∧ ((True) ∧ ((True) ∧ ((True) ∧ (((True) ∧ (!size) = false) ∧ ((True) ∧ ((True) ∧ ((True) ∧ ((True) ∧ (((True) ∧ (decide (d_Configs < (1 : Int))) = true) ∧ ((True) ∧ (True))))))))))))))))))))))))))))))))))))))) := ⟨trivial, ⟨trivial, ⟨trivial, ⟨trivial, ⟨trivial, ⟨trivial, ⟨trivial, ⟨trivial, ⟨trivial, ⟨trivial, ⟨trivial, ⟨trivial, ⟨⟨⟨by decide, trivial⟩, ⟨⟨by decide, trivial⟩, ⟨⟨by decide, trivial⟩, ⟨⟨by decide, trivial⟩, ⟨⟨by decide, trivial⟩, ⟨⟨by decide, trivial⟩, trivial⟩⟩⟩⟩⟩⟩, ⟨⟨⟨trivial, trivial⟩, F16_ok n [d_Class, d_Sub, d_Proto, d_Maker, d_Name, d_Serial] y_10 hx16⟩, ⟨trivial, ⟨⟨trivial, c18⟩, ⟨trivial, ⟨trivial, ⟨trivial, ⟨trivial, ⟨trivial, ⟨trivial, ⟨trivial, ⟨trivial, ⟨⟨⟨by decide, trivial⟩, ⟨⟨by decide, trivial⟩, ⟨⟨by decide, trivial⟩, ⟨⟨by decide, trivial⟩, trivial⟩⟩⟩⟩, ⟨⟨⟨trivial, ⟨trivial, trivial⟩⟩, F44_ok n (65535 : Int) [d_Usb, d_Vendor, d_Product, d_Release] y_11 hx19⟩, ⟨trivial, ⟨trivial, ⟨⟨trivial, c21⟩, ⟨trivial, ⟨trivial, ⟨trivial, ⟨⟨trivial, c23⟩, ⟨trivial, ⟨trivial, ⟨trivial, ⟨trivial, ⟨⟨trivial, c24⟩, ⟨trivial, trivial⟩⟩⟩⟩⟩⟩⟩⟩⟩⟩⟩⟩⟩⟩⟩⟩⟩⟩⟩⟩⟩⟩⟩⟩⟩⟩⟩⟩⟩⟩⟩⟩⟩⟩⟩⟩⟩⟩⟩
              refine TS.reg [.none, .none, .none, .none, .none, .none, .none, .none, .none, .none, .none, .none, .none, (.call (.bool y_10) []), .none, .dec false, .none, .none, .none, .none, .none, .none, .none, .none, .none, (.call (.bool y_11) []), .none, .none, .dec false, .none, .none, .none, .dec false, .none, .none, .none, .none, .dec true] ?_ ?_
              · apply prop_of ?_ hq
                kernel_rfl
              refine XS.reAny [0] (mkMask 105 [1, 64]) true h ?_
              kernel_rfl
            · have hq : (True) ∧ ((True) ∧ ((True) ∧ ((True) ∧ ((True) ∧ ((True) ∧ ((True) ∧ ((True) ∧ ((True) ∧ ((True) ∧ ((True) ∧ ((True) ∧ (((0 < 6 ∧ True) ∧ ((1 < 6 ∧ True) ∧ ((2 < 6 ∧ True) ∧ ((3 < 6 ∧ True) ∧ ((4 < 6 ∧ True) ∧ ((5 < 6 ∧ True) ∧ (True))))))) ∧ ((((True) ∧ (True)) ∧ PureC Try.prog 16 [(.sl (.int .i64) [d_Class, d_Sub, d_Proto, d_Maker, d_Name, d_Serial])] (.bool y_10) []) ∧ ((True) ∧ (((True) ∧ (!y_10) = false) ∧ ((True) ∧ ((True) ∧ ((True) ∧ ((True) ∧ ((True) ∧ ((True) ∧ ((True) ∧ ((True) ∧ (((0 < 4 ∧ True) ∧ ((1 < 4 ∧ True) ∧ ((2 < 4 ∧ True) ∧ ((3 < 4 ∧ True) ∧ (True))))) ∧ ((((True) ∧ ((True) ∧ (True))) ∧ PureC Try.prog 44 [(.int .i64 (65535 : Int)), (.sl (.int .i64) [d_Usb, d_Vendor, d_Product, d_Release])] (.bool y_11) []) ∧ ((True) ∧ ((True) ∧ (((True) ∧ (!y_11) = false) ∧ ((True) ∧ ((True) ∧ ((True) ∧ (((True) ∧ (!size) = false) ∧ ((True) ∧ ((True) ∧ ((True) ∧ ((True) ∧ (((True) ∧ (decide (d_Configs < (1 : Int))) = false) ∧ ((True) ∧ ((True) ∧ ((True) ∧ ((True) ∧ (True)))))))))))))))))))))))))))))))))))))))))) := ⟨trivial, ⟨trivial, ⟨trivial, ⟨trivial, ⟨trivial, ⟨trivial, ⟨trivial, ⟨trivial, ⟨trivial, ⟨trivial, ⟨trivial, ⟨trivial, ⟨⟨⟨by decide, trivial⟩, ⟨⟨by decide, trivial⟩, ⟨⟨by decide, trivial⟩, ⟨⟨by decide, trivial⟩, ⟨⟨by decide, trivial⟩, ⟨⟨by decide, trivial⟩, trivial⟩⟩⟩⟩⟩⟩, ⟨⟨⟨trivial, trivial⟩, F16_ok n [d_Class, d_Sub, d_Proto, d_Maker, d_Name, d_Serial] y_10 hx16⟩, ⟨trivial, ⟨⟨trivial, c18⟩, ⟨trivial, ⟨trivial, ⟨trivial, ⟨trivial, ⟨trivial, ⟨trivial, ⟨trivial, ⟨trivial, ⟨⟨⟨by decide, trivial⟩, ⟨⟨by decide, trivial⟩, ⟨⟨by decide, trivial⟩, ⟨⟨by decide, trivial⟩, trivial⟩⟩⟩⟩, ⟨⟨⟨trivial, ⟨trivial, trivial⟩⟩, F44_ok n (65535 : Int) [d_Usb, d_Vendor, d_Product, d_Release] y_11 hx19⟩, ⟨trivial, ⟨trivial, ⟨⟨trivial, c21⟩, ⟨trivial, ⟨trivial, ⟨trivial, ⟨⟨trivial, c23⟩, ⟨trivial, ⟨trivial, ⟨trivial, ⟨trivial, ⟨⟨trivial, c25⟩, ⟨trivial, ⟨trivial, ⟨trivial, ⟨trivial, trivial⟩⟩⟩⟩⟩⟩⟩⟩⟩⟩⟩⟩⟩⟩⟩⟩⟩⟩⟩⟩⟩⟩⟩⟩⟩⟩⟩⟩⟩⟩⟩⟩⟩⟩⟩⟩⟩⟩⟩⟩⟩⟩
              refine TS.reg [.none, .none, .none, .none, .none, .none, .none, .none, .none, .none, .none, .none, .none, (.call (.bool y_10) []), .none, .dec false, .none, .none, .none, .none, .none, .none, .none, .none, .none, (.call (.bool y_11) []), .none, .none, .dec false, .none, .none, .none, .dec false, .none, .none, .none, .none, .dec false] ?_ ?_
              · apply prop_of ?_ hq
                kernel_rfl
              refine XS.reAny [0] (mkMask 105 [1, 64]) (decide (d_Configs > (255 : Int))) h ?_
              kernel_rfl
  · rcases bif_some h with ⟨c26, h⟩ | ⟨c27, h⟩
    · have hq : (True) ∧ ((True) ∧ ((True) ∧ (((True) ∧ (d_Max0 == (8 : Int)) = true) ∧ ((True) ∧ ((True) ∧ ((True) ∧ ((True) ∧ ((True) ∧ ((True) ∧ (True)))))))))) := ⟨trivial, ⟨trivial, ⟨trivial, ⟨⟨trivial, c26⟩, ⟨trivial, ⟨trivial, ⟨trivial, ⟨trivial, ⟨trivial, ⟨trivial, trivial⟩⟩⟩⟩⟩⟩⟩⟩⟩⟩
      refine TS.reg [.none, .none, .none, .dec true] ?_ ?_
      · apply prop_of ?_ hq
        kernel_rfl
      refine XS.reAny [0] (mkMask 105 [1, 4]) true h ?_
      kernel_rfl
    · rcases bif_some h with ⟨c28, h⟩ | ⟨c29, h⟩
      · have hq : (True) ∧ ((True) ∧ ((True) ∧ (((True) ∧ (d_Max0 == (8 : Int)) = false) ∧ ((True) ∧ ((True) ∧ ((True) ∧ ((True) ∧ (((True) ∧ (d_Max0 == (16 : Int)) = true) ∧ ((True) ∧ ((True) ∧ ((True) ∧ ((True) ∧ (True))))))))))))) := ⟨trivial, ⟨trivial, ⟨trivial, ⟨⟨trivial, c27⟩, ⟨trivial, ⟨trivial, ⟨trivial, ⟨trivial, ⟨⟨trivial, c28⟩, ⟨trivial, ⟨trivial, ⟨trivial, ⟨trivial, trivial⟩⟩⟩⟩⟩⟩⟩⟩⟩⟩⟩⟩⟩
        refine TS.reg [.none, .none, .none, .dec false, .none, .none, .none, .none, .dec true] ?_ ?_
        · apply prop_of ?_ hq
          kernel_rfl
        refine XS.reAny [0] (mkMask 105 [1, 4]) true h ?_
        kernel_rfl
      · rcases bif_some h with ⟨c30, h⟩ | ⟨c31, h⟩
        · have hq : (True) ∧ ((True) ∧ ((True) ∧ (((True) ∧ (d_Max0 == (8 : Int)) = false) ∧ ((True) ∧ ((True) ∧ ((True) ∧ ((True) ∧ (((True) ∧ (d_Max0 == (16 : Int)) = false) ∧ ((True) ∧ ((True) ∧ ((True) ∧ ((True) ∧ (((True) ∧ (d_Max0 == (32 : Int)) = true) ∧ ((True) ∧ ((True) ∧ (True)))))))))))))))) := ⟨trivial, ⟨trivial, ⟨trivial, ⟨⟨trivial, c27⟩, ⟨trivial, ⟨trivial, ⟨trivial, ⟨trivial, ⟨⟨trivial, c29⟩, ⟨trivial, ⟨trivial, ⟨trivial, ⟨trivial, ⟨⟨trivial, c30⟩, ⟨trivial, ⟨trivial, trivial⟩⟩⟩⟩⟩⟩⟩⟩⟩⟩⟩⟩⟩⟩⟩⟩
          refine TS.reg [.none, .none, .none, .dec false, .none, .none, .none, .none, .dec false, .none, .none, .none, .none, .dec true] ?_ ?_
          · apply prop_of ?_ hq
            kernel_rfl
          refine XS.reAny [0] (mkMask 105 [1, 4]) true h ?_
          kernel_rfl
        · have hq : (True) ∧ ((True) ∧ ((True) ∧ (((True) ∧ (d_Max0 == (8 : Int)) = false) ∧ ((True) ∧ ((True) ∧ ((True) ∧ ((True) ∧ (((True) ∧ (d_Max0 == (16 : Int)) = false) ∧ ((True) ∧ ((True) ∧ ((True) ∧ ((True) ∧ (((True) ∧ (d_Max0 == (32 : Int)) = false) ∧ ((True) ∧ ((True) ∧ ((True) ∧ ((True) ∧ ((True) ∧ (True))))))))))))))))))) := ⟨trivial, ⟨trivial, ⟨trivial, ⟨⟨trivial, c27⟩, ⟨trivial, ⟨trivial, ⟨trivial, ⟨trivial, ⟨⟨trivial, c29⟩, ⟨trivial, ⟨trivial, ⟨trivial, ⟨trivial, ⟨⟨trivial, c31⟩, ⟨trivial, ⟨trivial, ⟨trivial, ⟨trivial, ⟨trivial, trivial⟩⟩⟩⟩⟩⟩⟩⟩⟩⟩⟩⟩⟩⟩⟩⟩⟩⟩⟩
          refine TS.reg [.none, .none, .none, .dec false, .none, .none, .none, .none, .dec false, .none, .none, .none, .none, .dec false] ?_ ?_
          · apply prop_of ?_ hq
            kernel_rfl
          refine XS.reAny [0] (mkMask 105 [1, 4]) (d_Max0 == (64 : Int)) h ?_
          kernel_rfl

/-! plugtree/desc.extra -/
def F45 (n : Nat) (s : List UInt8) : Option Bool := (bif (decide (((s.length : Nat) : Int) ≥ (2 : Int))) then (bif (decide (((s.length : Nat) : Int) ≤ (32 : Int))) then (bif inb (0 : Int) s.length then (bif ((IntKind.wrap .i64 ((((s.getD 0 0).toNat : Nat) : Int))) == ((s.length : Nat) : Int)) then (bif inb (1 : Int) s.length then (some (decide ((((s.getD 1 0).toNat : Nat) : Int) ≥ (6 : Int)))) else none) else (some false)) else none) else (some false)) else (some false))
theorem F45_ok (n : Nat) (s : List UInt8) (r : Bool) (h : F45 n s = some r) : PureC Try.prog 45 [(.str s)] (.bool r) [] := by
  refine PureC.mkS Try.func45 rfl rfl ?_
  intro w0 fz0 hfz
  replace h : (bif (decide (((s.length : Nat) : Int) ≥ (2 : Int))) then (bif (decide (((s.length : Nat) : Int) ≤ (32 : Int))) then (bif inb (0 : Int) s.length then (bif ((IntKind.wrap .i64 ((((s.getD 0 0).toNat : Nat) : Int))) == ((s.length : Nat) : Int)) then (bif inb (1 : Int) s.length then (some (decide ((((s.getD 1 0).toNat : Nat) : Int) ≥ (6 : Int)))) else none) else (some false)) else none) else (some false)) else (some false)) = some r := h
  refine TS.seq ?_
  have hq : (True) ∧ (True) := ⟨trivial, trivial⟩
  refine TS.reg [] ?_ ?_
  · apply prop_of ?_ hq
    kernel_rfl
  refine XS.then ?_
  refine TS.seq ?_
  rcases bif_some h with ⟨c1, h⟩ | ⟨c2, h⟩
  · rcases bif_some h with ⟨c3, h⟩ | ⟨c4, h⟩
    · obtain ⟨t5, h⟩ := test_some h
      rcases bif_some h with ⟨c6, h⟩ | ⟨c7, h⟩
      · obtain ⟨t8, h⟩ := test_some h
        have hq : (True) ∧ ((True) ∧ ((True) ∧ (((True) ∧ (decide (((s.length : Nat) : Int) ≥ (2 : Int))) = true) ∧ ((True) ∧ ((True) ∧ ((True) ∧ ((True) ∧ (((True) ∧ (decide (((s.length : Nat) : Int) ≤ (32 : Int))) = true) ∧ ((True) ∧ ((inR (0 : Int) s.length) ∧ ((True) ∧ ((True) ∧ ((True) ∧ ((True) ∧ ((True) ∧ (((True) ∧ ((IntKind.wrap .i64 ((((s.getD 0 0).toNat : Nat) : Int))) == ((s.length : Nat) : Int)) = true) ∧ ((True) ∧ ((inR (1 : Int) s.length) ∧ ((True) ∧ ((True) ∧ ((True) ∧ (True)))))))))))))))))))))) := ⟨trivial, ⟨trivial, ⟨trivial, ⟨⟨trivial, c1⟩, ⟨trivial, ⟨trivial, ⟨trivial, ⟨trivial, ⟨⟨trivial, c3⟩, ⟨trivial, ⟨inb_ok t5, ⟨trivial, ⟨trivial, ⟨trivial, ⟨trivial, ⟨trivial, ⟨⟨trivial, c6⟩, ⟨trivial, ⟨inb_ok t8, ⟨trivial, ⟨trivial, ⟨trivial, trivial⟩⟩⟩⟩⟩⟩⟩⟩⟩⟩⟩⟩⟩⟩⟩⟩⟩⟩⟩⟩⟩⟩
        refine TS.reg [.none, .none, .none, .dec true, .none, .none, .none, .none, .dec true, .none, .none, .none, .none, .none, .none, .none, .dec true] ?_ ?_
        · apply prop_of ?_ hq
          kernel_rfl
        refine XS.then ?_
        refine TS.ret ?_
        obtain rfl : (decide ((((s.getD 1 0).toNat : Nat) : Int) ≥ (6 : Int))) = r := Option.some.inj h
        exact XS.fin [] ((True) ∧ (True)) (by kernel_rfl) ⟨trivial, trivial⟩
      · have hq : (True) ∧ ((True) ∧ ((True) ∧ (((True) ∧ (decide (((s.length : Nat) : Int) ≥ (2 : Int))) = true) ∧ ((True) ∧ ((True) ∧ ((True) ∧ ((True) ∧ (((True) ∧ (decide (((s.length : Nat) : Int) ≤ (32 : Int))) = true) ∧ ((True) ∧ ((inR (0 : Int) s.length) ∧ ((True) ∧ ((True) ∧ ((True) ∧ ((True) ∧ ((True) ∧ (((True) ∧ ((IntKind.wrap .i64 ((((s.getD 0 0).toNat : Nat) : Int))) == ((s.length : Nat) : Int)) = false) ∧ ((True) ∧ ((True) ∧ (True))))))))))))))))))) := ⟨trivial, ⟨trivial, ⟨trivial, ⟨⟨trivial, c1⟩, ⟨trivial, ⟨trivial, ⟨trivial, ⟨trivial, ⟨⟨trivial, c3⟩, ⟨trivial, ⟨inb_ok t5, ⟨trivial, ⟨trivial, ⟨trivial, ⟨trivial, ⟨trivial, ⟨⟨trivial, c7⟩, ⟨trivial, ⟨trivial, trivial⟩⟩⟩⟩⟩⟩⟩⟩⟩⟩⟩⟩⟩⟩⟩⟩⟩⟩⟩
        refine TS.reg [.none, .none, .none, .dec true, .none, .none, .none, .none, .dec true, .none, .none, .none, .none, .none, .none, .none, .dec false] ?_ ?_
        · apply prop_of ?_ hq
          kernel_rfl
        refine XS.then ?_
        refine TS.ret ?_
        obtain rfl : false = r := Option.some.inj h
        exact XS.fin [] ((True) ∧ (True)) (by kernel_rfl) ⟨trivial, trivial⟩
    · have hq : (True) ∧ ((True) ∧ ((True) ∧ (((True) ∧ (decide (((s.length : Nat) : Int) ≥ (2 : Int))) = true) ∧ ((True) ∧ ((True) ∧ ((True) ∧ ((True) ∧ (((True) ∧ (decide (((s.length : Nat) : Int) ≤ (32 : Int))) = false) ∧ ((True) ∧ ((True) ∧ ((True) ∧ ((True) ∧ (True))))))))))))) := ⟨trivial, ⟨trivial, ⟨trivial, ⟨⟨trivial, c1⟩, ⟨trivial, ⟨trivial, ⟨trivial, ⟨trivial, ⟨⟨trivial, c4⟩, ⟨trivial, ⟨trivial, ⟨trivial, ⟨trivial, trivial⟩⟩⟩⟩⟩⟩⟩⟩⟩⟩⟩⟩⟩
      refine TS.reg [.none, .none, .none, .dec true, .none, .none, .none, .none, .dec false] ?_ ?_
      · apply prop_of ?_ hq
        kernel_rfl
      refine XS.then ?_
      refine TS.ret ?_
      obtain rfl : false = r := Option.some.inj h
      exact XS.fin [] ((True) ∧ (True)) (by kernel_rfl) ⟨trivial, trivial⟩
  · have hq : (True) ∧ ((True) ∧ ((True) ∧ (((True) ∧ (decide (((s.length : Nat) : Int) ≥ (2 : Int))) = false) ∧ ((True) ∧ ((True) ∧ ((True) ∧ ((True) ∧ ((True) ∧ ((True) ∧ (True)))))))))) := ⟨trivial, ⟨trivial, ⟨trivial, ⟨⟨trivial, c2⟩, ⟨trivial, ⟨trivial, ⟨trivial, ⟨trivial, ⟨trivial, ⟨trivial, trivial⟩⟩⟩⟩⟩⟩⟩⟩⟩⟩
    refine TS.reg [.none, .none, .none, .dec false] ?_ ?_
    · apply prop_of ?_ hq
      kernel_rfl
    refine XS.then ?_
    refine TS.ret ?_
    obtain rfl : false = r := Option.some.inj h
    exact XS.fin [] ((True) ∧ (True)) (by kernel_rfl) ⟨trivial, trivial⟩

/-! strings.Join -/
def F19 (n : Nat) (elems : List (List UInt8)) (sep : List UInt8) : Option (List UInt8) := bif decide ((Lib.join elems sep).length ≤ 140737488355328 ∧ elems.length ≤ 140737488355328) then some (Lib.join elems sep) else none
theorem F19_ok (n : Nat) (elems : List (List UInt8)) (sep : List UInt8) (r : List UInt8) (h : F19 n elems sep = some r) : PureC Try.prog 19 [(.sl .str elems), (.str sep)] (.str r) [] := by
  unfold F19 at h
  obtain ⟨c, h⟩ := test_some h
  obtain rfl := Option.some.inj h
  exact PureC.join elems sep (of_decide_eq_true c) Try.strings_Join_none Try.strings_Join

/-! plugtree/desc.WriteConfig -/
def F7_j177 (n : Nat) (k7_176 : ((List UInt8) × Int) → Option ((List UInt8) × Int)) (c_Faces : List (Int × Int × Int × Int × (List (List UInt8)) × List (Int × Bool × Int × Int × Int))) (x_2 : Int) (rest_2 : List UInt8) (x_4 : Int) : Int → Option ((List UInt8) × Int)
  | addr => ((F18 n ([(7 : Int), (5 : Int), addr, (((c_Faces.getD x_2.toNat ((0 : Int), ((0 : Int), ((0 : Int), ((0 : Int), (([] : List (List UInt8)), ([] : List (Int × Bool × Int × Int × Int)))))))).2.2.2.2.2).getD x_4.toNat ((0 : Int), (false, ((0 : Int), ((0 : Int), (0 : Int)))))).2.2.1])).bind fun y_5 => ((F20 n ((((c_Faces.getD x_2.toNat ((0 : Int), ((0 : Int), ((0 : Int), ((0 : Int), (([] : List (List UInt8)), ([] : List (Int × Bool × Int × Int × Int)))))))).2.2.2.2.2).getD x_4.toNat ((0 : Int), (false, ((0 : Int), ((0 : Int), (0 : Int)))))).2.2.2.1)).bind fun y_6 => (bif (decide (y_5.length + y_6.length ≤ 9223372036854775807)) then ((F18 n ([(((c_Faces.getD x_2.toNat ((0 : Int), ((0 : Int), ((0 : Int), ((0 : Int), (([] : List (List UInt8)), ([] : List (Int × Bool × Int × Int × Int)))))))).2.2.2.2.2).getD x_4.toNat ((0 : Int), (false, ((0 : Int), ((0 : Int), (0 : Int)))))).2.2.2.2])).bind fun y_7 => (bif (decide ((y_5 ++ y_6).length + y_7.length ≤ 9223372036854775807)) then (bif (decide (rest_2.length + ((y_5 ++ y_6) ++ y_7).length ≤ 9223372036854775807)) then (k7_176 ((rest_2 ++ ((y_5 ++ y_6) ++ y_7)), (IntKind.wrap .i64 (x_4 + (1 : Int))))) else none) else none)) else none)))
def F7_l176 (n : Nat) (k7_159 : ((List UInt8) × Int × (List ((Int × Bool) × Bool))) → Option ((List UInt8) × Int)) (c_Faces : List (Int × Int × Int × Int × (List (List UInt8)) × List (Int × Bool × Int × Int × Int))) (x_2 : Int) (m1_2 : List ((Int × Bool) × Bool)) (k7_176 : ((List UInt8) × Int) → Option ((List UInt8) × Int)) : ((List UInt8) × Int) → Option ((List UInt8) × Int)
  | (rest_2, x_4) => (bif (decide (x_4 < ((((c_Faces.getD x_2.toNat ((0 : Int), ((0 : Int), ((0 : Int), ((0 : Int), (([] : List (List UInt8)), ([] : List (Int × Bool × Int × Int × Int)))))))).2.2.2.2.2).length : Nat) : Int))) then (bif inb x_4 (((c_Faces.getD x_2.toNat ((0 : Int), ((0 : Int), ((0 : Int), ((0 : Int), (([] : List (List UInt8)), ([] : List (Int × Bool × Int × Int × Int)))))))).2.2.2.2.2).length) then (bif (((c_Faces.getD x_2.toNat ((0 : Int), ((0 : Int), ((0 : Int), ((0 : Int), (([] : List (List UInt8)), ([] : List (Int × Bool × Int × Int × Int)))))))).2.2.2.2.2).getD x_4.toNat ((0 : Int), (false, ((0 : Int), ((0 : Int), (0 : Int)))))).2.1 then (F7_j177 n k7_176 c_Faces x_2 rest_2 x_4 (IntKind.wrap .i64 ((((c_Faces.getD x_2.toNat ((0 : Int), ((0 : Int), ((0 : Int), ((0 : Int), (([] : List (List UInt8)), ([] : List (Int × Bool × Int × Int × Int)))))))).2.2.2.2.2).getD x_4.toNat ((0 : Int), (false, ((0 : Int), ((0 : Int), (0 : Int)))))).1 + (128 : Int)))) else (F7_j177 n k7_176 c_Faces x_2 rest_2 x_4 (((c_Faces.getD x_2.toNat ((0 : Int), ((0 : Int), ((0 : Int), ((0 : Int), (([] : List (List UInt8)), ([] : List (Int × Bool × Int × Int × Int)))))))).2.2.2.2.2).getD x_4.toNat ((0 : Int), (false, ((0 : Int), ((0 : Int), (0 : Int)))))).1)) else none) else (k7_159 (rest_2, (IntKind.wrap .i64 (x_2 + (1 : Int))), m1_2)))
def F7_j173 (n : Nat) (k7_159 : ((List UInt8) × Int × (List ((Int × Bool) × Bool))) → Option ((List UInt8) × Int)) (c_Faces : List (Int × Int × Int × Int × (List (List UInt8)) × List (Int × Bool × Int × Int × Int))) (rest : List UInt8) (x_2 : Int) : (Int × (List ((Int × Bool) × Bool))) → Option ((List UInt8) × Int)
  | (x_3, m1_2) => (bif (x_3 != (0 : Int)) then (some (([] : List UInt8), x_3)) else ((F18 n ([(9 : Int), (4 : Int), x_2, (0 : Int), ((((c_Faces.getD x_2.toNat ((0 : Int), ((0 : Int), ((0 : Int), ((0 : Int), (([] : List (List UInt8)), ([] : List (Int × Bool × Int × Int × Int)))))))).2.2.2.2.2).length : Nat) : Int), (c_Faces.getD x_2.toNat ((0 : Int), ((0 : Int), ((0 : Int), ((0 : Int), (([] : List (List UInt8)), ([] : List (Int × Bool × Int × Int × Int)))))))).1, (c_Faces.getD x_2.toNat ((0 : Int), ((0 : Int), ((0 : Int), ((0 : Int), (([] : List (List UInt8)), ([] : List (Int × Bool × Int × Int × Int)))))))).2.1, (c_Faces.getD x_2.toNat ((0 : Int), ((0 : Int), ((0 : Int), ((0 : Int), (([] : List (List UInt8)), ([] : List (Int × Bool × Int × Int × Int)))))))).2.2.1, (c_Faces.getD x_2.toNat ((0 : Int), ((0 : Int), ((0 : Int), ((0 : Int), (([] : List (List UInt8)), ([] : List (Int × Bool × Int × Int × Int)))))))).2.2.2.1])).bind fun y_3 => ((F19 n ((c_Faces.getD x_2.toNat ((0 : Int), ((0 : Int), ((0 : Int), ((0 : Int), (([] : List (List UInt8)), ([] : List (Int × Bool × Int × Int × Int)))))))).2.2.2.2.1) ([] : List UInt8)).bind fun y_4 => (bif (decide (y_3.length + y_4.length ≤ 9223372036854775807)) then (bif (decide (rest.length + (y_3 ++ y_4).length ≤ 9223372036854775807)) then (loopF (F7_l176 n k7_159 c_Faces x_2 m1_2) n ((rest ++ (y_3 ++ y_4)), (0 : Int))) else none) else none))))
def F7_j190 (n : Nat) (k7_159 : ((List UInt8) × Int × (List ((Int × Bool) × Bool))) → Option ((List UInt8) × Int)) (k7_189 : (Int × (List ((Int × Bool) × Bool))) → Option ((List UInt8) × Int)) (c_Faces : List (Int × Int × Int × Int × (List (List UInt8)) × List (Int × Bool × Int × Int × Int))) (rest : List UInt8) (x_2 : Int) (x_6 : Int) (m2 : List ((Int × Bool) × Bool)) : Bool → Option ((List UInt8) × Int)
  | x_7 => (bif x_7 then (F7_j173 n k7_159 c_Faces rest x_2 ((1 : Int), m2)) else (bif ((mapGet (.st (.pair (.int .i64) .bool)) .bool ((((c_Faces.getD x_2.toNat ((0 : Int), ((0 : Int), ((0 : Int), ((0 : Int), (([] : List (List UInt8)), ([] : List (Int × Bool × Int × Int × Int)))))))).2.2.2.2.2).getD x_6.toNat ((0 : Int), (false, ((0 : Int), ((0 : Int), (0 : Int)))))).1, (((c_Faces.getD x_2.toNat ((0 : Int), ((0 : Int), ((0 : Int), ((0 : Int), (([] : List (List UInt8)), ([] : List (Int × Bool × Int × Int × Int)))))))).2.2.2.2.2).getD x_6.toNat ((0 : Int), (false, ((0 : Int), ((0 : Int), (0 : Int)))))).2.1) m2).getD false) then (F7_j173 n k7_159 c_Faces rest x_2 ((13 : Int), m2)) else (k7_189 ((IntKind.wrap .i64 (x_6 + (1 : Int))), (mapPut (.st (.pair (.int .i64) .bool)) .bool ((((c_Faces.getD x_2.toNat ((0 : Int), ((0 : Int), ((0 : Int), ((0 : Int), (([] : List (List UInt8)), ([] : List (Int × Bool × Int × Int × Int)))))))).2.2.2.2.2).getD x_6.toNat ((0 : Int), (false, ((0 : Int), ((0 : Int), (0 : Int)))))).1, (((c_Faces.getD x_2.toNat ((0 : Int), ((0 : Int), ((0 : Int), ((0 : Int), (([] : List (List UInt8)), ([] : List (Int × Bool × Int × Int × Int)))))))).2.2.2.2.2).getD x_6.toNat ((0 : Int), (false, ((0 : Int), ((0 : Int), (0 : Int)))))).2.1) true m2)))))
def F7_l189 (n : Nat) (k7_159 : ((List UInt8) × Int × (List ((Int × Bool) × Bool))) → Option ((List UInt8) × Int)) (c_Faces : List (Int × Int × Int × Int × (List (List UInt8)) × List (Int × Bool × Int × Int × Int))) (rest : List UInt8) (x_2 : Int) (k7_189 : (Int × (List ((Int × Bool) × Bool))) → Option ((List UInt8) × Int)) : (Int × (List ((Int × Bool) × Bool))) → Option ((List UInt8) × Int)
  | (x_6, m2) => (bif (decide (x_6 < ((((c_Faces.getD x_2.toNat ((0 : Int), ((0 : Int), ((0 : Int), ((0 : Int), (([] : List (List UInt8)), ([] : List (Int × Bool × Int × Int × Int)))))))).2.2.2.2.2).length : Nat) : Int))) then (bif inb x_6 (((c_Faces.getD x_2.toNat ((0 : Int), ((0 : Int), ((0 : Int), ((0 : Int), (([] : List (List UInt8)), ([] : List (Int × Bool × Int × Int × Int)))))))).2.2.2.2.2).length) then (bif (decide ((((c_Faces.getD x_2.toNat ((0 : Int), ((0 : Int), ((0 : Int), ((0 : Int), (([] : List (List UInt8)), ([] : List (Int × Bool × Int × Int × Int)))))))).2.2.2.2.2).getD x_6.toNat ((0 : Int), (false, ((0 : Int), ((0 : Int), (0 : Int)))))).1 < (1 : Int))) then (F7_j190 n k7_159 k7_189 c_Faces rest x_2 x_6 m2 true) else (bif (decide ((((c_Faces.getD x_2.toNat ((0 : Int), ((0 : Int), ((0 : Int), ((0 : Int), (([] : List (List UInt8)), ([] : List (Int × Bool × Int × Int × Int)))))))).2.2.2.2.2).getD x_6.toNat ((0 : Int), (false, ((0 : Int), ((0 : Int), (0 : Int)))))).1 > (15 : Int))) then (F7_j190 n k7_159 k7_189 c_Faces rest x_2 x_6 m2 true) else ((F44 n (3 : Int) ([(((c_Faces.getD x_2.toNat ((0 : Int), ((0 : Int), ((0 : Int), ((0 : Int), (([] : List (List UInt8)), ([] : List (Int × Bool × Int × Int × Int)))))))).2.2.2.2.2).getD x_6.toNat ((0 : Int), (false, ((0 : Int), ((0 : Int), (0 : Int)))))).2.2.1])).bind fun y_10 => (bif (!y_10) then (F7_j190 n k7_159 k7_189 c_Faces rest x_2 x_6 m2 true) else (bif (decide ((((c_Faces.getD x_2.toNat ((0 : Int), ((0 : Int), ((0 : Int), ((0 : Int), (([] : List (List UInt8)), ([] : List (Int × Bool × Int × Int × Int)))))))).2.2.2.2.2).getD x_6.toNat ((0 : Int), (false, ((0 : Int), ((0 : Int), (0 : Int)))))).2.2.2.1 < (1 : Int))) then (F7_j190 n k7_159 k7_189 c_Faces rest x_2 x_6 m2 true) else (bif (decide ((((c_Faces.getD x_2.toNat ((0 : Int), ((0 : Int), ((0 : Int), ((0 : Int), (([] : List (List UInt8)), ([] : List (Int × Bool × Int × Int × Int)))))))).2.2.2.2.2).getD x_6.toNat ((0 : Int), (false, ((0 : Int), ((0 : Int), (0 : Int)))))).2.2.2.1 > (64 : Int))) then (F7_j190 n k7_159 k7_189 c_Faces rest x_2 x_6 m2 true) else ((F16 n ([(((c_Faces.getD x_2.toNat ((0 : Int), ((0 : Int), ((0 : Int), ((0 : Int), (([] : List (List UInt8)), ([] : List (Int × Bool × Int × Int × Int)))))))).2.2.2.2.2).getD x_6.toNat ((0 : Int), (false, ((0 : Int), ((0 : Int), (0 : Int)))))).2.2.2.2])).bind fun y_11 => (F7_j190 n k7_159 k7_189 c_Faces rest x_2 x_6 m2 (!y_11))))))))) else none) else (F7_j173 n k7_159 c_Faces rest x_2 ((0 : Int), m2)))
def F7_l186 (n : Nat) (k7_159 : ((List UInt8) × Int × (List ((Int × Bool) × Bool))) → Option ((List UInt8) × Int)) (c_Faces : List (Int × Int × Int × Int × (List (List UInt8)) × List (Int × Bool × Int × Int × Int))) (rest : List UInt8) (x_2 : Int) (m1 : List ((Int × Bool) × Bool)) (k7_186 : Int → Option ((List UInt8) × Int)) : Int → Option ((List UInt8) × Int)
  | x_5 => (bif (decide (x_5 < ((((c_Faces.getD x_2.toNat ((0 : Int), ((0 : Int), ((0 : Int), ((0 : Int), (([] : List (List UInt8)), ([] : List (Int × Bool × Int × Int × Int)))))))).2.2.2.2.1).length : Nat) : Int))) then (bif inb x_5 (((c_Faces.getD x_2.toNat ((0 : Int), ((0 : Int), ((0 : Int), ((0 : Int), (([] : List (List UInt8)), ([] : List (Int × Bool × Int × Int × Int)))))))).2.2.2.2.1).length) then ((F45 n (((c_Faces.getD x_2.toNat ((0 : Int), ((0 : Int), ((0 : Int), ((0 : Int), (([] : List (List UInt8)), ([] : List (Int × Bool × Int × Int × Int)))))))).2.2.2.2.1).getD x_5.toNat ([] : List UInt8))).bind fun y_9 => (bif (!y_9) then (F7_j173 n k7_159 c_Faces rest x_2 ((1 : Int), m1)) else (k7_186 (IntKind.wrap .i64 (x_5 + (1 : Int)))))) else none) else (bif (decide (((((c_Faces.getD x_2.toNat ((0 : Int), ((0 : Int), ((0 : Int), ((0 : Int), (([] : List (List UInt8)), ([] : List (Int × Bool × Int × Int × Int)))))))).2.2.2.2.2).length : Nat) : Int) > (4 : Int))) then (F7_j173 n k7_159 c_Faces rest x_2 ((2 : Int), m1)) else (loopF (F7_l189 n k7_159 c_Faces rest x_2) n ((0 : Int), m1))))
def F7_l159 (n : Nat) (c_Value : Int) (c_Name : Int) (c_Attr : Int) (c_Power : Int) (c_Faces : List (Int × Int × Int × Int × (List (List UInt8)) × List (Int × Bool × Int × Int × Int))) (k7_159 : ((List UInt8) × Int × (List ((Int × Bool) × Bool))) → Option ((List UInt8) × Int)) : ((List UInt8) × Int × (List ((Int × Bool) × Bool))) → Option ((List UInt8) × Int)
  | (rest, x_2, m1) => (bif (decide (x_2 < ((c_Faces.length : Nat) : Int))) then (bif inb x_2 c_Faces.length then ((F16 n ([(c_Faces.getD x_2.toNat ((0 : Int), ((0 : Int), ((0 : Int), ((0 : Int), (([] : List (List UInt8)), ([] : List (Int × Bool × Int × Int × Int)))))))).1, (c_Faces.getD x_2.toNat ((0 : Int), ((0 : Int), ((0 : Int), ((0 : Int), (([] : List (List UInt8)), ([] : List (Int × Bool × Int × Int × Int)))))))).2.1, (c_Faces.getD x_2.toNat ((0 : Int), ((0 : Int), ((0 : Int), ((0 : Int), (([] : List (List UInt8)), ([] : List (Int × Bool × Int × Int × Int)))))))).2.2.1, (c_Faces.getD x_2.toNat ((0 : Int), ((0 : Int), ((0 : Int), ((0 : Int), (([] : List (List UInt8)), ([] : List (Int × Bool × Int × Int × Int)))))))).2.2.2.1])).bind fun y_8 => (bif (!y_8) then (F7_j173 n k7_159 c_Faces rest x_2 ((1 : Int), m1)) else (bif (decide (((((c_Faces.getD x_2.toNat ((0 : Int), ((0 : Int), ((0 : Int), ((0 : Int), (([] : List (List UInt8)), ([] : List (Int × Bool × Int × Int × Int)))))))).2.2.2.2.1).length : Nat) : Int) > (2 : Int))) then (F7_j173 n k7_159 c_Faces rest x_2 ((2 : Int), m1)) else (loopF (F7_l186 n k7_159 c_Faces rest x_2 m1) n (0 : Int))))) else none) else ((F18 n [(9 : Int), (2 : Int)]).bind fun y_12 => ((F20 n (IntKind.wrap .i64 ((9 : Int) + ((rest.length : Nat) : Int)))).bind fun y_13 => (bif (decide (y_12.length + y_13.length ≤ 9223372036854775807)) then ((F18 n [((c_Faces.length : Nat) : Int), c_Value, c_Name, c_Attr, c_Power]).bind fun y_14 => (bif (decide ((y_12 ++ y_13).length + y_14.length ≤ 9223372036854775807)) then (bif (decide (((y_12 ++ y_13) ++ y_14).length + rest.length ≤ 9223372036854775807)) then (some ((((y_12 ++ y_13) ++ y_14) ++ rest), (0 : Int))) else none) else none)) else none))))
def F7_j96 (n : Nat) (c_Value : Int) (c_Name : Int) (c_Attr : Int) (c_Power : Int) (c_Faces : List (Int × Int × Int × Int × (List (List UInt8)) × List (Int × Bool × Int × Int × Int))) : Bool → Option ((List UInt8) × Int)
  | x => (bif x then (some (([] : List UInt8), (1 : Int))) else (bif (decide (((c_Faces.length : Nat) : Int) > (4 : Int))) then (some (([] : List UInt8), (2 : Int))) else (loopF (F7_l159 n c_Value c_Name c_Attr c_Power c_Faces) n (([] : List UInt8), (0 : Int), ([] : List ((Int × Bool) × Bool))))))
def F7 (n : Nat) (c_Value : Int) (c_Name : Int) (c_Attr : Int) (c_Power : Int) (c_Faces : List (Int × Int × Int × Int × (List (List UInt8)) × List (Int × Bool × Int × Int × Int))) : Option ((List UInt8) × Int) := (bif (decide (c_Value < (1 : Int))) then (F7_j96 n c_Value c_Name c_Attr c_Power c_Faces true) else (bif (decide (c_Value > (255 : Int))) then (F7_j96 n c_Value c_Name c_Attr c_Power c_Faces true) else ((F16 n [c_Name, c_Attr, c_Power]).bind fun y_15 => (F7_j96 n c_Value c_Name c_Attr c_Power c_Faces (!y_15)))))
theorem F7_ok (n : Nat) (c_Value : Int) (c_Name : Int) (c_Attr : Int) (c_Power : Int) (c_Faces : List (Int × Int × Int × Int × (List (List UInt8)) × List (Int × Bool × Int × Int × Int))) (r : (List UInt8) × Int) (h : F7 n c_Value c_Name c_Attr c_Power c_Faces = some r) : PureC Try.prog 7 [(.st (.cons (.int .i64 c_Value) (.cons (.int .i64 c_Name) (.cons (.int .i64 c_Attr) (.cons (.int .i64 c_Power) (.sl (.st (.pair (.int .i64) (.pair (.int .i64) (.pair (.int .i64) (.pair (.int .i64) (.pair (.sl .str) (.sl (.st (.pair (.int .i64) (.pair .bool (.pair (.int .i64) (.pair (.int .i64) (.int .i64))))))))))))) c_Faces))))))] (.tup (.cons (.str r.1) (.cons (.int .i64 r.2) .nil))) [] := by
  refine PureC.mkS Try.func7 rfl rfl ?_
  intro w0 fz0 hfz
  replace h : (bif (decide (c_Value < (1 : Int))) then (F7_j96 n c_Value c_Name c_Attr c_Power c_Faces true) else (bif (decide (c_Value > (255 : Int))) then (F7_j96 n c_Value c_Name c_Attr c_Power c_Faces true) else ((F16 n [c_Name, c_Attr, c_Power]).bind fun y_15 => (F7_j96 n c_Value c_Name c_Attr c_Power c_Faces (!y_15))))) = some r := h
  refine TS.seq ?_
  have hq : (True) ∧ ((True) ∧ ((True) ∧ (True))) := ⟨trivial, ⟨trivial, ⟨trivial, trivial⟩⟩⟩
  refine TS.reg [] ?_ ?_
  · apply prop_of ?_ hq
    kernel_rfl
  refine XS.then ?_
  refine TS.seq ?_
  refine TS.block ?_
  refine TS.seq ?_
  refine TS.cut (D := Bool) (fun d => match d with | x => (mkTs 126 [(1, (.ptr 0 [])), (12, (.bool x))], [(.box 24 (.st (.cons (.int .i64 c_Value) (.cons (.int .i64 c_Name) (.cons (.int .i64 c_Attr) (.cons (.int .i64 c_Power) (.sl (.st (.pair (.int .i64) (.pair (.int .i64) (.pair (.int .i64) (.pair (.int .i64) (.pair (.sl .str) (.sl (.st (.pair (.int .i64) (.pair .bool (.pair (.int .i64) (.pair (.int .i64) (.int .i64))))))))))))) c_Faces)))))))])) (fun d => F7_j96 n c_Value c_Name c_Attr c_Power c_Faces d = some r) ?_ ?_
  · rintro x h
    replace h : (bif x then (some (([] : List UInt8), (1 : Int))) else (bif (decide (((c_Faces.length : Nat) : Int) > (4 : Int))) then (some (([] : List UInt8), (2 : Int))) else (loopF (F7_l159 n c_Value c_Name c_Attr c_Power c_Faces) n (([] : List UInt8), (0 : Int), ([] : List ((Int × Bool) × Bool)))))) = some r := h
    refine XS.then ?_
    rcases bif_some h with ⟨c1, h⟩ | ⟨c2, h⟩
    · refine TS.cond x ?_ (fun hcz => ?_) (fun hcz => by rw [c1] at hcz; cases hcz)
      · kernel_rfl
      refine TS.seq ?_
      have hq : (True) ∧ ((True) ∧ (True)) := ⟨trivial, ⟨trivial, trivial⟩⟩
      refine TS.reg [] ?_ ?_
      · apply prop_of ?_ hq
        kernel_rfl
      refine XS.then ?_
      refine TS.ret ?_
      refine XS.blockRet ?_
      refine XS.passR ?_
      obtain rfl : (([] : List UInt8), (1 : Int)) = r := Option.some.inj h
      exact XS.fin [] ((True) ∧ ((True) ∧ (True))) (by kernel_rfl) ⟨trivial, ⟨trivial, trivial⟩⟩
    · refine TS.cond x ?_ (fun hcz => by rw [c2] at hcz; cases hcz) (fun hcz => ?_)
      · kernel_rfl
      refine TS.seq ?_
      have hq : (True) ∧ ((True) ∧ ((True) ∧ ((True) ∧ ((True) ∧ (True))))) := ⟨trivial, ⟨trivial, ⟨trivial, ⟨trivial, ⟨trivial, trivial⟩⟩⟩⟩⟩
      refine TS.reg [] ?_ ?_
      · apply prop_of ?_ hq
        kernel_rfl
      refine XS.then ?_
      rcases bif_some h with ⟨c3, h⟩ | ⟨c4, h⟩
      · refine TS.cond (decide (((c_Faces.length : Nat) : Int) > (4 : Int))) ?_ (fun hcz => ?_) (fun hcz => by rw [c3] at hcz; cases hcz)
        · kernel_rfl
        refine TS.seq ?_
        have hq : (True) ∧ ((True) ∧ (True)) := ⟨trivial, ⟨trivial, trivial⟩⟩
        refine TS.reg [] ?_ ?_
        · apply prop_of ?_ hq
          kernel_rfl
        refine XS.then ?_
        refine TS.ret ?_
        refine XS.blockRet ?_
        refine XS.passR ?_
        obtain rfl : (([] : List UInt8), (2 : Int)) = r := Option.some.inj h
        exact XS.fin [] ((True) ∧ ((True) ∧ (True))) (by kernel_rfl) ⟨trivial, ⟨trivial, trivial⟩⟩
      · refine TS.cond (decide (((c_Faces.length : Nat) : Int) > (4 : Int))) ?_ (fun hcz => by rw [c4] at hcz; cases hcz) (fun hcz => ?_)
        · kernel_rfl
        refine TS.skip ?_
        refine XS.blockEnd ?_
        refine XS.then ?_
        refine TS.seq ?_
        have hq : (True) ∧ ((True) ∧ (True)) := ⟨trivial, ⟨trivial, trivial⟩⟩
        refine TS.reg [] ?_ ?_
        · apply prop_of ?_ hq
          kernel_rfl
        refine XS.then ?_
        refine TS.seq ?_
        have hq : (True) ∧ (True) := ⟨trivial, trivial⟩
        refine TS.reg [] ?_ ?_
        · apply prop_of ?_ hq
          kernel_rfl
        refine XS.then ?_
        refine TS.seq ?_
        refine TS.seq ?_
        have hq : (True) ∧ ((True) ∧ ((True) ∧ ((True) ∧ (True)))) := ⟨trivial, ⟨trivial, ⟨trivial, ⟨trivial, trivial⟩⟩⟩⟩
        refine TS.reg [] ?_ ?_
        · apply prop_of ?_ hq
          kernel_rfl
        refine XS.then ?_
        refine TS.block ?_
        refine TS.reLoop [0, 1] (mkMask 126 [1, 4, 5, 39, 40, 41]) (D := (List UInt8) × Int × (List ((Int × Bool) × Bool))) (fun d => match d with | (rest, x_2, m1) => (mkTs 126 [(1, (.ptr 0 [])), (4, (.mp 1)), (5, (.str rest)), (39, (.sl (.st (.pair (.int .i64) (.pair (.int .i64) (.pair (.int .i64) (.pair (.int .i64) (.pair (.sl .str) (.sl (.st (.pair (.int .i64) (.pair .bool (.pair (.int .i64) (.pair (.int .i64) (.int .i64))))))))))))) c_Faces)), (40, (.int .i64 ((c_Faces.length : Nat) : Int))), (41, (.int .i64 x_2))], [(.box 24 (.st (.cons (.int .i64 c_Value) (.cons (.int .i64 c_Name) (.cons (.int .i64 c_Attr) (.cons (.int .i64 c_Power) (.sl (.st (.pair (.int .i64) (.pair (.int .i64) (.pair (.int .i64) (.pair (.int .i64) (.pair (.sl .str) (.sl (.st (.pair (.int .i64) (.pair .bool (.pair (.int .i64) (.pair (.int .i64) (.int .i64))))))))))))) c_Faces))))))), (.map 46 (.st (.pair (.int .i64) .bool)) .bool m1)])) (fun n' d => loopF (F7_l159 n c_Value c_Name c_Attr c_Power c_Faces) n' d = some r) n (([] : List UInt8), (0 : Int), ([] : List ((Int × Bool) × Bool))) h ?_ (fun d => loopF_zero _ d r) ?_
        · kernel_rfl
        · rintro n159 ⟨rest, x_2, m1⟩ h
          replace h : (bif (decide (x_2 < ((c_Faces.length : Nat) : Int))) then (bif inb x_2 c_Faces.length then ((F16 n ([(c_Faces.getD x_2.toNat ((0 : Int), ((0 : Int), ((0 : Int), ((0 : Int), (([] : List (List UInt8)), ([] : List (Int × Bool × Int × Int × Int)))))))).1, (c_Faces.getD x_2.toNat ((0 : Int), ((0 : Int), ((0 : Int), ((0 : Int), (([] : List (List UInt8)), ([] : List (Int × Bool × Int × Int × Int)))))))).2.1, (c_Faces.getD x_2.toNat ((0 : Int), ((0 : Int), ((0 : Int), ((0 : Int), (([] : List (List UInt8)), ([] : List (Int × Bool × Int × Int × Int)))))))).2.2.1, (c_Faces.getD x_2.toNat ((0 : Int), ((0 : Int), ((0 : Int), ((0 : Int), (([] : List (List UInt8)), ([] : List (Int × Bool × Int × Int × Int)))))))).2.2.2.1])).bind fun y_8 => (bif (!y_8) then (F7_j173 n (loopF (F7_l159 n c_Value c_Name c_Attr c_Power c_Faces) n159) c_Faces rest x_2 ((1 : Int), m1)) else (bif (decide (((((c_Faces.getD x_2.toNat ((0 : Int), ((0 : Int), ((0 : Int), ((0 : Int), (([] : List (List UInt8)), ([] : List (Int × Bool × Int × Int × Int)))))))).2.2.2.2.1).length : Nat) : Int) > (2 : Int))) then (F7_j173 n (loopF (F7_l159 n c_Value c_Name c_Attr c_Power c_Faces) n159) c_Faces rest x_2 ((2 : Int), m1)) else (loopF (F7_l186 n (loopF (F7_l159 n c_Value c_Name c_Attr c_Power c_Faces) n159) c_Faces rest x_2 m1) n (0 : Int))))) else none) else ((F18 n [(9 : Int), (2 : Int)]).bind fun y_12 => ((F20 n (IntKind.wrap .i64 ((9 : Int) + ((rest.length : Nat) : Int)))).bind fun y_13 => (bif (decide (y_12.length + y_13.length ≤ 9223372036854775807)) then ((F18 n [((c_Faces.length : Nat) : Int), c_Value, c_Name, c_Attr, c_Power]).bind fun y_14 => (bif (decide ((y_12 ++ y_13).length + y_14.length ≤ 9223372036854775807)) then (bif (decide (((y_12 ++ y_13) ++ y_14).length + rest.length ≤ 9223372036854775807)) then (some ((((y_12 ++ y_13) ++ y_14) ++ rest), (0 : Int))) else none) else none)) else none)))) = some r := h
          refine TS.seq ?_
          have hq : (True) ∧ (True) := ⟨trivial, trivial⟩
          refine TS.reg [] ?_ ?_
          · apply prop_of ?_ hq
            kernel_rfl
          refine XS.then ?_
          refine TS.seq ?_
          rcases bif_some h with ⟨c5, h⟩ | ⟨c6, h⟩
          · refine TS.cond (decide (x_2 < ((c_Faces.length : Nat) : Int))) ?_ (fun hcz => ?_) (fun hcz => by rw [c5] at hcz; cases hcz)
            · kernel_rfl
            refine TS.skip ?_
            refine XS.then ?_
            refine TS.seq ?_
            refine TS.block ?_
            refine TS.seq ?_
            obtain ⟨t7, h⟩ := test_some h
            have hq : (True) ∧ ((inR x_2 c_Faces.length) ∧ ((True) ∧ ((True) ∧ ((True) ∧ ((True) ∧ (True)))))) := ⟨trivial, ⟨inb_ok t7, ⟨trivial, ⟨trivial, ⟨trivial, ⟨trivial, trivial⟩⟩⟩⟩⟩⟩
            refine TS.reg [] ?_ ?_
            · apply prop_of ?_ hq
              kernel_rfl
            refine XS.then ?_
            refine TS.seq ?_
            refine TS.seq ?_
            refine TS.opsOf ?_
            have hq : (True) ∧ ((True) ∧ (True)) := ⟨trivial, ⟨trivial, trivial⟩⟩
            refine TOS.run 2 [] (by kernel_rfl) ?_ ?_
            · apply prop_of ?_ hq
              kernel_rfl
            refine TOS.callJ (D := Int × (List ((Int × Bool) × Bool))) (fun d => match d with | (x_3, m1_2) => (mkTs 126 [(1, (.ptr 0 [])), (4, (.mp 1)), (5, (.str rest)), (6, (.int .i64 x_2)), (7, (.ptr 2 [])), (39, (.sl (.st (.pair (.int .i64) (.pair (.int .i64) (.pair (.int .i64) (.pair (.int .i64) (.pair (.sl .str) (.sl (.st (.pair (.int .i64) (.pair .bool (.pair (.int .i64) (.pair (.int .i64) (.int .i64))))))))))))) c_Faces)), (40, (.int .i64 ((c_Faces.length : Nat) : Int))), (41, (.int .i64 x_2)), (48, (.int .i64 x_3))], [(.box 24 (.st (.cons (.int .i64 c_Value) (.cons (.int .i64 c_Name) (.cons (.int .i64 c_Attr) (.cons (.int .i64 c_Power) (.sl (.st (.pair (.int .i64) (.pair (.int .i64) (.pair (.int .i64) (.pair (.int .i64) (.pair (.sl .str) (.sl (.st (.pair (.int .i64) (.pair .bool (.pair (.int .i64) (.pair (.int .i64) (.int .i64))))))))))))) c_Faces))))))), (.map 46 (.st (.pair (.int .i64) .bool)) .bool m1_2), (.box 49 (.st (.cons (.int .i64 (c_Faces.getD x_2.toNat ((0 : Int), ((0 : Int), ((0 : Int), ((0 : Int), (([] : List (List UInt8)), ([] : List (Int × Bool × Int × Int × Int)))))))).1) (.cons (.int .i64 (c_Faces.getD x_2.toNat ((0 : Int), ((0 : Int), ((0 : Int), ((0 : Int), (([] : List (List UInt8)), ([] : List (Int × Bool × Int × Int × Int)))))))).2.1) (.cons (.int .i64 (c_Faces.getD x_2.toNat ((0 : Int), ((0 : Int), ((0 : Int), ((0 : Int), (([] : List (List UInt8)), ([] : List (Int × Bool × Int × Int × Int)))))))).2.2.1) (.cons (.int .i64 (c_Faces.getD x_2.toNat ((0 : Int), ((0 : Int), ((0 : Int), ((0 : Int), (([] : List (List UInt8)), ([] : List (Int × Bool × Int × Int × Int)))))))).2.2.2.1) (.cons (.sl .str (c_Faces.getD x_2.toNat ((0 : Int), ((0 : Int), ((0 : Int), ((0 : Int), (([] : List (List UInt8)), ([] : List (Int × Bool × Int × Int × Int)))))))).2.2.2.2.1) (.sl (.st (.pair (.int .i64) (.pair .bool (.pair (.int .i64) (.pair (.int .i64) (.int .i64)))))) (c_Faces.getD x_2.toNat ((0 : Int), ((0 : Int), ((0 : Int), ((0 : Int), (([] : List (List UInt8)), ([] : List (Int × Bool × Int × Int × Int)))))))).2.2.2.2.2))))))))])) (fun d => F7_j173 n (loopF (F7_l159 n c_Value c_Name c_Attr c_Power c_Faces) n159) c_Faces rest x_2 d = some r) 17 (mkMask 126 [1, 4, 5, 6, 7, 39, 40, 41]) Try.func17 rfl ?_ ?_
            · rintro ⟨x_3, m1_2⟩ h
              replace h : (bif (x_3 != (0 : Int)) then (some (([] : List UInt8), x_3)) else ((F18 n ([(9 : Int), (4 : Int), x_2, (0 : Int), ((((c_Faces.getD x_2.toNat ((0 : Int), ((0 : Int), ((0 : Int), ((0 : Int), (([] : List (List UInt8)), ([] : List (Int × Bool × Int × Int × Int)))))))).2.2.2.2.2).length : Nat) : Int), (c_Faces.getD x_2.toNat ((0 : Int), ((0 : Int), ((0 : Int), ((0 : Int), (([] : List (List UInt8)), ([] : List (Int × Bool × Int × Int × Int)))))))).1, (c_Faces.getD x_2.toNat ((0 : Int), ((0 : Int), ((0 : Int), ((0 : Int), (([] : List (List UInt8)), ([] : List (Int × Bool × Int × Int × Int)))))))).2.1, (c_Faces.getD x_2.toNat ((0 : Int), ((0 : Int), ((0 : Int), ((0 : Int), (([] : List (List UInt8)), ([] : List (Int × Bool × Int × Int × Int)))))))).2.2.1, (c_Faces.getD x_2.toNat ((0 : Int), ((0 : Int), ((0 : Int), ((0 : Int), (([] : List (List UInt8)), ([] : List (Int × Bool × Int × Int × Int)))))))).2.2.2.1])).bind fun y_3 => ((F19 n ((c_Faces.getD x_2.toNat ((0 : Int), ((0 : Int), ((0 : Int), ((0 : Int), (([] : List (List UInt8)), ([] : List (Int × Bool × Int × Int × Int)))))))).2.2.2.2.1) ([] : List UInt8)).bind fun y_4 => (bif (decide (y_3.length + y_4.length ≤ 9223372036854775807)) then (bif (decide (rest.length + (y_3 ++ y_4).length ≤ 9223372036854775807)) then (loopF (F7_l176 n (loopF (F7_l159 n c_Value c_Name c_Attr c_Power c_Faces) n159) c_Faces x_2 m1_2) n ((rest ++ (y_3 ++ y_4)), (0 : Int))) else none) else none)))) = some r := h
              have hq : (True) ∧ (True) := ⟨trivial, trivial⟩
              refine TOS.run 1 [] (by kernel_rfl) ?_ ?_
              · apply prop_of ?_ hq
                kernel_rfl
              refine TOS.nil (by kernel_rfl) ?_
              refine XS.then ?_
              refine TS.seq ?_
              have hq : (True) ∧ ((True) ∧ (True)) := ⟨trivial, ⟨trivial, trivial⟩⟩
              refine TS.reg [] ?_ ?_
              · apply prop_of ?_ hq
                kernel_rfl
              refine XS.then ?_
              rcases bif_some h with ⟨c8, h⟩ | ⟨c9, h⟩
              · refine TS.cond (x_3 != (0 : Int)) ?_ (fun hcz => ?_) (fun hcz => by rw [c8] at hcz; cases hcz)
                · kernel_rfl
                refine TS.seq ?_
                have hq : (True) ∧ ((True) ∧ ((True) ∧ (True))) := ⟨trivial, ⟨trivial, ⟨trivial, trivial⟩⟩⟩
                refine TS.reg [] ?_ ?_
                · apply prop_of ?_ hq
                  kernel_rfl
                refine XS.then ?_
                refine TS.ret ?_
                refine XS.passR ?_
                refine XS.blockRet ?_
                refine XS.passR ?_
                refine XS.passR ?_
                refine XS.blockRet ?_
                refine XS.passR ?_
                obtain rfl : (([] : List UInt8), x_3) = r := Option.some.inj h
                exact XS.fin [] ((True) ∧ ((True) ∧ (True))) (by kernel_rfl) ⟨trivial, ⟨trivial, trivial⟩⟩
              · refine TS.cond (x_3 != (0 : Int)) ?_ (fun hcz => by rw [c9] at hcz; cases hcz) (fun hcz => ?_)
                · kernel_rfl
                refine TS.skip ?_
                refine XS.then ?_
                refine TS.seq ?_
                obtain ⟨y_3, hx10, h⟩ := bind_some' h
                obtain ⟨y_4, hx11, h⟩ := bind_some' h
                obtain ⟨t12, h⟩ := test_some h
                obtain ⟨t13, h⟩ := test_some h
                have hq : ((True) ∧ ((True) ∧ ((True) ∧ ((True) ∧ ((True) ∧ ((True) ∧ ((True) ∧ ((True) ∧ ((True) ∧ ((True) ∧ ((True) ∧ ((True) ∧ ((True) ∧ (((0 < 9 ∧ True) ∧ ((1 < 9 ∧ True) ∧ ((2 < 9 ∧ True) ∧ ((3 < 9 ∧ True) ∧ ((4 < 9 ∧ True) ∧ ((5 < 9 ∧ True) ∧ ((6 < 9 ∧ True) ∧ ((7 < 9 ∧ True) ∧ ((8 < 9 ∧ True) ∧ (True)))))))))) ∧ ((((True) ∧ (True)) ∧ PureC Try.prog 18 [(.sl (.int .i64) [(9 : Int), (4 : Int), x_2, (0 : Int), ((((c_Faces.getD x_2.toNat ((0 : Int), ((0 : Int), ((0 : Int), ((0 : Int), (([] : List (List UInt8)), ([] : List (Int × Bool × Int × Int × Int)))))))).2.2.2.2.2).length : Nat) : Int), (c_Faces.getD x_2.toNat ((0 : Int), ((0 : Int), ((0 : Int), ((0 : Int), (([] : List (List UInt8)), ([] : List (Int × Bool × Int × Int × Int)))))))).1, (c_Faces.getD x_2.toNat ((0 : Int), ((0 : Int), ((0 : Int), ((0 : Int), (([] : List (List UInt8)), ([] : List (Int × Bool × Int × Int × Int)))))))).2.1, (c_Faces.getD x_2.toNat ((0 : Int), ((0 : Int), ((0 : Int), ((0 : Int), (([] : List (List UInt8)), ([] : List (Int × Bool × Int × Int × Int)))))))).2.2.1, (c_Faces.getD x_2.toNat ((0 : Int), ((0 : Int), ((0 : Int), ((0 : Int), (([] : List (List UInt8)), ([] : List (Int × Bool × Int × Int × Int)))))))).2.2.2.1])] (.str y_3) []) ∧ ((True) ∧ ((True) ∧ ((PureC Try.prog 19 [(.sl .str (c_Faces.getD x_2.toNat ((0 : Int), ((0 : Int), ((0 : Int), ((0 : Int), (([] : List (List UInt8)), ([] : List (Int × Bool × Int × Int × Int)))))))).2.2.2.2.1), (.str ([] : List UInt8))] (.str y_4) []) ∧ ((y_3.length + y_4.length ≤ 9223372036854775807) ∧ ((rest.length + (y_3 ++ y_4).length ≤ 9223372036854775807) ∧ (True))))))))))))))))))))) ∧ ((True) ∧ (True)) := ⟨⟨trivial, ⟨trivial, ⟨trivial, ⟨trivial, ⟨trivial, ⟨trivial, ⟨trivial, ⟨trivial, ⟨trivial, ⟨trivial, ⟨trivial, ⟨trivial, ⟨trivial, ⟨⟨⟨by decide, trivial⟩, ⟨⟨by decide, trivial⟩, ⟨⟨by decide, trivial⟩, ⟨⟨by decide, trivial⟩, ⟨⟨by decide, trivial⟩, ⟨⟨by decide, trivial⟩, ⟨⟨by decide, trivial⟩, ⟨⟨by decide, trivial⟩, ⟨⟨by decide, trivial⟩, trivial⟩⟩⟩⟩⟩⟩⟩⟩⟩, ⟨⟨⟨trivial, trivial⟩, F18_ok n ([(9 : Int), (4 : Int), x_2, (0 : Int), ((((c_Faces.getD x_2.toNat ((0 : Int), ((0 : Int), ((0 : Int), ((0 : Int), (([] : List (List UInt8)), ([] : List (Int × Bool × Int × Int × Int)))))))).2.2.2.2.2).length : Nat) : Int), (c_Faces.getD x_2.toNat ((0 : Int), ((0 : Int), ((0 : Int), ((0 : Int), (([] : List (List UInt8)), ([] : List (Int × Bool × Int × Int × Int)))))))).1, (c_Faces.getD x_2.toNat ((0 : Int), ((0 : Int), ((0 : Int), ((0 : Int), (([] : List (List UInt8)), ([] : List (Int × Bool × Int × Int × Int)))))))).2.1, (c_Faces.getD x_2.toNat ((0 : Int), ((0 : Int), ((0 : Int), ((0 : Int), (([] : List (List UInt8)), ([] : List (Int × Bool × Int × Int × Int)))))))).2.2.1, (c_Faces.getD x_2.toNat ((0 : Int), ((0 : Int), ((0 : Int), ((0 : Int), (([] : List (List UInt8)), ([] : List (Int × Bool × Int × Int × Int)))))))).2.2.2.1]) y_3 hx10⟩, ⟨trivial, ⟨trivial, ⟨F19_ok n ((c_Faces.getD x_2.toNat ((0 : Int), ((0 : Int), ((0 : Int), ((0 : Int), (([] : List (List UInt8)), ([] : List (Int × Bool × Int × Int × Int)))))))).2.2.2.2.1) ([] : List UInt8) y_4 hx11, ⟨of_decide_eq_true t12, ⟨of_decide_eq_true t13, trivial⟩⟩⟩⟩⟩⟩⟩⟩⟩⟩⟩⟩⟩⟩⟩⟩⟩⟩⟩⟩, ⟨trivial, trivial⟩⟩
                refine TS.draw 20 [] [.none, .none, .none, .none, .none, .none, .none, .none, .none, .none, .none, .none, .none, .none, (.call (.str y_3) []), .none, .none, (.call (.str y_4) [])] (by kernel_rfl) ?_ ?_
                · apply prop_of ?_ hq
                  kernel_rfl
                refine XS.then ?_
                refine TS.seq ?_
                have hq : (True) ∧ ((True) ∧ ((True) ∧ ((True) ∧ (True)))) := ⟨trivial, ⟨trivial, ⟨trivial, ⟨trivial, trivial⟩⟩⟩⟩
                refine TS.reg [] ?_ ?_
                · apply prop_of ?_ hq
                  kernel_rfl
                refine XS.then ?_
                refine TS.block ?_
                refine TS.reLoop [0, 1] (mkMask 126 [1, 4, 5, 39, 40, 41, 73, 74, 75]) (D := (List UInt8) × Int) (fun d => match d with | (rest_2, x_4) => (mkTs 126 [(1, (.ptr 0 [])), (4, (.mp 1)), (5, (.str rest_2)), (39, (.sl (.st (.pair (.int .i64) (.pair (.int .i64) (.pair (.int .i64) (.pair (.int .i64) (.pair (.sl .str) (.sl (.st (.pair (.int .i64) (.pair .bool (.pair (.int .i64) (.pair (.int .i64) (.int .i64))))))))))))) c_Faces)), (40, (.int .i64 ((c_Faces.length : Nat) : Int))), (41, (.int .i64 x_2)), (73, (.sl (.st (.pair (.int .i64) (.pair .bool (.pair (.int .i64) (.pair (.int .i64) (.int .i64)))))) (c_Faces.getD x_2.toNat ((0 : Int), ((0 : Int), ((0 : Int), ((0 : Int), (([] : List (List UInt8)), ([] : List (Int × Bool × Int × Int × Int)))))))).2.2.2.2.2)), (74, (.int .i64 ((((c_Faces.getD x_2.toNat ((0 : Int), ((0 : Int), ((0 : Int), ((0 : Int), (([] : List (List UInt8)), ([] : List (Int × Bool × Int × Int × Int)))))))).2.2.2.2.2).length : Nat) : Int))), (75, (.int .i64 x_4))], [(.box 24 (.st (.cons (.int .i64 c_Value) (.cons (.int .i64 c_Name) (.cons (.int .i64 c_Attr) (.cons (.int .i64 c_Power) (.sl (.st (.pair (.int .i64) (.pair (.int .i64) (.pair (.int .i64) (.pair (.int .i64) (.pair (.sl .str) (.sl (.st (.pair (.int .i64) (.pair .bool (.pair (.int .i64) (.pair (.int .i64) (.int .i64))))))))))))) c_Faces))))))), (.map 46 (.st (.pair (.int .i64) .bool)) .bool m1_2)])) (fun n' d => loopF (F7_l176 n (loopF (F7_l159 n c_Value c_Name c_Attr c_Power c_Faces) n159) c_Faces x_2 m1_2) n' d = some r) n ((rest ++ (y_3 ++ y_4)), (0 : Int)) h ?_ (fun d => loopF_zero _ d r) ?_
                · kernel_rfl
                · rintro n176 ⟨rest_2, x_4⟩ h
                  replace h : (bif (decide (x_4 < ((((c_Faces.getD x_2.toNat ((0 : Int), ((0 : Int), ((0 : Int), ((0 : Int), (([] : List (List UInt8)), ([] : List (Int × Bool × Int × Int × Int)))))))).2.2.2.2.2).length : Nat) : Int))) then (bif inb x_4 (((c_Faces.getD x_2.toNat ((0 : Int), ((0 : Int), ((0 : Int), ((0 : Int), (([] : List (List UInt8)), ([] : List (Int × Bool × Int × Int × Int)))))))).2.2.2.2.2).length) then (bif (((c_Faces.getD x_2.toNat ((0 : Int), ((0 : Int), ((0 : Int), ((0 : Int), (([] : List (List UInt8)), ([] : List (Int × Bool × Int × Int × Int)))))))).2.2.2.2.2).getD x_4.toNat ((0 : Int), (false, ((0 : Int), ((0 : Int), (0 : Int)))))).2.1 then (F7_j177 n (loopF (F7_l176 n (loopF (F7_l159 n c_Value c_Name c_Attr c_Power c_Faces) n159) c_Faces x_2 m1_2) n176) c_Faces x_2 rest_2 x_4 (IntKind.wrap .i64 ((((c_Faces.getD x_2.toNat ((0 : Int), ((0 : Int), ((0 : Int), ((0 : Int), (([] : List (List UInt8)), ([] : List (Int × Bool × Int × Int × Int)))))))).2.2.2.2.2).getD x_4.toNat ((0 : Int), (false, ((0 : Int), ((0 : Int), (0 : Int)))))).1 + (128 : Int)))) else (F7_j177 n (loopF (F7_l176 n (loopF (F7_l159 n c_Value c_Name c_Attr c_Power c_Faces) n159) c_Faces x_2 m1_2) n176) c_Faces x_2 rest_2 x_4 (((c_Faces.getD x_2.toNat ((0 : Int), ((0 : Int), ((0 : Int), ((0 : Int), (([] : List (List UInt8)), ([] : List (Int × Bool × Int × Int × Int)))))))).2.2.2.2.2).getD x_4.toNat ((0 : Int), (false, ((0 : Int), ((0 : Int), (0 : Int)))))).1)) else none) else ((loopF (F7_l159 n c_Value c_Name c_Attr c_Power c_Faces) n159) (rest_2, (IntKind.wrap .i64 (x_2 + (1 : Int))), m1_2))) = some r := h
                  refine TS.seq ?_
                  have hq : (True) ∧ (True) := ⟨trivial, trivial⟩
                  refine TS.reg [] ?_ ?_
                  · apply prop_of ?_ hq
                    kernel_rfl
                  refine XS.then ?_
                  refine TS.seq ?_
                  rcases bif_some h with ⟨c14, h⟩ | ⟨c15, h⟩
                  · refine TS.cond (decide (x_4 < ((((c_Faces.getD x_2.toNat ((0 : Int), ((0 : Int), ((0 : Int), ((0 : Int), (([] : List (List UInt8)), ([] : List (Int × Bool × Int × Int × Int)))))))).2.2.2.2.2).length : Nat) : Int))) ?_ (fun hcz => ?_) (fun hcz => by rw [c14] at hcz; cases hcz)
                    · kernel_rfl
                    refine TS.skip ?_
                    refine XS.then ?_
                    refine TS.seq ?_
                    refine TS.block ?_
                    refine TS.seq ?_
                    obtain ⟨t16, h⟩ := test_some h
                    have hq : (inR x_4 (((c_Faces.getD x_2.toNat ((0 : Int), ((0 : Int), ((0 : Int), ((0 : Int), (([] : List (List UInt8)), ([] : List (Int × Bool × Int × Int × Int)))))))).2.2.2.2.2).length)) ∧ ((True) ∧ ((True) ∧ ((True) ∧ (True)))) := ⟨inb_ok t16, ⟨trivial, ⟨trivial, ⟨trivial, trivial⟩⟩⟩⟩
                    refine TS.reg [] ?_ ?_
                    · apply prop_of ?_ hq
                      kernel_rfl
                    refine XS.then ?_
                    refine TS.seq ?_
                    have hq : (True) ∧ ((True) ∧ ((True) ∧ (True))) := ⟨trivial, ⟨trivial, ⟨trivial, trivial⟩⟩⟩
                    refine TS.reg [] ?_ ?_
                    · apply prop_of ?_ hq
                      kernel_rfl
                    refine XS.then ?_
                    refine TS.seq ?_
                    refine TS.seq ?_
                    have hq : (True) ∧ ((True) ∧ (True)) := ⟨trivial, ⟨trivial, trivial⟩⟩
                    refine TS.reg [] ?_ ?_
                    · apply prop_of ?_ hq
                      kernel_rfl
                    refine XS.then ?_
                    refine TS.cut (D := Int) (fun d => match d with | addr => (mkTs 126 [(1, (.ptr 0 [])), (4, (.mp 1)), (5, (.str rest_2)), (10, (.ptr 2 [])), (11, (.int .i64 addr)), (39, (.sl (.st (.pair (.int .i64) (.pair (.int .i64) (.pair (.int .i64) (.pair (.int .i64) (.pair (.sl .str) (.sl (.st (.pair (.int .i64) (.pair .bool (.pair (.int .i64) (.pair (.int .i64) (.int .i64))))))))))))) c_Faces)), (40, (.int .i64 ((c_Faces.length : Nat) : Int))), (41, (.int .i64 x_2)), (73, (.sl (.st (.pair (.int .i64) (.pair .bool (.pair (.int .i64) (.pair (.int .i64) (.int .i64)))))) (c_Faces.getD x_2.toNat ((0 : Int), ((0 : Int), ((0 : Int), ((0 : Int), (([] : List (List UInt8)), ([] : List (Int × Bool × Int × Int × Int)))))))).2.2.2.2.2)), (74, (.int .i64 ((((c_Faces.getD x_2.toNat ((0 : Int), ((0 : Int), ((0 : Int), ((0 : Int), (([] : List (List UInt8)), ([] : List (Int × Bool × Int × Int × Int)))))))).2.2.2.2.2).length : Nat) : Int))), (75, (.int .i64 x_4))], [(.box 24 (.st (.cons (.int .i64 c_Value) (.cons (.int .i64 c_Name) (.cons (.int .i64 c_Attr) (.cons (.int .i64 c_Power) (.sl (.st (.pair (.int .i64) (.pair (.int .i64) (.pair (.int .i64) (.pair (.int .i64) (.pair (.sl .str) (.sl (.st (.pair (.int .i64) (.pair .bool (.pair (.int .i64) (.pair (.int .i64) (.int .i64))))))))))))) c_Faces))))))), (.map 46 (.st (.pair (.int .i64) .bool)) .bool m1_2), (.box 54 (.st (.cons (.int .i64 (((c_Faces.getD x_2.toNat ((0 : Int), ((0 : Int), ((0 : Int), ((0 : Int), (([] : List (List UInt8)), ([] : List (Int × Bool × Int × Int × Int)))))))).2.2.2.2.2).getD x_4.toNat ((0 : Int), (false, ((0 : Int), ((0 : Int), (0 : Int)))))).1) (.cons (.bool (((c_Faces.getD x_2.toNat ((0 : Int), ((0 : Int), ((0 : Int), ((0 : Int), (([] : List (List UInt8)), ([] : List (Int × Bool × Int × Int × Int)))))))).2.2.2.2.2).getD x_4.toNat ((0 : Int), (false, ((0 : Int), ((0 : Int), (0 : Int)))))).2.1) (.cons (.int .i64 (((c_Faces.getD x_2.toNat ((0 : Int), ((0 : Int), ((0 : Int), ((0 : Int), (([] : List (List UInt8)), ([] : List (Int × Bool × Int × Int × Int)))))))).2.2.2.2.2).getD x_4.toNat ((0 : Int), (false, ((0 : Int), ((0 : Int), (0 : Int)))))).2.2.1) (.cons (.int .i64 (((c_Faces.getD x_2.toNat ((0 : Int), ((0 : Int), ((0 : Int), ((0 : Int), (([] : List (List UInt8)), ([] : List (Int × Bool × Int × Int × Int)))))))).2.2.2.2.2).getD x_4.toNat ((0 : Int), (false, ((0 : Int), ((0 : Int), (0 : Int)))))).2.2.2.1) (.int .i64 (((c_Faces.getD x_2.toNat ((0 : Int), ((0 : Int), ((0 : Int), ((0 : Int), (([] : List (List UInt8)), ([] : List (Int × Bool × Int × Int × Int)))))))).2.2.2.2.2).getD x_4.toNat ((0 : Int), (false, ((0 : Int), ((0 : Int), (0 : Int)))))).2.2.2.2)))))))])) (fun d => F7_j177 n (loopF (F7_l176 n (loopF (F7_l159 n c_Value c_Name c_Attr c_Power c_Faces) n159) c_Faces x_2 m1_2) n176) c_Faces x_2 rest_2 x_4 d = some r) ?_ ?_
                    · rintro addr h
                      replace h : ((F18 n ([(7 : Int), (5 : Int), addr, (((c_Faces.getD x_2.toNat ((0 : Int), ((0 : Int), ((0 : Int), ((0 : Int), (([] : List (List UInt8)), ([] : List (Int × Bool × Int × Int × Int)))))))).2.2.2.2.2).getD x_4.toNat ((0 : Int), (false, ((0 : Int), ((0 : Int), (0 : Int)))))).2.2.1])).bind fun y_5 => ((F20 n ((((c_Faces.getD x_2.toNat ((0 : Int), ((0 : Int), ((0 : Int), ((0 : Int), (([] : List (List UInt8)), ([] : List (Int × Bool × Int × Int × Int)))))))).2.2.2.2.2).getD x_4.toNat ((0 : Int), (false, ((0 : Int), ((0 : Int), (0 : Int)))))).2.2.2.1)).bind fun y_6 => (bif (decide (y_5.length + y_6.length ≤ 9223372036854775807)) then ((F18 n ([(((c_Faces.getD x_2.toNat ((0 : Int), ((0 : Int), ((0 : Int), ((0 : Int), (([] : List (List UInt8)), ([] : List (Int × Bool × Int × Int × Int)))))))).2.2.2.2.2).getD x_4.toNat ((0 : Int), (false, ((0 : Int), ((0 : Int), (0 : Int)))))).2.2.2.2])).bind fun y_7 => (bif (decide ((y_5 ++ y_6).length + y_7.length ≤ 9223372036854775807)) then (bif (decide (rest_2.length + ((y_5 ++ y_6) ++ y_7).length ≤ 9223372036854775807)) then ((loopF (F7_l176 n (loopF (F7_l159 n c_Value c_Name c_Attr c_Power c_Faces) n159) c_Faces x_2 m1_2) n176) ((rest_2 ++ ((y_5 ++ y_6) ++ y_7)), (IntKind.wrap .i64 (x_4 + (1 : Int))))) else none) else none)) else none))) = some r := h
                      refine XS.then ?_
                      obtain ⟨y_5, hx17, h⟩ := bind_some' h
                      obtain ⟨y_6, hx18, h⟩ := bind_some' h
                      obtain ⟨t19, h⟩ := test_some h
                      obtain ⟨y_7, hx20, h⟩ := bind_some' h
                      obtain ⟨t21, h⟩ := test_some h
                      obtain ⟨t22, h⟩ := test_some h
                      have hq : ((True) ∧ ((True) ∧ ((True) ∧ ((True) ∧ (((0 < 4 ∧ True) ∧ ((1 < 4 ∧ True) ∧ ((2 < 4 ∧ True) ∧ ((3 < 4 ∧ True) ∧ (True))))) ∧ ((((True) ∧ (True)) ∧ PureC Try.prog 18 [(.sl (.int .i64) [(7 : Int), (5 : Int), addr, (((c_Faces.getD x_2.toNat ((0 : Int), ((0 : Int), ((0 : Int), ((0 : Int), (([] : List (List UInt8)), ([] : List (Int × Bool × Int × Int × Int)))))))).2.2.2.2.2).getD x_4.toNat ((0 : Int), (false, ((0 : Int), ((0 : Int), (0 : Int)))))).2.2.1])] (.str y_5) []) ∧ ((True) ∧ ((True) ∧ ((PureC Try.prog 20 [(.int .i64 (((c_Faces.getD x_2.toNat ((0 : Int), ((0 : Int), ((0 : Int), ((0 : Int), (([] : List (List UInt8)), ([] : List (Int × Bool × Int × Int × Int)))))))).2.2.2.2.2).getD x_4.toNat ((0 : Int), (false, ((0 : Int), ((0 : Int), (0 : Int)))))).2.2.2.1)] (.str y_6) []) ∧ ((y_5.length + y_6.length ≤ 9223372036854775807) ∧ ((True) ∧ ((True) ∧ (((0 < 1 ∧ True) ∧ (True)) ∧ ((((True) ∧ (True)) ∧ PureC Try.prog 18 [(.sl (.int .i64) [(((c_Faces.getD x_2.toNat ((0 : Int), ((0 : Int), ((0 : Int), ((0 : Int), (([] : List (List UInt8)), ([] : List (Int × Bool × Int × Int × Int)))))))).2.2.2.2.2).getD x_4.toNat ((0 : Int), (false, ((0 : Int), ((0 : Int), (0 : Int)))))).2.2.2.2])] (.str y_7) []) ∧ (((y_5 ++ y_6).length + y_7.length ≤ 9223372036854775807) ∧ ((rest_2.length + ((y_5 ++ y_6) ++ y_7).length ≤ 9223372036854775807) ∧ (True))))))))))))))))) ∧ ((True) ∧ (True)) := ⟨⟨trivial, ⟨trivial, ⟨trivial, ⟨trivial, ⟨⟨⟨by decide, trivial⟩, ⟨⟨by decide, trivial⟩, ⟨⟨by decide, trivial⟩, ⟨⟨by decide, trivial⟩, trivial⟩⟩⟩⟩, ⟨⟨⟨trivial, trivial⟩, F18_ok n ([(7 : Int), (5 : Int), addr, (((c_Faces.getD x_2.toNat ((0 : Int), ((0 : Int), ((0 : Int), ((0 : Int), (([] : List (List UInt8)), ([] : List (Int × Bool × Int × Int × Int)))))))).2.2.2.2.2).getD x_4.toNat ((0 : Int), (false, ((0 : Int), ((0 : Int), (0 : Int)))))).2.2.1]) y_5 hx17⟩, ⟨trivial, ⟨trivial, ⟨F20_ok n ((((c_Faces.getD x_2.toNat ((0 : Int), ((0 : Int), ((0 : Int), ((0 : Int), (([] : List (List UInt8)), ([] : List (Int × Bool × Int × Int × Int)))))))).2.2.2.2.2).getD x_4.toNat ((0 : Int), (false, ((0 : Int), ((0 : Int), (0 : Int)))))).2.2.2.1) y_6 hx18, ⟨of_decide_eq_true t19, ⟨trivial, ⟨trivial, ⟨⟨⟨by decide, trivial⟩, trivial⟩, ⟨⟨⟨trivial, trivial⟩, F18_ok n ([(((c_Faces.getD x_2.toNat ((0 : Int), ((0 : Int), ((0 : Int), ((0 : Int), (([] : List (List UInt8)), ([] : List (Int × Bool × Int × Int × Int)))))))).2.2.2.2.2).getD x_4.toNat ((0 : Int), (false, ((0 : Int), ((0 : Int), (0 : Int)))))).2.2.2.2]) y_7 hx20⟩, ⟨of_decide_eq_true t21, ⟨of_decide_eq_true t22, trivial⟩⟩⟩⟩⟩⟩⟩⟩⟩⟩⟩⟩⟩⟩⟩⟩, ⟨trivial, trivial⟩⟩
                      refine TS.draw 16 [] [.none, .none, .none, .none, .none, (.call (.str y_5) []), .none, .none, (.call (.str y_6) []), .none, .none, .none, .none, (.call (.str y_7) [])] (by kernel_rfl) ?_ ?_
                      · apply prop_of ?_ hq
                        kernel_rfl
                      refine XS.blockEnd ?_
                      refine XS.then ?_
                      have hq : (True) ∧ ((True) ∧ (True)) := ⟨trivial, ⟨trivial, trivial⟩⟩
                      refine TS.reg [] ?_ ?_
                      · apply prop_of ?_ hq
                        kernel_rfl
                      refine XS.reAny [0, 1] (mkMask 126 [1, 4, 5, 39, 40, 41, 73, 74, 75]) ((rest_2 ++ ((y_5 ++ y_6) ++ y_7)), (IntKind.wrap .i64 (x_4 + (1 : Int)))) h ?_
                      kernel_rfl
                    · rcases bif_some h with ⟨c23, h⟩ | ⟨c24, h⟩
                      · refine TS.cond ((((c_Faces.getD x_2.toNat ((0 : Int), ((0 : Int), ((0 : Int), ((0 : Int), (([] : List (List UInt8)), ([] : List (Int × Bool × Int × Int × Int)))))))).2.2.2.2.2).getD x_4.toNat ((0 : Int), (false, ((0 : Int), ((0 : Int), (0 : Int)))))).2.1) ?_ (fun hcz => ?_) (fun hcz => by rw [c23] at hcz; cases hcz)
                        · kernel_rfl
                        have hq : (True) ∧ ((True) ∧ ((True) ∧ (True))) := ⟨trivial, ⟨trivial, ⟨trivial, trivial⟩⟩⟩
                        refine TS.reg [] ?_ ?_
                        · apply prop_of ?_ hq
                          kernel_rfl
                        refine XS.reAny [0, 1, 2] (mkMask 126 [1, 4, 5, 10, 11, 39, 40, 41, 73, 74, 75]) (IntKind.wrap .i64 ((((c_Faces.getD x_2.toNat ((0 : Int), ((0 : Int), ((0 : Int), ((0 : Int), (([] : List (List UInt8)), ([] : List (Int × Bool × Int × Int × Int)))))))).2.2.2.2.2).getD x_4.toNat ((0 : Int), (false, ((0 : Int), ((0 : Int), (0 : Int)))))).1 + (128 : Int))) h ?_
                        kernel_rfl
                      · refine TS.cond ((((c_Faces.getD x_2.toNat ((0 : Int), ((0 : Int), ((0 : Int), ((0 : Int), (([] : List (List UInt8)), ([] : List (Int × Bool × Int × Int × Int)))))))).2.2.2.2.2).getD x_4.toNat ((0 : Int), (false, ((0 : Int), ((0 : Int), (0 : Int)))))).2.1) ?_ (fun hcz => by rw [c24] at hcz; cases hcz) (fun hcz => ?_)
                        · kernel_rfl
                        refine TS.skip ?_
                        refine XS.reAny [0, 1, 2] (mkMask 126 [1, 4, 5, 10, 11, 39, 40, 41, 73, 74, 75]) (((c_Faces.getD x_2.toNat ((0 : Int), ((0 : Int), ((0 : Int), ((0 : Int), (([] : List (List UInt8)), ([] : List (Int × Bool × Int × Int × Int)))))))).2.2.2.2.2).getD x_4.toNat ((0 : Int), (false, ((0 : Int), ((0 : Int), (0 : Int)))))).1 h ?_
                        kernel_rfl
                  · refine TS.cond (decide (x_4 < ((((c_Faces.getD x_2.toNat ((0 : Int), ((0 : Int), ((0 : Int), ((0 : Int), (([] : List (List UInt8)), ([] : List (Int × Bool × Int × Int × Int)))))))).2.2.2.2.2).length : Nat) : Int))) ?_ (fun hcz => by rw [c15] at hcz; cases hcz) (fun hcz => ?_)
                    · kernel_rfl
                    refine TS.exit ?_
                    refine XS.passE ?_
                    refine XS.passE ?_
                    refine XS.out ?_
                    refine XS.blockEnd ?_
                    refine XS.then ?_
                    have hq : (True) ∧ ((True) ∧ (True)) := ⟨trivial, ⟨trivial, trivial⟩⟩
                    refine TS.reg [] ?_ ?_
                    · apply prop_of ?_ hq
                      kernel_rfl
                    refine XS.reAny [0, 1] (mkMask 126 [1, 4, 5, 39, 40, 41]) (rest_2, (IntKind.wrap .i64 (x_2 + (1 : Int))), m1_2) h ?_
                    kernel_rfl
            · intro fv6
              refine ⟨(mkTs 92 [(0, (.st (.cons (.int .i64 (c_Faces.getD x_2.toNat ((0 : Int), ((0 : Int), ((0 : Int), ((0 : Int), (([] : List (List UInt8)), ([] : List (Int × Bool × Int × Int × Int)))))))).1) (.cons (.int .i64 (c_Faces.getD x_2.toNat ((0 : Int), ((0 : Int), ((0 : Int), ((0 : Int), (([] : List (List UInt8)), ([] : List (Int × Bool × Int × Int × Int)))))))).2.1) (.cons (.int .i64 (c_Faces.getD x_2.toNat ((0 : Int), ((0 : Int), ((0 : Int), ((0 : Int), (([] : List (List UInt8)), ([] : List (Int × Bool × Int × Int × Int)))))))).2.2.1) (.cons (.int .i64 (c_Faces.getD x_2.toNat ((0 : Int), ((0 : Int), ((0 : Int), ((0 : Int), (([] : List (List UInt8)), ([] : List (Int × Bool × Int × Int × Int)))))))).2.2.2.1) (.cons (.sl .str (c_Faces.getD x_2.toNat ((0 : Int), ((0 : Int), ((0 : Int), ((0 : Int), (([] : List (List UInt8)), ([] : List (Int × Bool × Int × Int × Int)))))))).2.2.2.2.1) (.sl (.st (.pair (.int .i64) (.pair .bool (.pair (.int .i64) (.pair (.int .i64) (.int .i64)))))) (c_Faces.getD x_2.toNat ((0 : Int), ((0 : Int), ((0 : Int), ((0 : Int), (([] : List (List UInt8)), ([] : List (Int × Bool × Int × Int × Int)))))))).2.2.2.2.2)))))))), (1, (.mp 1))], [(.box 24 (.st (.cons (.int .i64 c_Value) (.cons (.int .i64 c_Name) (.cons (.int .i64 c_Attr) (.cons (.int .i64 c_Power) (.sl (.st (.pair (.int .i64) (.pair (.int .i64) (.pair (.int .i64) (.pair (.int .i64) (.pair (.sl .str) (.sl (.st (.pair (.int .i64) (.pair .bool (.pair (.int .i64) (.pair (.int .i64) (.int .i64))))))))))))) c_Faces))))))), (.map 46 (.st (.pair (.int .i64) .bool)) .bool m1), (.box 49 (.st (.cons (.int .i64 (c_Faces.getD x_2.toNat ((0 : Int), ((0 : Int), ((0 : Int), ((0 : Int), (([] : List (List UInt8)), ([] : List (Int × Bool × Int × Int × Int)))))))).1) (.cons (.int .i64 (c_Faces.getD x_2.toNat ((0 : Int), ((0 : Int), ((0 : Int), ((0 : Int), (([] : List (List UInt8)), ([] : List (Int × Bool × Int × Int × Int)))))))).2.1) (.cons (.int .i64 (c_Faces.getD x_2.toNat ((0 : Int), ((0 : Int), ((0 : Int), ((0 : Int), (([] : List (List UInt8)), ([] : List (Int × Bool × Int × Int × Int)))))))).2.2.1) (.cons (.int .i64 (c_Faces.getD x_2.toNat ((0 : Int), ((0 : Int), ((0 : Int), ((0 : Int), (([] : List (List UInt8)), ([] : List (Int × Bool × Int × Int × Int)))))))).2.2.2.1) (.cons (.sl .str (c_Faces.getD x_2.toNat ((0 : Int), ((0 : Int), ((0 : Int), ((0 : Int), (([] : List (List UInt8)), ([] : List (Int × Bool × Int × Int × Int)))))))).2.2.2.2.1) (.sl (.st (.pair (.int .i64) (.pair .bool (.pair (.int .i64) (.pair (.int .i64) (.int .i64)))))) (c_Faces.getD x_2.toNat ((0 : Int), ((0 : Int), ((0 : Int), ((0 : Int), (([] : List (List UInt8)), ([] : List (Int × Bool × Int × Int × Int)))))))).2.2.2.2.2)))))))), (.sav (mkTs 126 [(1, (.ptr 0 [])), (4, (.mp 1)), (5, (.str rest)), (6, (.int .i64 x_2)), (7, (.ptr 2 [])), (39, (.sl (.st (.pair (.int .i64) (.pair (.int .i64) (.pair (.int .i64) (.pair (.int .i64) (.pair (.sl .str) (.sl (.st (.pair (.int .i64) (.pair .bool (.pair (.int .i64) (.pair (.int .i64) (.int .i64))))))))))))) c_Faces)), (40, (.int .i64 ((c_Faces.length : Nat) : Int))), (41, (.int .i64 x_2))]) fv6)]), by kernel_rfl, ?_⟩
              refine TS.seq ?_
              have hq : (True) ∧ ((True) ∧ (True)) := ⟨trivial, ⟨trivial, trivial⟩⟩
              refine TS.reg [] ?_ ?_
              · apply prop_of ?_ hq
                kernel_rfl
              refine XS.then ?_
              refine TS.seq ?_
              refine TS.block ?_
              refine TS.seq ?_
              obtain ⟨y_8, hx25, h⟩ := bind_some' h
              have hq : (True) ∧ ((True) ∧ ((True) ∧ ((True) ∧ ((True) ∧ ((True) ∧ ((True) ∧ ((True) ∧ (((0 < 4 ∧ True) ∧ ((1 < 4 ∧ True) ∧ ((2 < 4 ∧ True) ∧ ((3 < 4 ∧ True) ∧ (True))))) ∧ ((((True) ∧ (True)) ∧ PureC Try.prog 16 [(.sl (.int .i64) [(c_Faces.getD x_2.toNat ((0 : Int), ((0 : Int), ((0 : Int), ((0 : Int), (([] : List (List UInt8)), ([] : List (Int × Bool × Int × Int × Int)))))))).1, (c_Faces.getD x_2.toNat ((0 : Int), ((0 : Int), ((0 : Int), ((0 : Int), (([] : List (List UInt8)), ([] : List (Int × Bool × Int × Int × Int)))))))).2.1, (c_Faces.getD x_2.toNat ((0 : Int), ((0 : Int), ((0 : Int), ((0 : Int), (([] : List (List UInt8)), ([] : List (Int × Bool × Int × Int × Int)))))))).2.2.1, (c_Faces.getD x_2.toNat ((0 : Int), ((0 : Int), ((0 : Int), ((0 : Int), (([] : List (List UInt8)), ([] : List (Int × Bool × Int × Int × Int)))))))).2.2.2.1])] (.bool y_8) []) ∧ ((True) ∧ ((True) ∧ (True)))))))))))) := ⟨trivial, ⟨trivial, ⟨trivial, ⟨trivial, ⟨trivial, ⟨trivial, ⟨trivial, ⟨trivial, ⟨⟨⟨by decide, trivial⟩, ⟨⟨by decide, trivial⟩, ⟨⟨by decide, trivial⟩, ⟨⟨by decide, trivial⟩, trivial⟩⟩⟩⟩, ⟨⟨⟨trivial, trivial⟩, F16_ok n ([(c_Faces.getD x_2.toNat ((0 : Int), ((0 : Int), ((0 : Int), ((0 : Int), (([] : List (List UInt8)), ([] : List (Int × Bool × Int × Int × Int)))))))).1, (c_Faces.getD x_2.toNat ((0 : Int), ((0 : Int), ((0 : Int), ((0 : Int), (([] : List (List UInt8)), ([] : List (Int × Bool × Int × Int × Int)))))))).2.1, (c_Faces.getD x_2.toNat ((0 : Int), ((0 : Int), ((0 : Int), ((0 : Int), (([] : List (List UInt8)), ([] : List (Int × Bool × Int × Int × Int)))))))).2.2.1, (c_Faces.getD x_2.toNat ((0 : Int), ((0 : Int), ((0 : Int), ((0 : Int), (([] : List (List UInt8)), ([] : List (Int × Bool × Int × Int × Int)))))))).2.2.2.1]) y_8 hx25⟩, ⟨trivial, ⟨trivial, trivial⟩⟩⟩⟩⟩⟩⟩⟩⟩⟩⟩⟩
              refine TS.reg [.none, .none, .none, .none, .none, .none, .none, .none, .none, (.call (.bool y_8) [])] ?_ ?_
              · apply prop_of ?_ hq
                kernel_rfl
              refine XS.then ?_
              rcases bif_some h with ⟨c26, h⟩ | ⟨c27, h⟩
              · refine TS.cond (!y_8) ?_ (fun hcz => ?_) (fun hcz => by rw [c26] at hcz; cases hcz)
                · kernel_rfl
                refine TS.seq ?_
                have hq : (True) ∧ (True) := ⟨trivial, trivial⟩
                refine TS.reg [] ?_ ?_
                · apply prop_of ?_ hq
                  kernel_rfl
                refine XS.then ?_
                refine TS.ret ?_
                refine XS.blockRet ?_
                refine XS.passR ?_
                refine XS.backR 3 (mkTs 126 [(1, (.ptr 0 [])), (4, (.mp 1)), (5, (.str rest)), (6, (.int .i64 x_2)), (7, (.ptr 2 [])), (39, (.sl (.st (.pair (.int .i64) (.pair (.int .i64) (.pair (.int .i64) (.pair (.int .i64) (.pair (.sl .str) (.sl (.st (.pair (.int .i64) (.pair .bool (.pair (.int .i64) (.pair (.int .i64) (.int .i64))))))))))))) c_Faces)), (40, (.int .i64 ((c_Faces.length : Nat) : Int))), (41, (.int .i64 x_2))]) (mkTs 126 [(1, (.ptr 0 [])), (4, (.mp 1)), (5, (.str rest)), (6, (.int .i64 x_2)), (7, (.ptr 2 [])), (39, (.sl (.st (.pair (.int .i64) (.pair (.int .i64) (.pair (.int .i64) (.pair (.int .i64) (.pair (.sl .str) (.sl (.st (.pair (.int .i64) (.pair .bool (.pair (.int .i64) (.pair (.int .i64) (.int .i64))))))))))))) c_Faces)), (40, (.int .i64 ((c_Faces.length : Nat) : Int))), (41, (.int .i64 x_2)), (48, (.int .i64 (1 : Int)))], [(.box 24 (.st (.cons (.int .i64 c_Value) (.cons (.int .i64 c_Name) (.cons (.int .i64 c_Attr) (.cons (.int .i64 c_Power) (.sl (.st (.pair (.int .i64) (.pair (.int .i64) (.pair (.int .i64) (.pair (.int .i64) (.pair (.sl .str) (.sl (.st (.pair (.int .i64) (.pair .bool (.pair (.int .i64) (.pair (.int .i64) (.int .i64))))))))))))) c_Faces))))))), (.map 46 (.st (.pair (.int .i64) .bool)) .bool m1), (.box 49 (.st (.cons (.int .i64 (c_Faces.getD x_2.toNat ((0 : Int), ((0 : Int), ((0 : Int), ((0 : Int), (([] : List (List UInt8)), ([] : List (Int × Bool × Int × Int × Int)))))))).1) (.cons (.int .i64 (c_Faces.getD x_2.toNat ((0 : Int), ((0 : Int), ((0 : Int), ((0 : Int), (([] : List (List UInt8)), ([] : List (Int × Bool × Int × Int × Int)))))))).2.1) (.cons (.int .i64 (c_Faces.getD x_2.toNat ((0 : Int), ((0 : Int), ((0 : Int), ((0 : Int), (([] : List (List UInt8)), ([] : List (Int × Bool × Int × Int × Int)))))))).2.2.1) (.cons (.int .i64 (c_Faces.getD x_2.toNat ((0 : Int), ((0 : Int), ((0 : Int), ((0 : Int), (([] : List (List UInt8)), ([] : List (Int × Bool × Int × Int × Int)))))))).2.2.2.1) (.cons (.sl .str (c_Faces.getD x_2.toNat ((0 : Int), ((0 : Int), ((0 : Int), ((0 : Int), (([] : List (List UInt8)), ([] : List (Int × Bool × Int × Int × Int)))))))).2.2.2.2.1) (.sl (.st (.pair (.int .i64) (.pair .bool (.pair (.int .i64) (.pair (.int .i64) (.int .i64)))))) (c_Faces.getD x_2.toNat ((0 : Int), ((0 : Int), ((0 : Int), ((0 : Int), (([] : List (List UInt8)), ([] : List (Int × Bool × Int × Int × Int)))))))).2.2.2.2.2)))))))), .dead, (.box 49 (.st (.cons (.int .i64 (c_Faces.getD x_2.toNat ((0 : Int), ((0 : Int), ((0 : Int), ((0 : Int), (([] : List (List UInt8)), ([] : List (Int × Bool × Int × Int × Int)))))))).1) (.cons (.int .i64 (c_Faces.getD x_2.toNat ((0 : Int), ((0 : Int), ((0 : Int), ((0 : Int), (([] : List (List UInt8)), ([] : List (Int × Bool × Int × Int × Int)))))))).2.1) (.cons (.int .i64 (c_Faces.getD x_2.toNat ((0 : Int), ((0 : Int), ((0 : Int), ((0 : Int), (([] : List (List UInt8)), ([] : List (Int × Bool × Int × Int × Int)))))))).2.2.1) (.cons (.int .i64 (c_Faces.getD x_2.toNat ((0 : Int), ((0 : Int), ((0 : Int), ((0 : Int), (([] : List (List UInt8)), ([] : List (Int × Bool × Int × Int × Int)))))))).2.2.2.1) (.cons (.sl .str (c_Faces.getD x_2.toNat ((0 : Int), ((0 : Int), ((0 : Int), ((0 : Int), (([] : List (List UInt8)), ([] : List (Int × Bool × Int × Int × Int)))))))).2.2.2.2.1) (.sl (.st (.pair (.int .i64) (.pair .bool (.pair (.int .i64) (.pair (.int .i64) (.int .i64)))))) (c_Faces.getD x_2.toNat ((0 : Int), ((0 : Int), ((0 : Int), ((0 : Int), (([] : List (List UInt8)), ([] : List (Int × Bool × Int × Int × Int)))))))).2.2.2.2.2)))))))), (.row 3 (.int .i64) [(c_Faces.getD x_2.toNat ((0 : Int), ((0 : Int), ((0 : Int), ((0 : Int), (([] : List (List UInt8)), ([] : List (Int × Bool × Int × Int × Int)))))))).1, (c_Faces.getD x_2.toNat ((0 : Int), ((0 : Int), ((0 : Int), ((0 : Int), (([] : List (List UInt8)), ([] : List (Int × Bool × Int × Int × Int)))))))).2.1, (c_Faces.getD x_2.toNat ((0 : Int), ((0 : Int), ((0 : Int), ((0 : Int), (([] : List (List UInt8)), ([] : List (Int × Bool × Int × Int × Int)))))))).2.2.1, (c_Faces.getD x_2.toNat ((0 : Int), ((0 : Int), ((0 : Int), ((0 : Int), (([] : List (List UInt8)), ([] : List (Int × Bool × Int × Int × Int)))))))).2.2.2.1])]) ((True) ∧ (True)) (by kernel_rfl) (by kernel_rfl) ⟨trivial, trivial⟩ ?_
                refine KS.ofX ?_
                refine XS.reAny [0, 1, 2] (mkMask 126 [1, 4, 5, 6, 7, 39, 40, 41, 48]) ((1 : Int), m1) h ?_
                kernel_rfl
              · refine TS.cond (!y_8) ?_ (fun hcz => by rw [c27] at hcz; cases hcz) (fun hcz => ?_)
                · kernel_rfl
                refine TS.seq ?_
                have hq : (True) ∧ ((True) ∧ ((True) ∧ ((True) ∧ ((True) ∧ (True))))) := ⟨trivial, ⟨trivial, ⟨trivial, ⟨trivial, ⟨trivial, trivial⟩⟩⟩⟩⟩
                refine TS.reg [] ?_ ?_
                · apply prop_of ?_ hq
                  kernel_rfl
                refine XS.then ?_
                rcases bif_some h with ⟨c28, h⟩ | ⟨c29, h⟩
                · refine TS.cond (decide (((((c_Faces.getD x_2.toNat ((0 : Int), ((0 : Int), ((0 : Int), ((0 : Int), (([] : List (List UInt8)), ([] : List (Int × Bool × Int × Int × Int)))))))).2.2.2.2.1).length : Nat) : Int) > (2 : Int))) ?_ (fun hcz => ?_) (fun hcz => by rw [c28] at hcz; cases hcz)
                  · kernel_rfl
                  refine TS.seq ?_
                  have hq : (True) ∧ (True) := ⟨trivial, trivial⟩
                  refine TS.reg [] ?_ ?_
                  · apply prop_of ?_ hq
                    kernel_rfl
                  refine XS.then ?_
                  refine TS.ret ?_
                  refine XS.blockRet ?_
                  refine XS.passR ?_
                  refine XS.backR 3 (mkTs 126 [(1, (.ptr 0 [])), (4, (.mp 1)), (5, (.str rest)), (6, (.int .i64 x_2)), (7, (.ptr 2 [])), (39, (.sl (.st (.pair (.int .i64) (.pair (.int .i64) (.pair (.int .i64) (.pair (.int .i64) (.pair (.sl .str) (.sl (.st (.pair (.int .i64) (.pair .bool (.pair (.int .i64) (.pair (.int .i64) (.int .i64))))))))))))) c_Faces)), (40, (.int .i64 ((c_Faces.length : Nat) : Int))), (41, (.int .i64 x_2))]) (mkTs 126 [(1, (.ptr 0 [])), (4, (.mp 1)), (5, (.str rest)), (6, (.int .i64 x_2)), (7, (.ptr 2 [])), (39, (.sl (.st (.pair (.int .i64) (.pair (.int .i64) (.pair (.int .i64) (.pair (.int .i64) (.pair (.sl .str) (.sl (.st (.pair (.int .i64) (.pair .bool (.pair (.int .i64) (.pair (.int .i64) (.int .i64))))))))))))) c_Faces)), (40, (.int .i64 ((c_Faces.length : Nat) : Int))), (41, (.int .i64 x_2)), (48, (.int .i64 (2 : Int)))], [(.box 24 (.st (.cons (.int .i64 c_Value) (.cons (.int .i64 c_Name) (.cons (.int .i64 c_Attr) (.cons (.int .i64 c_Power) (.sl (.st (.pair (.int .i64) (.pair (.int .i64) (.pair (.int .i64) (.pair (.int .i64) (.pair (.sl .str) (.sl (.st (.pair (.int .i64) (.pair .bool (.pair (.int .i64) (.pair (.int .i64) (.int .i64))))))))))))) c_Faces))))))), (.map 46 (.st (.pair (.int .i64) .bool)) .bool m1), (.box 49 (.st (.cons (.int .i64 (c_Faces.getD x_2.toNat ((0 : Int), ((0 : Int), ((0 : Int), ((0 : Int), (([] : List (List UInt8)), ([] : List (Int × Bool × Int × Int × Int)))))))).1) (.cons (.int .i64 (c_Faces.getD x_2.toNat ((0 : Int), ((0 : Int), ((0 : Int), ((0 : Int), (([] : List (List UInt8)), ([] : List (Int × Bool × Int × Int × Int)))))))).2.1) (.cons (.int .i64 (c_Faces.getD x_2.toNat ((0 : Int), ((0 : Int), ((0 : Int), ((0 : Int), (([] : List (List UInt8)), ([] : List (Int × Bool × Int × Int × Int)))))))).2.2.1) (.cons (.int .i64 (c_Faces.getD x_2.toNat ((0 : Int), ((0 : Int), ((0 : Int), ((0 : Int), (([] : List (List UInt8)), ([] : List (Int × Bool × Int × Int × Int)))))))).2.2.2.1) (.cons (.sl .str (c_Faces.getD x_2.toNat ((0 : Int), ((0 : Int), ((0 : Int), ((0 : Int), (([] : List (List UInt8)), ([] : List (Int × Bool × Int × Int × Int)))))))).2.2.2.2.1) (.sl (.st (.pair (.int .i64) (.pair .bool (.pair (.int .i64) (.pair (.int .i64) (.int .i64)))))) (c_Faces.getD x_2.toNat ((0 : Int), ((0 : Int), ((0 : Int), ((0 : Int), (([] : List (List UInt8)), ([] : List (Int × Bool × Int × Int × Int)))))))).2.2.2.2.2)))))))), .dead, (.box 49 (.st (.cons (.int .i64 (c_Faces.getD x_2.toNat ((0 : Int), ((0 : Int), ((0 : Int), ((0 : Int), (([] : List (List UInt8)), ([] : List (Int × Bool × Int × Int × Int)))))))).1) (.cons (.int .i64 (c_Faces.getD x_2.toNat ((0 : Int), ((0 : Int), ((0 : Int), ((0 : Int), (([] : List (List UInt8)), ([] : List (Int × Bool × Int × Int × Int)))))))).2.1) (.cons (.int .i64 (c_Faces.getD x_2.toNat ((0 : Int), ((0 : Int), ((0 : Int), ((0 : Int), (([] : List (List UInt8)), ([] : List (Int × Bool × Int × Int × Int)))))))).2.2.1) (.cons (.int .i64 (c_Faces.getD x_2.toNat ((0 : Int), ((0 : Int), ((0 : Int), ((0 : Int), (([] : List (List UInt8)), ([] : List (Int × Bool × Int × Int × Int)))))))).2.2.2.1) (.cons (.sl .str (c_Faces.getD x_2.toNat ((0 : Int), ((0 : Int), ((0 : Int), ((0 : Int), (([] : List (List UInt8)), ([] : List (Int × Bool × Int × Int × Int)))))))).2.2.2.2.1) (.sl (.st (.pair (.int .i64) (.pair .bool (.pair (.int .i64) (.pair (.int .i64) (.int .i64)))))) (c_Faces.getD x_2.toNat ((0 : Int), ((0 : Int), ((0 : Int), ((0 : Int), (([] : List (List UInt8)), ([] : List (Int × Bool × Int × Int × Int)))))))).2.2.2.2.2)))))))), (.row 3 (.int .i64) [(c_Faces.getD x_2.toNat ((0 : Int), ((0 : Int), ((0 : Int), ((0 : Int), (([] : List (List UInt8)), ([] : List (Int × Bool × Int × Int × Int)))))))).1, (c_Faces.getD x_2.toNat ((0 : Int), ((0 : Int), ((0 : Int), ((0 : Int), (([] : List (List UInt8)), ([] : List (Int × Bool × Int × Int × Int)))))))).2.1, (c_Faces.getD x_2.toNat ((0 : Int), ((0 : Int), ((0 : Int), ((0 : Int), (([] : List (List UInt8)), ([] : List (Int × Bool × Int × Int × Int)))))))).2.2.1, (c_Faces.getD x_2.toNat ((0 : Int), ((0 : Int), ((0 : Int), ((0 : Int), (([] : List (List UInt8)), ([] : List (Int × Bool × Int × Int × Int)))))))).2.2.2.1])]) ((True) ∧ (True)) (by kernel_rfl) (by kernel_rfl) ⟨trivial, trivial⟩ ?_
                  refine KS.ofX ?_
                  refine XS.reAny [0, 1, 2] (mkMask 126 [1, 4, 5, 6, 7, 39, 40, 41, 48]) ((2 : Int), m1) h ?_
                  kernel_rfl
                · refine TS.cond (decide (((((c_Faces.getD x_2.toNat ((0 : Int), ((0 : Int), ((0 : Int), ((0 : Int), (([] : List (List UInt8)), ([] : List (Int × Bool × Int × Int × Int)))))))).2.2.2.2.1).length : Nat) : Int) > (2 : Int))) ?_ (fun hcz => by rw [c29] at hcz; cases hcz) (fun hcz => ?_)
                  · kernel_rfl
                  refine TS.skip ?_
                  refine XS.blockEnd ?_
                  refine XS.then ?_
                  refine TS.seq ?_
                  refine TS.seq ?_
                  have hq : (True) ∧ ((True) ∧ ((True) ∧ ((True) ∧ (True)))) := ⟨trivial, ⟨trivial, ⟨trivial, ⟨trivial, trivial⟩⟩⟩⟩
                  refine TS.reg [] ?_ ?_
                  · apply prop_of ?_ hq
                    kernel_rfl
                  refine XS.then ?_
                  refine TS.block ?_
                  refine TS.reLoop [3, 0, 1, 2, 4] (mkMask 92 [1, 2, 28, 29, 30]) (D := Int) (fun d => match d with | x_5 => (mkTs 92 [(1, (.mp 2)), (2, (.ptr 4 [])), (28, (.sl .str (c_Faces.getD x_2.toNat ((0 : Int), ((0 : Int), ((0 : Int), ((0 : Int), (([] : List (List UInt8)), ([] : List (Int × Bool × Int × Int × Int)))))))).2.2.2.2.1)), (29, (.int .i64 ((((c_Faces.getD x_2.toNat ((0 : Int), ((0 : Int), ((0 : Int), ((0 : Int), (([] : List (List UInt8)), ([] : List (Int × Bool × Int × Int × Int)))))))).2.2.2.2.1).length : Nat) : Int))), (30, (.int .i64 x_5))], [(.sav (mkTs 126 [(1, (.ptr 1 [])), (4, (.mp 2)), (5, (.str rest)), (6, (.int .i64 x_2)), (7, (.ptr 3 [])), (39, (.sl (.st (.pair (.int .i64) (.pair (.int .i64) (.pair (.int .i64) (.pair (.int .i64) (.pair (.sl .str) (.sl (.st (.pair (.int .i64) (.pair .bool (.pair (.int .i64) (.pair (.int .i64) (.int .i64))))))))))))) c_Faces)), (40, (.int .i64 ((c_Faces.length : Nat) : Int))), (41, (.int .i64 x_2))]) fv6), (.box 24 (.st (.cons (.int .i64 c_Value) (.cons (.int .i64 c_Name) (.cons (.int .i64 c_Attr) (.cons (.int .i64 c_Power) (.sl (.st (.pair (.int .i64) (.pair (.int .i64) (.pair (.int .i64) (.pair (.int .i64) (.pair (.sl .str) (.sl (.st (.pair (.int .i64) (.pair .bool (.pair (.int .i64) (.pair (.int .i64) (.int .i64))))))))))))) c_Faces))))))), (.map 46 (.st (.pair (.int .i64) .bool)) .bool m1), (.box 49 (.st (.cons (.int .i64 (c_Faces.getD x_2.toNat ((0 : Int), ((0 : Int), ((0 : Int), ((0 : Int), (([] : List (List UInt8)), ([] : List (Int × Bool × Int × Int × Int)))))))).1) (.cons (.int .i64 (c_Faces.getD x_2.toNat ((0 : Int), ((0 : Int), ((0 : Int), ((0 : Int), (([] : List (List UInt8)), ([] : List (Int × Bool × Int × Int × Int)))))))).2.1) (.cons (.int .i64 (c_Faces.getD x_2.toNat ((0 : Int), ((0 : Int), ((0 : Int), ((0 : Int), (([] : List (List UInt8)), ([] : List (Int × Bool × Int × Int × Int)))))))).2.2.1) (.cons (.int .i64 (c_Faces.getD x_2.toNat ((0 : Int), ((0 : Int), ((0 : Int), ((0 : Int), (([] : List (List UInt8)), ([] : List (Int × Bool × Int × Int × Int)))))))).2.2.2.1) (.cons (.sl .str (c_Faces.getD x_2.toNat ((0 : Int), ((0 : Int), ((0 : Int), ((0 : Int), (([] : List (List UInt8)), ([] : List (Int × Bool × Int × Int × Int)))))))).2.2.2.2.1) (.sl (.st (.pair (.int .i64) (.pair .bool (.pair (.int .i64) (.pair (.int .i64) (.int .i64)))))) (c_Faces.getD x_2.toNat ((0 : Int), ((0 : Int), ((0 : Int), ((0 : Int), (([] : List (List UInt8)), ([] : List (Int × Bool × Int × Int × Int)))))))).2.2.2.2.2)))))))), (.box 49 (.st (.cons (.int .i64 (c_Faces.getD x_2.toNat ((0 : Int), ((0 : Int), ((0 : Int), ((0 : Int), (([] : List (List UInt8)), ([] : List (Int × Bool × Int × Int × Int)))))))).1) (.cons (.int .i64 (c_Faces.getD x_2.toNat ((0 : Int), ((0 : Int), ((0 : Int), ((0 : Int), (([] : List (List UInt8)), ([] : List (Int × Bool × Int × Int × Int)))))))).2.1) (.cons (.int .i64 (c_Faces.getD x_2.toNat ((0 : Int), ((0 : Int), ((0 : Int), ((0 : Int), (([] : List (List UInt8)), ([] : List (Int × Bool × Int × Int × Int)))))))).2.2.1) (.cons (.int .i64 (c_Faces.getD x_2.toNat ((0 : Int), ((0 : Int), ((0 : Int), ((0 : Int), (([] : List (List UInt8)), ([] : List (Int × Bool × Int × Int × Int)))))))).2.2.2.1) (.cons (.sl .str (c_Faces.getD x_2.toNat ((0 : Int), ((0 : Int), ((0 : Int), ((0 : Int), (([] : List (List UInt8)), ([] : List (Int × Bool × Int × Int × Int)))))))).2.2.2.2.1) (.sl (.st (.pair (.int .i64) (.pair .bool (.pair (.int .i64) (.pair (.int .i64) (.int .i64)))))) (c_Faces.getD x_2.toNat ((0 : Int), ((0 : Int), ((0 : Int), ((0 : Int), (([] : List (List UInt8)), ([] : List (Int × Bool × Int × Int × Int)))))))).2.2.2.2.2))))))))])) (fun n' d => loopF (F7_l186 n (loopF (F7_l159 n c_Value c_Name c_Attr c_Power c_Faces) n159) c_Faces rest x_2 m1) n' d = some r) n (0 : Int) h ?_ (fun d => loopF_zero _ d r) ?_
                  · kernel_rfl
                  · rintro n186 x_5 h
                    replace h : (bif (decide (x_5 < ((((c_Faces.getD x_2.toNat ((0 : Int), ((0 : Int), ((0 : Int), ((0 : Int), (([] : List (List UInt8)), ([] : List (Int × Bool × Int × Int × Int)))))))).2.2.2.2.1).length : Nat) : Int))) then (bif inb x_5 (((c_Faces.getD x_2.toNat ((0 : Int), ((0 : Int), ((0 : Int), ((0 : Int), (([] : List (List UInt8)), ([] : List (Int × Bool × Int × Int × Int)))))))).2.2.2.2.1).length) then ((F45 n (((c_Faces.getD x_2.toNat ((0 : Int), ((0 : Int), ((0 : Int), ((0 : Int), (([] : List (List UInt8)), ([] : List (Int × Bool × Int × Int × Int)))))))).2.2.2.2.1).getD x_5.toNat ([] : List UInt8))).bind fun y_9 => (bif (!y_9) then (F7_j173 n (loopF (F7_l159 n c_Value c_Name c_Attr c_Power c_Faces) n159) c_Faces rest x_2 ((1 : Int), m1)) else ((loopF (F7_l186 n (loopF (F7_l159 n c_Value c_Name c_Attr c_Power c_Faces) n159) c_Faces rest x_2 m1) n186) (IntKind.wrap .i64 (x_5 + (1 : Int)))))) else none) else (bif (decide (((((c_Faces.getD x_2.toNat ((0 : Int), ((0 : Int), ((0 : Int), ((0 : Int), (([] : List (List UInt8)), ([] : List (Int × Bool × Int × Int × Int)))))))).2.2.2.2.2).length : Nat) : Int) > (4 : Int))) then (F7_j173 n (loopF (F7_l159 n c_Value c_Name c_Attr c_Power c_Faces) n159) c_Faces rest x_2 ((2 : Int), m1)) else (loopF (F7_l189 n (loopF (F7_l159 n c_Value c_Name c_Attr c_Power c_Faces) n159) c_Faces rest x_2) n ((0 : Int), m1)))) = some r := h
                    refine TS.seq ?_
                    have hq : (True) ∧ (True) := ⟨trivial, trivial⟩
                    refine TS.reg [] ?_ ?_
                    · apply prop_of ?_ hq
                      kernel_rfl
                    refine XS.then ?_
                    refine TS.seq ?_
                    rcases bif_some h with ⟨c30, h⟩ | ⟨c31, h⟩
                    · refine TS.cond (decide (x_5 < ((((c_Faces.getD x_2.toNat ((0 : Int), ((0 : Int), ((0 : Int), ((0 : Int), (([] : List (List UInt8)), ([] : List (Int × Bool × Int × Int × Int)))))))).2.2.2.2.1).length : Nat) : Int))) ?_ (fun hcz => ?_) (fun hcz => by rw [c30] at hcz; cases hcz)
                      · kernel_rfl
                      refine TS.skip ?_
                      refine XS.then ?_
                      refine TS.seq ?_
                      refine TS.block ?_
                      refine TS.seq ?_
                      obtain ⟨t32, h⟩ := test_some h
                      have hq : (inR x_5 (((c_Faces.getD x_2.toNat ((0 : Int), ((0 : Int), ((0 : Int), ((0 : Int), (([] : List (List UInt8)), ([] : List (Int × Bool × Int × Int × Int)))))))).2.2.2.2.1).length)) ∧ ((True) ∧ ((True) ∧ (True))) := ⟨inb_ok t32, ⟨trivial, ⟨trivial, trivial⟩⟩⟩
                      refine TS.reg [] ?_ ?_
                      · apply prop_of ?_ hq
                        kernel_rfl
                      refine XS.then ?_
                      refine TS.seq ?_
                      obtain ⟨y_9, hx33, h⟩ := bind_some' h
                      have hq : (True) ∧ ((PureC Try.prog 45 [(.str (((c_Faces.getD x_2.toNat ((0 : Int), ((0 : Int), ((0 : Int), ((0 : Int), (([] : List (List UInt8)), ([] : List (Int × Bool × Int × Int × Int)))))))).2.2.2.2.1).getD x_5.toNat ([] : List UInt8)))] (.bool y_9) []) ∧ ((True) ∧ (True))) := ⟨trivial, ⟨F45_ok n (((c_Faces.getD x_2.toNat ((0 : Int), ((0 : Int), ((0 : Int), ((0 : Int), (([] : List (List UInt8)), ([] : List (Int × Bool × Int × Int × Int)))))))).2.2.2.2.1).getD x_5.toNat ([] : List UInt8)) y_9 hx33, ⟨trivial, trivial⟩⟩⟩
                      refine TS.reg [.none, (.call (.bool y_9) [])] ?_ ?_
                      · apply prop_of ?_ hq
                        kernel_rfl
                      refine XS.then ?_
                      rcases bif_some h with ⟨c34, h⟩ | ⟨c35, h⟩
                      · refine TS.cond (!y_9) ?_ (fun hcz => ?_) (fun hcz => by rw [c34] at hcz; cases hcz)
                        · kernel_rfl
                        refine TS.seq ?_
                        have hq : (True) ∧ (True) := ⟨trivial, trivial⟩
                        refine TS.reg [] ?_ ?_
                        · apply prop_of ?_ hq
                          kernel_rfl
                        refine XS.then ?_
                        refine TS.ret ?_
                        refine XS.blockRet ?_
                        refine XS.passR ?_
                        refine XS.passR ?_
                        refine XS.blockRet ?_
                        refine XS.passR ?_
                        refine XS.backR 0 (mkTs 126 [(1, (.ptr 1 [])), (4, (.mp 2)), (5, (.str rest)), (6, (.int .i64 x_2)), (7, (.ptr 3 [])), (39, (.sl (.st (.pair (.int .i64) (.pair (.int .i64) (.pair (.int .i64) (.pair (.int .i64) (.pair (.sl .str) (.sl (.st (.pair (.int .i64) (.pair .bool (.pair (.int .i64) (.pair (.int .i64) (.int .i64))))))))))))) c_Faces)), (40, (.int .i64 ((c_Faces.length : Nat) : Int))), (41, (.int .i64 x_2))]) (mkTs 126 [(1, (.ptr 1 [])), (4, (.mp 2)), (5, (.str rest)), (6, (.int .i64 x_2)), (7, (.ptr 3 [])), (39, (.sl (.st (.pair (.int .i64) (.pair (.int .i64) (.pair (.int .i64) (.pair (.int .i64) (.pair (.sl .str) (.sl (.st (.pair (.int .i64) (.pair .bool (.pair (.int .i64) (.pair (.int .i64) (.int .i64))))))))))))) c_Faces)), (40, (.int .i64 ((c_Faces.length : Nat) : Int))), (41, (.int .i64 x_2)), (48, (.int .i64 (1 : Int)))], [.dead, (.box 24 (.st (.cons (.int .i64 c_Value) (.cons (.int .i64 c_Name) (.cons (.int .i64 c_Attr) (.cons (.int .i64 c_Power) (.sl (.st (.pair (.int .i64) (.pair (.int .i64) (.pair (.int .i64) (.pair (.int .i64) (.pair (.sl .str) (.sl (.st (.pair (.int .i64) (.pair .bool (.pair (.int .i64) (.pair (.int .i64) (.int .i64))))))))))))) c_Faces))))))), (.map 46 (.st (.pair (.int .i64) .bool)) .bool m1), (.box 49 (.st (.cons (.int .i64 (c_Faces.getD x_2.toNat ((0 : Int), ((0 : Int), ((0 : Int), ((0 : Int), (([] : List (List UInt8)), ([] : List (Int × Bool × Int × Int × Int)))))))).1) (.cons (.int .i64 (c_Faces.getD x_2.toNat ((0 : Int), ((0 : Int), ((0 : Int), ((0 : Int), (([] : List (List UInt8)), ([] : List (Int × Bool × Int × Int × Int)))))))).2.1) (.cons (.int .i64 (c_Faces.getD x_2.toNat ((0 : Int), ((0 : Int), ((0 : Int), ((0 : Int), (([] : List (List UInt8)), ([] : List (Int × Bool × Int × Int × Int)))))))).2.2.1) (.cons (.int .i64 (c_Faces.getD x_2.toNat ((0 : Int), ((0 : Int), ((0 : Int), ((0 : Int), (([] : List (List UInt8)), ([] : List (Int × Bool × Int × Int × Int)))))))).2.2.2.1) (.cons (.sl .str (c_Faces.getD x_2.toNat ((0 : Int), ((0 : Int), ((0 : Int), ((0 : Int), (([] : List (List UInt8)), ([] : List (Int × Bool × Int × Int × Int)))))))).2.2.2.2.1) (.sl (.st (.pair (.int .i64) (.pair .bool (.pair (.int .i64) (.pair (.int .i64) (.int .i64)))))) (c_Faces.getD x_2.toNat ((0 : Int), ((0 : Int), ((0 : Int), ((0 : Int), (([] : List (List UInt8)), ([] : List (Int × Bool × Int × Int × Int)))))))).2.2.2.2.2)))))))), (.box 49 (.st (.cons (.int .i64 (c_Faces.getD x_2.toNat ((0 : Int), ((0 : Int), ((0 : Int), ((0 : Int), (([] : List (List UInt8)), ([] : List (Int × Bool × Int × Int × Int)))))))).1) (.cons (.int .i64 (c_Faces.getD x_2.toNat ((0 : Int), ((0 : Int), ((0 : Int), ((0 : Int), (([] : List (List UInt8)), ([] : List (Int × Bool × Int × Int × Int)))))))).2.1) (.cons (.int .i64 (c_Faces.getD x_2.toNat ((0 : Int), ((0 : Int), ((0 : Int), ((0 : Int), (([] : List (List UInt8)), ([] : List (Int × Bool × Int × Int × Int)))))))).2.2.1) (.cons (.int .i64 (c_Faces.getD x_2.toNat ((0 : Int), ((0 : Int), ((0 : Int), ((0 : Int), (([] : List (List UInt8)), ([] : List (Int × Bool × Int × Int × Int)))))))).2.2.2.1) (.cons (.sl .str (c_Faces.getD x_2.toNat ((0 : Int), ((0 : Int), ((0 : Int), ((0 : Int), (([] : List (List UInt8)), ([] : List (Int × Bool × Int × Int × Int)))))))).2.2.2.2.1) (.sl (.st (.pair (.int .i64) (.pair .bool (.pair (.int .i64) (.pair (.int .i64) (.int .i64)))))) (c_Faces.getD x_2.toNat ((0 : Int), ((0 : Int), ((0 : Int), ((0 : Int), (([] : List (List UInt8)), ([] : List (Int × Bool × Int × Int × Int)))))))).2.2.2.2.2))))))))]) ((True) ∧ (True)) (by kernel_rfl) (by kernel_rfl) ⟨trivial, trivial⟩ ?_
                        refine KS.ofX ?_
                        refine XS.reAny [1, 2, 3] (mkMask 126 [1, 4, 5, 6, 7, 39, 40, 41, 48]) ((1 : Int), m1) h ?_
                        kernel_rfl
                      · refine TS.cond (!y_9) ?_ (fun hcz => by rw [c35] at hcz; cases hcz) (fun hcz => ?_)
                        · kernel_rfl
                        refine TS.skip ?_
                        refine XS.blockEnd ?_
                        refine XS.then ?_
                        have hq : (True) ∧ ((True) ∧ (True)) := ⟨trivial, ⟨trivial, trivial⟩⟩
                        refine TS.reg [] ?_ ?_
                        · apply prop_of ?_ hq
                          kernel_rfl
                        refine XS.reAny [0, 1, 2, 3, 4] (mkMask 92 [1, 2, 28, 29, 30]) (IntKind.wrap .i64 (x_5 + (1 : Int))) h ?_
                        kernel_rfl
                    · refine TS.cond (decide (x_5 < ((((c_Faces.getD x_2.toNat ((0 : Int), ((0 : Int), ((0 : Int), ((0 : Int), (([] : List (List UInt8)), ([] : List (Int × Bool × Int × Int × Int)))))))).2.2.2.2.1).length : Nat) : Int))) ?_ (fun hcz => by rw [c31] at hcz; cases hcz) (fun hcz => ?_)
                      · kernel_rfl
                      refine TS.exit ?_
                      refine XS.passE ?_
                      refine XS.passE ?_
                      refine XS.out ?_
                      refine XS.then ?_
                      refine TS.seq ?_
                      refine TS.seq ?_
                      have hq : (True) ∧ ((True) ∧ ((True) ∧ ((True) ∧ (True)))) := ⟨trivial, ⟨trivial, ⟨trivial, ⟨trivial, trivial⟩⟩⟩⟩
                      refine TS.reg [] ?_ ?_
                      · apply prop_of ?_ hq
                        kernel_rfl
                      refine XS.then ?_
                      rcases bif_some h with ⟨c36, h⟩ | ⟨c37, h⟩
                      · refine TS.cond (decide (((((c_Faces.getD x_2.toNat ((0 : Int), ((0 : Int), ((0 : Int), ((0 : Int), (([] : List (List UInt8)), ([] : List (Int × Bool × Int × Int × Int)))))))).2.2.2.2.2).length : Nat) : Int) > (4 : Int))) ?_ (fun hcz => ?_) (fun hcz => by rw [c36] at hcz; cases hcz)
                        · kernel_rfl
                        refine TS.seq ?_
                        have hq : (True) ∧ (True) := ⟨trivial, trivial⟩
                        refine TS.reg [] ?_ ?_
                        · apply prop_of ?_ hq
                          kernel_rfl
                        refine XS.then ?_
                        refine TS.ret ?_
                        refine XS.passR ?_
                        refine XS.backR 0 (mkTs 126 [(1, (.ptr 1 [])), (4, (.mp 2)), (5, (.str rest)), (6, (.int .i64 x_2)), (7, (.ptr 3 [])), (39, (.sl (.st (.pair (.int .i64) (.pair (.int .i64) (.pair (.int .i64) (.pair (.int .i64) (.pair (.sl .str) (.sl (.st (.pair (.int .i64) (.pair .bool (.pair (.int .i64) (.pair (.int .i64) (.int .i64))))))))))))) c_Faces)), (40, (.int .i64 ((c_Faces.length : Nat) : Int))), (41, (.int .i64 x_2))]) (mkTs 126 [(1, (.ptr 1 [])), (4, (.mp 2)), (5, (.str rest)), (6, (.int .i64 x_2)), (7, (.ptr 3 [])), (39, (.sl (.st (.pair (.int .i64) (.pair (.int .i64) (.pair (.int .i64) (.pair (.int .i64) (.pair (.sl .str) (.sl (.st (.pair (.int .i64) (.pair .bool (.pair (.int .i64) (.pair (.int .i64) (.int .i64))))))))))))) c_Faces)), (40, (.int .i64 ((c_Faces.length : Nat) : Int))), (41, (.int .i64 x_2)), (48, (.int .i64 (2 : Int)))], [.dead, (.box 24 (.st (.cons (.int .i64 c_Value) (.cons (.int .i64 c_Name) (.cons (.int .i64 c_Attr) (.cons (.int .i64 c_Power) (.sl (.st (.pair (.int .i64) (.pair (.int .i64) (.pair (.int .i64) (.pair (.int .i64) (.pair (.sl .str) (.sl (.st (.pair (.int .i64) (.pair .bool (.pair (.int .i64) (.pair (.int .i64) (.int .i64))))))))))))) c_Faces))))))), (.map 46 (.st (.pair (.int .i64) .bool)) .bool m1), (.box 49 (.st (.cons (.int .i64 (c_Faces.getD x_2.toNat ((0 : Int), ((0 : Int), ((0 : Int), ((0 : Int), (([] : List (List UInt8)), ([] : List (Int × Bool × Int × Int × Int)))))))).1) (.cons (.int .i64 (c_Faces.getD x_2.toNat ((0 : Int), ((0 : Int), ((0 : Int), ((0 : Int), (([] : List (List UInt8)), ([] : List (Int × Bool × Int × Int × Int)))))))).2.1) (.cons (.int .i64 (c_Faces.getD x_2.toNat ((0 : Int), ((0 : Int), ((0 : Int), ((0 : Int), (([] : List (List UInt8)), ([] : List (Int × Bool × Int × Int × Int)))))))).2.2.1) (.cons (.int .i64 (c_Faces.getD x_2.toNat ((0 : Int), ((0 : Int), ((0 : Int), ((0 : Int), (([] : List (List UInt8)), ([] : List (Int × Bool × Int × Int × Int)))))))).2.2.2.1) (.cons (.sl .str (c_Faces.getD x_2.toNat ((0 : Int), ((0 : Int), ((0 : Int), ((0 : Int), (([] : List (List UInt8)), ([] : List (Int × Bool × Int × Int × Int)))))))).2.2.2.2.1) (.sl (.st (.pair (.int .i64) (.pair .bool (.pair (.int .i64) (.pair (.int .i64) (.int .i64)))))) (c_Faces.getD x_2.toNat ((0 : Int), ((0 : Int), ((0 : Int), ((0 : Int), (([] : List (List UInt8)), ([] : List (Int × Bool × Int × Int × Int)))))))).2.2.2.2.2)))))))), (.box 49 (.st (.cons (.int .i64 (c_Faces.getD x_2.toNat ((0 : Int), ((0 : Int), ((0 : Int), ((0 : Int), (([] : List (List UInt8)), ([] : List (Int × Bool × Int × Int × Int)))))))).1) (.cons (.int .i64 (c_Faces.getD x_2.toNat ((0 : Int), ((0 : Int), ((0 : Int), ((0 : Int), (([] : List (List UInt8)), ([] : List (Int × Bool × Int × Int × Int)))))))).2.1) (.cons (.int .i64 (c_Faces.getD x_2.toNat ((0 : Int), ((0 : Int), ((0 : Int), ((0 : Int), (([] : List (List UInt8)), ([] : List (Int × Bool × Int × Int × Int)))))))).2.2.1) (.cons (.int .i64 (c_Faces.getD x_2.toNat ((0 : Int), ((0 : Int), ((0 : Int), ((0 : Int), (([] : List (List UInt8)), ([] : List (Int × Bool × Int × Int × Int)))))))).2.2.2.1) (.cons (.sl .str (c_Faces.getD x_2.toNat ((0 : Int), ((0 : Int), ((0 : Int), ((0 : Int), (([] : List (List UInt8)), ([] : List (Int × Bool × Int × Int × Int)))))))).2.2.2.2.1) (.sl (.st (.pair (.int .i64) (.pair .bool (.pair (.int .i64) (.pair (.int .i64) (.int .i64)))))) (c_Faces.getD x_2.toNat ((0 : Int), ((0 : Int), ((0 : Int), ((0 : Int), (([] : List (List UInt8)), ([] : List (Int × Bool × Int × Int × Int)))))))).2.2.2.2.2))))))))]) ((True) ∧ (True)) (by kernel_rfl) (by kernel_rfl) ⟨trivial, trivial⟩ ?_
                        refine KS.ofX ?_
                        refine XS.reAny [1, 2, 3] (mkMask 126 [1, 4, 5, 6, 7, 39, 40, 41, 48]) ((2 : Int), m1) h ?_
                        kernel_rfl
                      · refine TS.cond (decide (((((c_Faces.getD x_2.toNat ((0 : Int), ((0 : Int), ((0 : Int), ((0 : Int), (([] : List (List UInt8)), ([] : List (Int × Bool × Int × Int × Int)))))))).2.2.2.2.2).length : Nat) : Int) > (4 : Int))) ?_ (fun hcz => by rw [c37] at hcz; cases hcz) (fun hcz => ?_)
                        · kernel_rfl
                        refine TS.skip ?_
                        refine XS.then ?_
                        refine TS.seq ?_
                        refine TS.seq ?_
                        have hq : (True) ∧ ((True) ∧ ((True) ∧ ((True) ∧ (True)))) := ⟨trivial, ⟨trivial, ⟨trivial, ⟨trivial, trivial⟩⟩⟩⟩
                        refine TS.reg [] ?_ ?_
                        · apply prop_of ?_ hq
                          kernel_rfl
                        refine XS.then ?_
                        refine TS.block ?_
                        refine TS.reLoop [0, 1, 2, 3] (mkMask 92 [1, 43, 44, 45]) (D := Int × (List ((Int × Bool) × Bool))) (fun d => match d with | (x_6, m2) => (mkTs 92 [(1, (.mp 2)), (43, (.sl (.st (.pair (.int .i64) (.pair .bool (.pair (.int .i64) (.pair (.int .i64) (.int .i64)))))) (c_Faces.getD x_2.toNat ((0 : Int), ((0 : Int), ((0 : Int), ((0 : Int), (([] : List (List UInt8)), ([] : List (Int × Bool × Int × Int × Int)))))))).2.2.2.2.2)), (44, (.int .i64 ((((c_Faces.getD x_2.toNat ((0 : Int), ((0 : Int), ((0 : Int), ((0 : Int), (([] : List (List UInt8)), ([] : List (Int × Bool × Int × Int × Int)))))))).2.2.2.2.2).length : Nat) : Int))), (45, (.int .i64 x_6))], [(.sav (mkTs 126 [(1, (.ptr 1 [])), (4, (.mp 2)), (5, (.str rest)), (6, (.int .i64 x_2)), (7, (.ptr 3 [])), (39, (.sl (.st (.pair (.int .i64) (.pair (.int .i64) (.pair (.int .i64) (.pair (.int .i64) (.pair (.sl .str) (.sl (.st (.pair (.int .i64) (.pair .bool (.pair (.int .i64) (.pair (.int .i64) (.int .i64))))))))))))) c_Faces)), (40, (.int .i64 ((c_Faces.length : Nat) : Int))), (41, (.int .i64 x_2))]) fv6), (.box 24 (.st (.cons (.int .i64 c_Value) (.cons (.int .i64 c_Name) (.cons (.int .i64 c_Attr) (.cons (.int .i64 c_Power) (.sl (.st (.pair (.int .i64) (.pair (.int .i64) (.pair (.int .i64) (.pair (.int .i64) (.pair (.sl .str) (.sl (.st (.pair (.int .i64) (.pair .bool (.pair (.int .i64) (.pair (.int .i64) (.int .i64))))))))))))) c_Faces))))))), (.map 46 (.st (.pair (.int .i64) .bool)) .bool m2), (.box 49 (.st (.cons (.int .i64 (c_Faces.getD x_2.toNat ((0 : Int), ((0 : Int), ((0 : Int), ((0 : Int), (([] : List (List UInt8)), ([] : List (Int × Bool × Int × Int × Int)))))))).1) (.cons (.int .i64 (c_Faces.getD x_2.toNat ((0 : Int), ((0 : Int), ((0 : Int), ((0 : Int), (([] : List (List UInt8)), ([] : List (Int × Bool × Int × Int × Int)))))))).2.1) (.cons (.int .i64 (c_Faces.getD x_2.toNat ((0 : Int), ((0 : Int), ((0 : Int), ((0 : Int), (([] : List (List UInt8)), ([] : List (Int × Bool × Int × Int × Int)))))))).2.2.1) (.cons (.int .i64 (c_Faces.getD x_2.toNat ((0 : Int), ((0 : Int), ((0 : Int), ((0 : Int), (([] : List (List UInt8)), ([] : List (Int × Bool × Int × Int × Int)))))))).2.2.2.1) (.cons (.sl .str (c_Faces.getD x_2.toNat ((0 : Int), ((0 : Int), ((0 : Int), ((0 : Int), (([] : List (List UInt8)), ([] : List (Int × Bool × Int × Int × Int)))))))).2.2.2.2.1) (.sl (.st (.pair (.int .i64) (.pair .bool (.pair (.int .i64) (.pair (.int .i64) (.int .i64)))))) (c_Faces.getD x_2.toNat ((0 : Int), ((0 : Int), ((0 : Int), ((0 : Int), (([] : List (List UInt8)), ([] : List (Int × Bool × Int × Int × Int)))))))).2.2.2.2.2))))))))])) (fun n' d => loopF (F7_l189 n (loopF (F7_l159 n c_Value c_Name c_Attr c_Power c_Faces) n159) c_Faces rest x_2) n' d = some r) n ((0 : Int), m1) h ?_ (fun d => loopF_zero _ d r) ?_
                        · kernel_rfl
                        · rintro n189 ⟨x_6, m2⟩ h
                          replace h : (bif (decide (x_6 < ((((c_Faces.getD x_2.toNat ((0 : Int), ((0 : Int), ((0 : Int), ((0 : Int), (([] : List (List UInt8)), ([] : List (Int × Bool × Int × Int × Int)))))))).2.2.2.2.2).length : Nat) : Int))) then (bif inb x_6 (((c_Faces.getD x_2.toNat ((0 : Int), ((0 : Int), ((0 : Int), ((0 : Int), (([] : List (List UInt8)), ([] : List (Int × Bool × Int × Int × Int)))))))).2.2.2.2.2).length) then (bif (decide ((((c_Faces.getD x_2.toNat ((0 : Int), ((0 : Int), ((0 : Int), ((0 : Int), (([] : List (List UInt8)), ([] : List (Int × Bool × Int × Int × Int)))))))).2.2.2.2.2).getD x_6.toNat ((0 : Int), (false, ((0 : Int), ((0 : Int), (0 : Int)))))).1 < (1 : Int))) then (F7_j190 n (loopF (F7_l159 n c_Value c_Name c_Attr c_Power c_Faces) n159) (loopF (F7_l189 n (loopF (F7_l159 n c_Value c_Name c_Attr c_Power c_Faces) n159) c_Faces rest x_2) n189) c_Faces rest x_2 x_6 m2 true) else (bif (decide ((((c_Faces.getD x_2.toNat ((0 : Int), ((0 : Int), ((0 : Int), ((0 : Int), (([] : List (List UInt8)), ([] : List (Int × Bool × Int × Int × Int)))))))).2.2.2.2.2).getD x_6.toNat ((0 : Int), (false, ((0 : Int), ((0 : Int), (0 : Int)))))).1 > (15 : Int))) then (F7_j190 n (loopF (F7_l159 n c_Value c_Name c_Attr c_Power c_Faces) n159) (loopF (F7_l189 n (loopF (F7_l159 n c_Value c_Name c_Attr c_Power c_Faces) n159) c_Faces rest x_2) n189) c_Faces rest x_2 x_6 m2 true) else ((F44 n (3 : Int) ([(((c_Faces.getD x_2.toNat ((0 : Int), ((0 : Int), ((0 : Int), ((0 : Int), (([] : List (List UInt8)), ([] : List (Int × Bool × Int × Int × Int)))))))).2.2.2.2.2).getD x_6.toNat ((0 : Int), (false, ((0 : Int), ((0 : Int), (0 : Int)))))).2.2.1])).bind fun y_10 => (bif (!y_10) then (F7_j190 n (loopF (F7_l159 n c_Value c_Name c_Attr c_Power c_Faces) n159) (loopF (F7_l189 n (loopF (F7_l159 n c_Value c_Name c_Attr c_Power c_Faces) n159) c_Faces rest x_2) n189) c_Faces rest x_2 x_6 m2 true) else (bif (decide ((((c_Faces.getD x_2.toNat ((0 : Int), ((0 : Int), ((0 : Int), ((0 : Int), (([] : List (List UInt8)), ([] : List (Int × Bool × Int × Int × Int)))))))).2.2.2.2.2).getD x_6.toNat ((0 : Int), (false, ((0 : Int), ((0 : Int), (0 : Int)))))).2.2.2.1 < (1 : Int))) then (F7_j190 n (loopF (F7_l159 n c_Value c_Name c_Attr c_Power c_Faces) n159) (loopF (F7_l189 n (loopF (F7_l159 n c_Value c_Name c_Attr c_Power c_Faces) n159) c_Faces rest x_2) n189) c_Faces rest x_2 x_6 m2 true) else (bif (decide ((((c_Faces.getD x_2.toNat ((0 : Int), ((0 : Int), ((0 : Int), ((0 : Int), (([] : List (List UInt8)), ([] : List (Int × Bool × Int × Int × Int)))))))).2.2.2.2.2).getD x_6.toNat ((0 : Int), (false, ((0 : Int), ((0 : Int), (0 : Int)))))).2.2.2.1 > (64 : Int))) then (F7_j190 n (loopF (F7_l159 n c_Value c_Name c_Attr c_Power c_Faces) n159) (loopF (F7_l189 n (loopF (F7_l159 n c_Value c_Name c_Attr c_Power c_Faces) n159) c_Faces rest x_2) n189) c_Faces rest x_2 x_6 m2 true) else ((F16 n ([(((c_Faces.getD x_2.toNat ((0 : Int), ((0 : Int), ((0 : Int), ((0 : Int), (([] : List (List UInt8)), ([] : List (Int × Bool × Int × Int × Int)))))))).2.2.2.2.2).getD x_6.toNat ((0 : Int), (false, ((0 : Int), ((0 : Int), (0 : Int)))))).2.2.2.2])).bind fun y_11 => (F7_j190 n (loopF (F7_l159 n c_Value c_Name c_Attr c_Power c_Faces) n159) (loopF (F7_l189 n (loopF (F7_l159 n c_Value c_Name c_Attr c_Power c_Faces) n159) c_Faces rest x_2) n189) c_Faces rest x_2 x_6 m2 (!y_11))))))))) else none) else (F7_j173 n (loopF (F7_l159 n c_Value c_Name c_Attr c_Power c_Faces) n159) c_Faces rest x_2 ((0 : Int), m2))) = some r := h
                          refine TS.seq ?_
                          have hq : (True) ∧ (True) := ⟨trivial, trivial⟩
                          refine TS.reg [] ?_ ?_
                          · apply prop_of ?_ hq
                            kernel_rfl
                          refine XS.then ?_
                          refine TS.seq ?_
                          rcases bif_some h with ⟨c38, h⟩ | ⟨c39, h⟩
                          · refine TS.cond (decide (x_6 < ((((c_Faces.getD x_2.toNat ((0 : Int), ((0 : Int), ((0 : Int), ((0 : Int), (([] : List (List UInt8)), ([] : List (Int × Bool × Int × Int × Int)))))))).2.2.2.2.2).length : Nat) : Int))) ?_ (fun hcz => ?_) (fun hcz => by rw [c38] at hcz; cases hcz)
                            · kernel_rfl
                            refine TS.skip ?_
                            refine XS.then ?_
                            refine TS.seq ?_
                            refine TS.block ?_
                            refine TS.seq ?_
                            obtain ⟨t40, h⟩ := test_some h
                            have hq : (inR x_6 (((c_Faces.getD x_2.toNat ((0 : Int), ((0 : Int), ((0 : Int), ((0 : Int), (([] : List (List UInt8)), ([] : List (Int × Bool × Int × Int × Int)))))))).2.2.2.2.2).length)) ∧ ((True) ∧ ((True) ∧ ((True) ∧ (True)))) := ⟨inb_ok t40, ⟨trivial, ⟨trivial, ⟨trivial, trivial⟩⟩⟩⟩
                            refine TS.reg [] ?_ ?_
                            · apply prop_of ?_ hq
                              kernel_rfl
                            refine XS.then ?_
                            refine TS.seq ?_
                            refine TS.seq ?_
                            refine TS.cut (D := Bool) (fun d => match d with | x_7 => (mkTs 92 [(1, (.mp 2)), (8, (.ptr 4 [])), (43, (.sl (.st (.pair (.int .i64) (.pair .bool (.pair (.int .i64) (.pair (.int .i64) (.int .i64)))))) (c_Faces.getD x_2.toNat ((0 : Int), ((0 : Int), ((0 : Int), ((0 : Int), (([] : List (List UInt8)), ([] : List (Int × Bool × Int × Int × Int)))))))).2.2.2.2.2)), (44, (.int .i64 ((((c_Faces.getD x_2.toNat ((0 : Int), ((0 : Int), ((0 : Int), ((0 : Int), (([] : List (List UInt8)), ([] : List (Int × Bool × Int × Int × Int)))))))).2.2.2.2.2).length : Nat) : Int))), (45, (.int .i64 x_6)), (80, (.bool x_7))], [(.sav (mkTs 126 [(1, (.ptr 1 [])), (4, (.mp 2)), (5, (.str rest)), (6, (.int .i64 x_2)), (7, (.ptr 3 [])), (39, (.sl (.st (.pair (.int .i64) (.pair (.int .i64) (.pair (.int .i64) (.pair (.int .i64) (.pair (.sl .str) (.sl (.st (.pair (.int .i64) (.pair .bool (.pair (.int .i64) (.pair (.int .i64) (.int .i64))))))))))))) c_Faces)), (40, (.int .i64 ((c_Faces.length : Nat) : Int))), (41, (.int .i64 x_2))]) fv6), (.box 24 (.st (.cons (.int .i64 c_Value) (.cons (.int .i64 c_Name) (.cons (.int .i64 c_Attr) (.cons (.int .i64 c_Power) (.sl (.st (.pair (.int .i64) (.pair (.int .i64) (.pair (.int .i64) (.pair (.int .i64) (.pair (.sl .str) (.sl (.st (.pair (.int .i64) (.pair .bool (.pair (.int .i64) (.pair (.int .i64) (.int .i64))))))))))))) c_Faces))))))), (.map 46 (.st (.pair (.int .i64) .bool)) .bool m2), (.box 49 (.st (.cons (.int .i64 (c_Faces.getD x_2.toNat ((0 : Int), ((0 : Int), ((0 : Int), ((0 : Int), (([] : List (List UInt8)), ([] : List (Int × Bool × Int × Int × Int)))))))).1) (.cons (.int .i64 (c_Faces.getD x_2.toNat ((0 : Int), ((0 : Int), ((0 : Int), ((0 : Int), (([] : List (List UInt8)), ([] : List (Int × Bool × Int × Int × Int)))))))).2.1) (.cons (.int .i64 (c_Faces.getD x_2.toNat ((0 : Int), ((0 : Int), ((0 : Int), ((0 : Int), (([] : List (List UInt8)), ([] : List (Int × Bool × Int × Int × Int)))))))).2.2.1) (.cons (.int .i64 (c_Faces.getD x_2.toNat ((0 : Int), ((0 : Int), ((0 : Int), ((0 : Int), (([] : List (List UInt8)), ([] : List (Int × Bool × Int × Int × Int)))))))).2.2.2.1) (.cons (.sl .str (c_Faces.getD x_2.toNat ((0 : Int), ((0 : Int), ((0 : Int), ((0 : Int), (([] : List (List UInt8)), ([] : List (Int × Bool × Int × Int × Int)))))))).2.2.2.2.1) (.sl (.st (.pair (.int .i64) (.pair .bool (.pair (.int .i64) (.pair (.int .i64) (.int .i64)))))) (c_Faces.getD x_2.toNat ((0 : Int), ((0 : Int), ((0 : Int), ((0 : Int), (([] : List (List UInt8)), ([] : List (Int × Bool × Int × Int × Int)))))))).2.2.2.2.2)))))))), (.box 54 (.st (.cons (.int .i64 (((c_Faces.getD x_2.toNat ((0 : Int), ((0 : Int), ((0 : Int), ((0 : Int), (([] : List (List UInt8)), ([] : List (Int × Bool × Int × Int × Int)))))))).2.2.2.2.2).getD x_6.toNat ((0 : Int), (false, ((0 : Int), ((0 : Int), (0 : Int)))))).1) (.cons (.bool (((c_Faces.getD x_2.toNat ((0 : Int), ((0 : Int), ((0 : Int), ((0 : Int), (([] : List (List UInt8)), ([] : List (Int × Bool × Int × Int × Int)))))))).2.2.2.2.2).getD x_6.toNat ((0 : Int), (false, ((0 : Int), ((0 : Int), (0 : Int)))))).2.1) (.cons (.int .i64 (((c_Faces.getD x_2.toNat ((0 : Int), ((0 : Int), ((0 : Int), ((0 : Int), (([] : List (List UInt8)), ([] : List (Int × Bool × Int × Int × Int)))))))).2.2.2.2.2).getD x_6.toNat ((0 : Int), (false, ((0 : Int), ((0 : Int), (0 : Int)))))).2.2.1) (.cons (.int .i64 (((c_Faces.getD x_2.toNat ((0 : Int), ((0 : Int), ((0 : Int), ((0 : Int), (([] : List (List UInt8)), ([] : List (Int × Bool × Int × Int × Int)))))))).2.2.2.2.2).getD x_6.toNat ((0 : Int), (false, ((0 : Int), ((0 : Int), (0 : Int)))))).2.2.2.1) (.int .i64 (((c_Faces.getD x_2.toNat ((0 : Int), ((0 : Int), ((0 : Int), ((0 : Int), (([] : List (List UInt8)), ([] : List (Int × Bool × Int × Int × Int)))))))).2.2.2.2.2).getD x_6.toNat ((0 : Int), (false, ((0 : Int), ((0 : Int), (0 : Int)))))).2.2.2.2)))))))])) (fun d => F7_j190 n (loopF (F7_l159 n c_Value c_Name c_Attr c_Power c_Faces) n159) (loopF (F7_l189 n (loopF (F7_l159 n c_Value c_Name c_Attr c_Power c_Faces) n159) c_Faces rest x_2) n189) c_Faces rest x_2 x_6 m2 d = some r) ?_ ?_
                            · rintro x_7 h
                              replace h : (bif x_7 then (F7_j173 n (loopF (F7_l159 n c_Value c_Name c_Attr c_Power c_Faces) n159) c_Faces rest x_2 ((1 : Int), m2)) else (bif ((mapGet (.st (.pair (.int .i64) .bool)) .bool ((((c_Faces.getD x_2.toNat ((0 : Int), ((0 : Int), ((0 : Int), ((0 : Int), (([] : List (List UInt8)), ([] : List (Int × Bool × Int × Int × Int)))))))).2.2.2.2.2).getD x_6.toNat ((0 : Int), (false, ((0 : Int), ((0 : Int), (0 : Int)))))).1, (((c_Faces.getD x_2.toNat ((0 : Int), ((0 : Int), ((0 : Int), ((0 : Int), (([] : List (List UInt8)), ([] : List (Int × Bool × Int × Int × Int)))))))).2.2.2.2.2).getD x_6.toNat ((0 : Int), (false, ((0 : Int), ((0 : Int), (0 : Int)))))).2.1) m2).getD false) then (F7_j173 n (loopF (F7_l159 n c_Value c_Name c_Attr c_Power c_Faces) n159) c_Faces rest x_2 ((13 : Int), m2)) else ((loopF (F7_l189 n (loopF (F7_l159 n c_Value c_Name c_Attr c_Power c_Faces) n159) c_Faces rest x_2) n189) ((IntKind.wrap .i64 (x_6 + (1 : Int))), (mapPut (.st (.pair (.int .i64) .bool)) .bool ((((c_Faces.getD x_2.toNat ((0 : Int), ((0 : Int), ((0 : Int), ((0 : Int), (([] : List (List UInt8)), ([] : List (Int × Bool × Int × Int × Int)))))))).2.2.2.2.2).getD x_6.toNat ((0 : Int), (false, ((0 : Int), ((0 : Int), (0 : Int)))))).1, (((c_Faces.getD x_2.toNat ((0 : Int), ((0 : Int), ((0 : Int), ((0 : Int), (([] : List (List UInt8)), ([] : List (Int × Bool × Int × Int × Int)))))))).2.2.2.2.2).getD x_6.toNat ((0 : Int), (false, ((0 : Int), ((0 : Int), (0 : Int)))))).2.1) true m2))))) = some r := h
                              refine XS.then ?_
                              rcases bif_some h with ⟨c41, h⟩ | ⟨c42, h⟩
                              · refine TS.cond x_7 ?_ (fun hcz => ?_) (fun hcz => by rw [c41] at hcz; cases hcz)
                                · kernel_rfl
                                refine TS.seq ?_
                                have hq : (True) ∧ (True) := ⟨trivial, trivial⟩
                                refine TS.reg [] ?_ ?_
                                · apply prop_of ?_ hq
                                  kernel_rfl
                                refine XS.then ?_
                                refine TS.ret ?_
                                refine XS.passR ?_
                                refine XS.blockRet ?_
                                refine XS.passR ?_
                                refine XS.passR ?_
                                refine XS.blockRet ?_
                                refine XS.passR ?_
                                refine XS.backR 0 (mkTs 126 [(1, (.ptr 1 [])), (4, (.mp 2)), (5, (.str rest)), (6, (.int .i64 x_2)), (7, (.ptr 3 [])), (39, (.sl (.st (.pair (.int .i64) (.pair (.int .i64) (.pair (.int .i64) (.pair (.int .i64) (.pair (.sl .str) (.sl (.st (.pair (.int .i64) (.pair .bool (.pair (.int .i64) (.pair (.int .i64) (.int .i64))))))))))))) c_Faces)), (40, (.int .i64 ((c_Faces.length : Nat) : Int))), (41, (.int .i64 x_2))]) (mkTs 126 [(1, (.ptr 1 [])), (4, (.mp 2)), (5, (.str rest)), (6, (.int .i64 x_2)), (7, (.ptr 3 [])), (39, (.sl (.st (.pair (.int .i64) (.pair (.int .i64) (.pair (.int .i64) (.pair (.int .i64) (.pair (.sl .str) (.sl (.st (.pair (.int .i64) (.pair .bool (.pair (.int .i64) (.pair (.int .i64) (.int .i64))))))))))))) c_Faces)), (40, (.int .i64 ((c_Faces.length : Nat) : Int))), (41, (.int .i64 x_2)), (48, (.int .i64 (1 : Int)))], [.dead, (.box 24 (.st (.cons (.int .i64 c_Value) (.cons (.int .i64 c_Name) (.cons (.int .i64 c_Attr) (.cons (.int .i64 c_Power) (.sl (.st (.pair (.int .i64) (.pair (.int .i64) (.pair (.int .i64) (.pair (.int .i64) (.pair (.sl .str) (.sl (.st (.pair (.int .i64) (.pair .bool (.pair (.int .i64) (.pair (.int .i64) (.int .i64))))))))))))) c_Faces))))))), (.map 46 (.st (.pair (.int .i64) .bool)) .bool m2), (.box 49 (.st (.cons (.int .i64 (c_Faces.getD x_2.toNat ((0 : Int), ((0 : Int), ((0 : Int), ((0 : Int), (([] : List (List UInt8)), ([] : List (Int × Bool × Int × Int × Int)))))))).1) (.cons (.int .i64 (c_Faces.getD x_2.toNat ((0 : Int), ((0 : Int), ((0 : Int), ((0 : Int), (([] : List (List UInt8)), ([] : List (Int × Bool × Int × Int × Int)))))))).2.1) (.cons (.int .i64 (c_Faces.getD x_2.toNat ((0 : Int), ((0 : Int), ((0 : Int), ((0 : Int), (([] : List (List UInt8)), ([] : List (Int × Bool × Int × Int × Int)))))))).2.2.1) (.cons (.int .i64 (c_Faces.getD x_2.toNat ((0 : Int), ((0 : Int), ((0 : Int), ((0 : Int), (([] : List (List UInt8)), ([] : List (Int × Bool × Int × Int × Int)))))))).2.2.2.1) (.cons (.sl .str (c_Faces.getD x_2.toNat ((0 : Int), ((0 : Int), ((0 : Int), ((0 : Int), (([] : List (List UInt8)), ([] : List (Int × Bool × Int × Int × Int)))))))).2.2.2.2.1) (.sl (.st (.pair (.int .i64) (.pair .bool (.pair (.int .i64) (.pair (.int .i64) (.int .i64)))))) (c_Faces.getD x_2.toNat ((0 : Int), ((0 : Int), ((0 : Int), ((0 : Int), (([] : List (List UInt8)), ([] : List (Int × Bool × Int × Int × Int)))))))).2.2.2.2.2)))))))), (.box 54 (.st (.cons (.int .i64 (((c_Faces.getD x_2.toNat ((0 : Int), ((0 : Int), ((0 : Int), ((0 : Int), (([] : List (List UInt8)), ([] : List (Int × Bool × Int × Int × Int)))))))).2.2.2.2.2).getD x_6.toNat ((0 : Int), (false, ((0 : Int), ((0 : Int), (0 : Int)))))).1) (.cons (.bool (((c_Faces.getD x_2.toNat ((0 : Int), ((0 : Int), ((0 : Int), ((0 : Int), (([] : List (List UInt8)), ([] : List (Int × Bool × Int × Int × Int)))))))).2.2.2.2.2).getD x_6.toNat ((0 : Int), (false, ((0 : Int), ((0 : Int), (0 : Int)))))).2.1) (.cons (.int .i64 (((c_Faces.getD x_2.toNat ((0 : Int), ((0 : Int), ((0 : Int), ((0 : Int), (([] : List (List UInt8)), ([] : List (Int × Bool × Int × Int × Int)))))))).2.2.2.2.2).getD x_6.toNat ((0 : Int), (false, ((0 : Int), ((0 : Int), (0 : Int)))))).2.2.1) (.cons (.int .i64 (((c_Faces.getD x_2.toNat ((0 : Int), ((0 : Int), ((0 : Int), ((0 : Int), (([] : List (List UInt8)), ([] : List (Int × Bool × Int × Int × Int)))))))).2.2.2.2.2).getD x_6.toNat ((0 : Int), (false, ((0 : Int), ((0 : Int), (0 : Int)))))).2.2.2.1) (.int .i64 (((c_Faces.getD x_2.toNat ((0 : Int), ((0 : Int), ((0 : Int), ((0 : Int), (([] : List (List UInt8)), ([] : List (Int × Bool × Int × Int × Int)))))))).2.2.2.2.2).getD x_6.toNat ((0 : Int), (false, ((0 : Int), ((0 : Int), (0 : Int)))))).2.2.2.2)))))))]) ((True) ∧ (True)) (by kernel_rfl) (by kernel_rfl) ⟨trivial, trivial⟩ ?_
                                refine KS.ofX ?_
                                refine XS.reAny [1, 2, 3] (mkMask 126 [1, 4, 5, 6, 7, 39, 40, 41, 48]) ((1 : Int), m2) h ?_
                                kernel_rfl
                              · refine TS.cond x_7 ?_ (fun hcz => by rw [c42] at hcz; cases hcz) (fun hcz => ?_)
                                · kernel_rfl
                                refine TS.skip ?_
                                refine XS.then ?_
                                refine TS.seq ?_
                                have hq : (True) ∧ ((True) ∧ ((True) ∧ ((True) ∧ (((True) ∧ ((True) ∧ (True))) ∧ ((True) ∧ ((True) ∧ (True))))))) := ⟨trivial, ⟨trivial, ⟨trivial, ⟨trivial, ⟨⟨trivial, ⟨trivial, trivial⟩⟩, ⟨trivial, ⟨trivial, trivial⟩⟩⟩⟩⟩⟩⟩
                                refine TS.reg [] ?_ ?_
                                · apply prop_of ?_ hq
                                  kernel_rfl
                                refine XS.then ?_
                                refine TS.seq ?_
                                refine TS.seq ?_
                                have hq : (True) ∧ ((True) ∧ ((True) ∧ (True))) := ⟨trivial, ⟨trivial, ⟨trivial, trivial⟩⟩⟩
                                refine TS.reg [] ?_ ?_
                                · apply prop_of ?_ hq
                                  kernel_rfl
                                refine XS.then ?_
                                rcases bif_some h with ⟨c43, h⟩ | ⟨c44, h⟩
                                · refine TS.cond ((mapGet (.st (.pair (.int .i64) .bool)) .bool ((((c_Faces.getD x_2.toNat ((0 : Int), ((0 : Int), ((0 : Int), ((0 : Int), (([] : List (List UInt8)), ([] : List (Int × Bool × Int × Int × Int)))))))).2.2.2.2.2).getD x_6.toNat ((0 : Int), (false, ((0 : Int), ((0 : Int), (0 : Int)))))).1, (((c_Faces.getD x_2.toNat ((0 : Int), ((0 : Int), ((0 : Int), ((0 : Int), (([] : List (List UInt8)), ([] : List (Int × Bool × Int × Int × Int)))))))).2.2.2.2.2).getD x_6.toNat ((0 : Int), (false, ((0 : Int), ((0 : Int), (0 : Int)))))).2.1) m2).getD false) ?_ (fun hcz => ?_) (fun hcz => by rw [c43] at hcz; cases hcz)
                                  · kernel_rfl
                                  refine TS.seq ?_
                                  have hq : (True) ∧ (True) := ⟨trivial, trivial⟩
                                  refine TS.reg [] ?_ ?_
                                  · apply prop_of ?_ hq
                                    kernel_rfl
                                  refine XS.then ?_
                                  refine TS.ret ?_
                                  refine XS.passR ?_
                                  refine XS.blockRet ?_
                                  refine XS.passR ?_
                                  refine XS.passR ?_
                                  refine XS.blockRet ?_
                                  refine XS.passR ?_
                                  refine XS.backR 0 (mkTs 126 [(1, (.ptr 1 [])), (4, (.mp 2)), (5, (.str rest)), (6, (.int .i64 x_2)), (7, (.ptr 3 [])), (39, (.sl (.st (.pair (.int .i64) (.pair (.int .i64) (.pair (.int .i64) (.pair (.int .i64) (.pair (.sl .str) (.sl (.st (.pair (.int .i64) (.pair .bool (.pair (.int .i64) (.pair (.int .i64) (.int .i64))))))))))))) c_Faces)), (40, (.int .i64 ((c_Faces.length : Nat) : Int))), (41, (.int .i64 x_2))]) (mkTs 126 [(1, (.ptr 1 [])), (4, (.mp 2)), (5, (.str rest)), (6, (.int .i64 x_2)), (7, (.ptr 3 [])), (39, (.sl (.st (.pair (.int .i64) (.pair (.int .i64) (.pair (.int .i64) (.pair (.int .i64) (.pair (.sl .str) (.sl (.st (.pair (.int .i64) (.pair .bool (.pair (.int .i64) (.pair (.int .i64) (.int .i64))))))))))))) c_Faces)), (40, (.int .i64 ((c_Faces.length : Nat) : Int))), (41, (.int .i64 x_2)), (48, (.int .i64 (13 : Int)))], [.dead, (.box 24 (.st (.cons (.int .i64 c_Value) (.cons (.int .i64 c_Name) (.cons (.int .i64 c_Attr) (.cons (.int .i64 c_Power) (.sl (.st (.pair (.int .i64) (.pair (.int .i64) (.pair (.int .i64) (.pair (.int .i64) (.pair (.sl .str) (.sl (.st (.pair (.int .i64) (.pair .bool (.pair (.int .i64) (.pair (.int .i64) (.int .i64))))))))))))) c_Faces))))))), (.map 46 (.st (.pair (.int .i64) .bool)) .bool m2), (.box 49 (.st (.cons (.int .i64 (c_Faces.getD x_2.toNat ((0 : Int), ((0 : Int), ((0 : Int), ((0 : Int), (([] : List (List UInt8)), ([] : List (Int × Bool × Int × Int × Int)))))))).1) (.cons (.int .i64 (c_Faces.getD x_2.toNat ((0 : Int), ((0 : Int), ((0 : Int), ((0 : Int), (([] : List (List UInt8)), ([] : List (Int × Bool × Int × Int × Int)))))))).2.1) (.cons (.int .i64 (c_Faces.getD x_2.toNat ((0 : Int), ((0 : Int), ((0 : Int), ((0 : Int), (([] : List (List UInt8)), ([] : List (Int × Bool × Int × Int × Int)))))))).2.2.1) (.cons (.int .i64 (c_Faces.getD x_2.toNat ((0 : Int), ((0 : Int), ((0 : Int), ((0 : Int), (([] : List (List UInt8)), ([] : List (Int × Bool × Int × Int × Int)))))))).2.2.2.1) (.cons (.sl .str (c_Faces.getD x_2.toNat ((0 : Int), ((0 : Int), ((0 : Int), ((0 : Int), (([] : List (List UInt8)), ([] : List (Int × Bool × Int × Int × Int)))))))).2.2.2.2.1) (.sl (.st (.pair (.int .i64) (.pair .bool (.pair (.int .i64) (.pair (.int .i64) (.int .i64)))))) (c_Faces.getD x_2.toNat ((0 : Int), ((0 : Int), ((0 : Int), ((0 : Int), (([] : List (List UInt8)), ([] : List (Int × Bool × Int × Int × Int)))))))).2.2.2.2.2)))))))), (.box 54 (.st (.cons (.int .i64 (((c_Faces.getD x_2.toNat ((0 : Int), ((0 : Int), ((0 : Int), ((0 : Int), (([] : List (List UInt8)), ([] : List (Int × Bool × Int × Int × Int)))))))).2.2.2.2.2).getD x_6.toNat ((0 : Int), (false, ((0 : Int), ((0 : Int), (0 : Int)))))).1) (.cons (.bool (((c_Faces.getD x_2.toNat ((0 : Int), ((0 : Int), ((0 : Int), ((0 : Int), (([] : List (List UInt8)), ([] : List (Int × Bool × Int × Int × Int)))))))).2.2.2.2.2).getD x_6.toNat ((0 : Int), (false, ((0 : Int), ((0 : Int), (0 : Int)))))).2.1) (.cons (.int .i64 (((c_Faces.getD x_2.toNat ((0 : Int), ((0 : Int), ((0 : Int), ((0 : Int), (([] : List (List UInt8)), ([] : List (Int × Bool × Int × Int × Int)))))))).2.2.2.2.2).getD x_6.toNat ((0 : Int), (false, ((0 : Int), ((0 : Int), (0 : Int)))))).2.2.1) (.cons (.int .i64 (((c_Faces.getD x_2.toNat ((0 : Int), ((0 : Int), ((0 : Int), ((0 : Int), (([] : List (List UInt8)), ([] : List (Int × Bool × Int × Int × Int)))))))).2.2.2.2.2).getD x_6.toNat ((0 : Int), (false, ((0 : Int), ((0 : Int), (0 : Int)))))).2.2.2.1) (.int .i64 (((c_Faces.getD x_2.toNat ((0 : Int), ((0 : Int), ((0 : Int), ((0 : Int), (([] : List (List UInt8)), ([] : List (Int × Bool × Int × Int × Int)))))))).2.2.2.2.2).getD x_6.toNat ((0 : Int), (false, ((0 : Int), ((0 : Int), (0 : Int)))))).2.2.2.2))))))), (.box 86 (.st (.cons (.int .i64 (((c_Faces.getD x_2.toNat ((0 : Int), ((0 : Int), ((0 : Int), ((0 : Int), (([] : List (List UInt8)), ([] : List (Int × Bool × Int × Int × Int)))))))).2.2.2.2.2).getD x_6.toNat ((0 : Int), (false, ((0 : Int), ((0 : Int), (0 : Int)))))).1) (.bool (((c_Faces.getD x_2.toNat ((0 : Int), ((0 : Int), ((0 : Int), ((0 : Int), (([] : List (List UInt8)), ([] : List (Int × Bool × Int × Int × Int)))))))).2.2.2.2.2).getD x_6.toNat ((0 : Int), (false, ((0 : Int), ((0 : Int), (0 : Int)))))).2.1))))]) ((True) ∧ (True)) (by kernel_rfl) (by kernel_rfl) ⟨trivial, trivial⟩ ?_
                                  refine KS.ofX ?_
                                  refine XS.reAny [1, 2, 3] (mkMask 126 [1, 4, 5, 6, 7, 39, 40, 41, 48]) ((13 : Int), m2) h ?_
                                  kernel_rfl
                                · refine TS.cond ((mapGet (.st (.pair (.int .i64) .bool)) .bool ((((c_Faces.getD x_2.toNat ((0 : Int), ((0 : Int), ((0 : Int), ((0 : Int), (([] : List (List UInt8)), ([] : List (Int × Bool × Int × Int × Int)))))))).2.2.2.2.2).getD x_6.toNat ((0 : Int), (false, ((0 : Int), ((0 : Int), (0 : Int)))))).1, (((c_Faces.getD x_2.toNat ((0 : Int), ((0 : Int), ((0 : Int), ((0 : Int), (([] : List (List UInt8)), ([] : List (Int × Bool × Int × Int × Int)))))))).2.2.2.2.2).getD x_6.toNat ((0 : Int), (false, ((0 : Int), ((0 : Int), (0 : Int)))))).2.1) m2).getD false) ?_ (fun hcz => by rw [c44] at hcz; cases hcz) (fun hcz => ?_)
                                  · kernel_rfl
                                  refine TS.skip ?_
                                  refine XS.then ?_
                                  have hq : (True) ∧ ((True) ∧ ((True) ∧ (True))) := ⟨trivial, ⟨trivial, ⟨trivial, trivial⟩⟩⟩
                                  refine TS.reg [] ?_ ?_
                                  · apply prop_of ?_ hq
                                    kernel_rfl
                                  refine XS.blockEnd ?_
                                  refine XS.then ?_
                                  have hq : (True) ∧ ((True) ∧ (True)) := ⟨trivial, ⟨trivial, trivial⟩⟩
                                  refine TS.reg [] ?_ ?_
                                  · apply prop_of ?_ hq
                                    kernel_rfl
                                  refine XS.reAny [0, 1, 2, 3] (mkMask 92 [1, 43, 44, 45]) ((IntKind.wrap .i64 (x_6 + (1 : Int))), (mapPut (.st (.pair (.int .i64) .bool)) .bool ((((c_Faces.getD x_2.toNat ((0 : Int), ((0 : Int), ((0 : Int), ((0 : Int), (([] : List (List UInt8)), ([] : List (Int × Bool × Int × Int × Int)))))))).2.2.2.2.2).getD x_6.toNat ((0 : Int), (false, ((0 : Int), ((0 : Int), (0 : Int)))))).1, (((c_Faces.getD x_2.toNat ((0 : Int), ((0 : Int), ((0 : Int), ((0 : Int), (([] : List (List UInt8)), ([] : List (Int × Bool × Int × Int × Int)))))))).2.2.2.2.2).getD x_6.toNat ((0 : Int), (false, ((0 : Int), ((0 : Int), (0 : Int)))))).2.1) true m2)) h ?_
                                  kernel_rfl
                            · rcases bif_some h with ⟨c45, h⟩ | ⟨c46, h⟩
                              · have hq : (True) ∧ ((True) ∧ ((True) ∧ (((True) ∧ (decide ((((c_Faces.getD x_2.toNat ((0 : Int), ((0 : Int), ((0 : Int), ((0 : Int), (([] : List (List UInt8)), ([] : List (Int × Bool × Int × Int × Int)))))))).2.2.2.2.2).getD x_6.toNat ((0 : Int), (false, ((0 : Int), ((0 : Int), (0 : Int)))))).1 < (1 : Int))) = true) ∧ ((True) ∧ ((True) ∧ ((True) ∧ ((True) ∧ ((True) ∧ ((True) ∧ ((True) ∧ ((True) ∧ ((True) ∧ (True))))))))))))) := ⟨trivial, ⟨trivial, ⟨trivial, ⟨⟨trivial, c45⟩, ⟨trivial, ⟨trivial, ⟨trivial, ⟨trivial, ⟨trivial, ⟨trivial, ⟨trivial, ⟨trivial, ⟨trivial, trivial⟩⟩⟩⟩⟩⟩⟩⟩⟩⟩⟩⟩⟩
                                refine TS.reg [.none, .none, .none, .dec true] ?_ ?_
                                · apply prop_of ?_ hq
                                  kernel_rfl
                                refine XS.reAny [0, 1, 2, 3, 4] (mkMask 92 [1, 8, 43, 44, 45, 80]) true h ?_
                                kernel_rfl
                              · rcases bif_some h with ⟨c47, h⟩ | ⟨c48, h⟩
                                · have hq : (True) ∧ ((True) ∧ ((True) ∧ (((True) ∧ (decide ((((c_Faces.getD x_2.toNat ((0 : Int), ((0 : Int), ((0 : Int), ((0 : Int), (([] : List (List UInt8)), ([] : List (Int × Bool × Int × Int × Int)))))))).2.2.2.2.2).getD x_6.toNat ((0 : Int), (false, ((0 : Int), ((0 : Int), (0 : Int)))))).1 < (1 : Int))) = false) ∧ ((True) ∧ ((True) ∧ ((True) ∧ ((True) ∧ (((True) ∧ (decide ((((c_Faces.getD x_2.toNat ((0 : Int), ((0 : Int), ((0 : Int), ((0 : Int), (([] : List (List UInt8)), ([] : List (Int × Bool × Int × Int × Int)))))))).2.2.2.2.2).getD x_6.toNat ((0 : Int), (false, ((0 : Int), ((0 : Int), (0 : Int)))))).1 > (15 : Int))) = true) ∧ ((True) ∧ ((True) ∧ ((True) ∧ ((True) ∧ ((True) ∧ ((True) ∧ ((True) ∧ (True)))))))))))))))) := ⟨trivial, ⟨trivial, ⟨trivial, ⟨⟨trivial, c46⟩, ⟨trivial, ⟨trivial, ⟨trivial, ⟨trivial, ⟨⟨trivial, c47⟩, ⟨trivial, ⟨trivial, ⟨trivial, ⟨trivial, ⟨trivial, ⟨trivial, ⟨trivial, trivial⟩⟩⟩⟩⟩⟩⟩⟩⟩⟩⟩⟩⟩⟩⟩⟩
                                  refine TS.reg [.none, .none, .none, .dec false, .none, .none, .none, .none, .dec true] ?_ ?_
                                  · apply prop_of ?_ hq
                                    kernel_rfl
                                  refine XS.reAny [0, 1, 2, 3, 4] (mkMask 92 [1, 8, 43, 44, 45, 80]) true h ?_
                                  kernel_rfl
                                · obtain ⟨y_10, hx49, h⟩ := bind_some' h
                                  rcases bif_some h with ⟨c50, h⟩ | ⟨c51, h⟩
                                  · have hq : (True) ∧ ((True) ∧ ((True) ∧ (((True) ∧ (decide ((((c_Faces.getD x_2.toNat ((0 : Int), ((0 : Int), ((0 : Int), ((0 : Int), (([] : List (List UInt8)), ([] : List (Int × Bool × Int × Int × Int)))))))).2.2.2.2.2).getD x_6.toNat ((0 : Int), (false, ((0 : Int), ((0 : Int), (0 : Int)))))).1 < (1 : Int))) = false) ∧ ((True) ∧ ((True) ∧ ((True) ∧ ((True) ∧ (((True) ∧ (decide ((((c_Faces.getD x_2.toNat ((0 : Int), ((0 : Int), ((0 : Int), ((0 : Int), (([] : List (List UInt8)), ([] : List (Int × Bool × Int × Int × Int)))))))).2.2.2.2.2).getD x_6.toNat ((0 : Int), (false, ((0 : Int), ((0 : Int), (0 : Int)))))).1 > (15 : Int))) = false) ∧ ((True) ∧ ((True) ∧ (((0 < 1 ∧ True) ∧ (True)) ∧ ((((True) ∧ ((True) ∧ (True))) ∧ PureC Try.prog 44 [(.int .i64 (3 : Int)), (.sl (.int .i64) [(((c_Faces.getD x_2.toNat ((0 : Int), ((0 : Int), ((0 : Int), ((0 : Int), (([] : List (List UInt8)), ([] : List (Int × Bool × Int × Int × Int)))))))).2.2.2.2.2).getD x_6.toNat ((0 : Int), (false, ((0 : Int), ((0 : Int), (0 : Int)))))).2.2.1])] (.bool y_10) []) ∧ ((True) ∧ ((True) ∧ (((True) ∧ (!y_10) = true) ∧ ((True) ∧ ((True) ∧ ((True) ∧ ((True) ∧ ((True) ∧ (True))))))))))))))))))))) := ⟨trivial, ⟨trivial, ⟨trivial, ⟨⟨trivial, c46⟩, ⟨trivial, ⟨trivial, ⟨trivial, ⟨trivial, ⟨⟨trivial, c48⟩, ⟨trivial, ⟨trivial, ⟨⟨⟨by decide, trivial⟩, trivial⟩, ⟨⟨⟨trivial, ⟨trivial, trivial⟩⟩, F44_ok n (3 : Int) ([(((c_Faces.getD x_2.toNat ((0 : Int), ((0 : Int), ((0 : Int), ((0 : Int), (([] : List (List UInt8)), ([] : List (Int × Bool × Int × Int × Int)))))))).2.2.2.2.2).getD x_6.toNat ((0 : Int), (false, ((0 : Int), ((0 : Int), (0 : Int)))))).2.2.1]) y_10 hx49⟩, ⟨trivial, ⟨trivial, ⟨⟨trivial, c50⟩, ⟨trivial, ⟨trivial, ⟨trivial, ⟨trivial, ⟨trivial, trivial⟩⟩⟩⟩⟩⟩⟩⟩⟩⟩⟩⟩⟩⟩⟩⟩⟩⟩⟩⟩⟩
                                    refine TS.reg [.none, .none, .none, .dec false, .none, .none, .none, .none, .dec false, .none, .none, .none, (.call (.bool y_10) []), .none, .none, .dec true] ?_ ?_
                                    · apply prop_of ?_ hq
                                      kernel_rfl
                                    refine XS.reAny [0, 1, 2, 3, 4] (mkMask 92 [1, 8, 43, 44, 45, 80]) true h ?_
                                    kernel_rfl
                                  · rcases bif_some h with ⟨c52, h⟩ | ⟨c53, h⟩
                                    · have hq : (True) ∧ ((True) ∧ ((True) ∧ (((True) ∧ (decide ((((c_Faces.getD x_2.toNat ((0 : Int), ((0 : Int), ((0 : Int), ((0 : Int), (([] : List (List UInt8)), ([] : List (Int × Bool × Int × Int × Int)))))))).2.2.2.2.2).getD x_6.toNat ((0 : Int), (false, ((0 : Int), ((0 : Int), (0 : Int)))))).1 < (1 : Int))) = false) ∧ ((True) ∧ ((True) ∧ ((True) ∧ ((True) ∧ (((True) ∧ (decide ((((c_Faces.getD x_2.toNat ((0 : Int), ((0 : Int), ((0 : Int), ((0 : Int), (([] : List (List UInt8)), ([] : List (Int × Bool × Int × Int × Int)))))))).2.2.2.2.2).getD x_6.toNat ((0 : Int), (false, ((0 : Int), ((0 : Int), (0 : Int)))))).1 > (15 : Int))) = false) ∧ ((True) ∧ ((True) ∧ (((0 < 1 ∧ True) ∧ (True)) ∧ ((((True) ∧ ((True) ∧ (True))) ∧ PureC Try.prog 44 [(.int .i64 (3 : Int)), (.sl (.int .i64) [(((c_Faces.getD x_2.toNat ((0 : Int), ((0 : Int), ((0 : Int), ((0 : Int), (([] : List (List UInt8)), ([] : List (Int × Bool × Int × Int × Int)))))))).2.2.2.2.2).getD x_6.toNat ((0 : Int), (false, ((0 : Int), ((0 : Int), (0 : Int)))))).2.2.1])] (.bool y_10) []) ∧ ((True) ∧ ((True) ∧ (((True) ∧ (!y_10) = false) ∧ ((True) ∧ ((True) ∧ ((True) ∧ ((True) ∧ (((True) ∧ (decide ((((c_Faces.getD x_2.toNat ((0 : Int), ((0 : Int), ((0 : Int), ((0 : Int), (([] : List (List UInt8)), ([] : List (Int × Bool × Int × Int × Int)))))))).2.2.2.2.2).getD x_6.toNat ((0 : Int), (false, ((0 : Int), ((0 : Int), (0 : Int)))))).2.2.2.1 < (1 : Int))) = true) ∧ ((True) ∧ ((True) ∧ ((True) ∧ (True)))))))))))))))))))))))) := ⟨trivial, ⟨trivial, ⟨trivial, ⟨⟨trivial, c46⟩, ⟨trivial, ⟨trivial, ⟨trivial, ⟨trivial, ⟨⟨trivial, c48⟩, ⟨trivial, ⟨trivial, ⟨⟨⟨by decide, trivial⟩, trivial⟩, ⟨⟨⟨trivial, ⟨trivial, trivial⟩⟩, F44_ok n (3 : Int) ([(((c_Faces.getD x_2.toNat ((0 : Int), ((0 : Int), ((0 : Int), ((0 : Int), (([] : List (List UInt8)), ([] : List (Int × Bool × Int × Int × Int)))))))).2.2.2.2.2).getD x_6.toNat ((0 : Int), (false, ((0 : Int), ((0 : Int), (0 : Int)))))).2.2.1]) y_10 hx49⟩, ⟨trivial, ⟨trivial, ⟨⟨trivial, c51⟩, ⟨trivial, ⟨trivial, ⟨trivial, ⟨trivial, ⟨⟨trivial, c52⟩, ⟨trivial, ⟨trivial, ⟨trivial, trivial⟩⟩⟩⟩⟩⟩⟩⟩⟩⟩⟩⟩⟩⟩⟩⟩⟩⟩⟩⟩⟩⟩⟩⟩
                                      refine TS.reg [.none, .none, .none, .dec false, .none, .none, .none, .none, .dec false, .none, .none, .none, (.call (.bool y_10) []), .none, .none, .dec false, .none, .none, .none, .none, .dec true] ?_ ?_
                                      · apply prop_of ?_ hq
                                        kernel_rfl
                                      refine XS.reAny [0, 1, 2, 3, 4] (mkMask 92 [1, 8, 43, 44, 45, 80]) true h ?_
                                      kernel_rfl
                                    · rcases bif_some h with ⟨c54, h⟩ | ⟨c55, h⟩
                                      · have hq : (True) ∧ ((True) ∧ ((True) ∧ (((True) ∧ (decide ((((c_Faces.getD x_2.toNat ((0 : Int), ((0 : Int), ((0 : Int), ((0 : Int), (([] : List (List UInt8)), ([] : List (Int × Bool × Int × Int × Int)))))))).2.2.2.2.2).getD x_6.toNat ((0 : Int), (false, ((0 : Int), ((0 : Int), (0 : Int)))))).1 < (1 : Int))) = false) ∧ ((True) ∧ ((True) ∧ ((True) ∧ ((True) ∧ (((True) ∧ (decide ((((c_Faces.getD x_2.toNat ((0 : Int), ((0 : Int), ((0 : Int), ((0 : Int), (([] : List (List UInt8)), ([] : List (Int × Bool × Int × Int × Int)))))))).2.2.2.2.2).getD x_6.toNat ((0 : Int), (false, ((0 : Int), ((0 : Int), (0 : Int)))))).1 > (15 : Int))) = false) ∧ ((True) ∧ ((True) ∧ (((0 < 1 ∧ True) ∧ (True)) ∧ ((((True) ∧ ((True) ∧ (True))) ∧ PureC Try.prog 44 [(.int .i64 (3 : Int)), (.sl (.int .i64) [(((c_Faces.getD x_2.toNat ((0 : Int), ((0 : Int), ((0 : Int), ((0 : Int), (([] : List (List UInt8)), ([] : List (Int × Bool × Int × Int × Int)))))))).2.2.2.2.2).getD x_6.toNat ((0 : Int), (false, ((0 : Int), ((0 : Int), (0 : Int)))))).2.2.1])] (.bool y_10) []) ∧ ((True) ∧ ((True) ∧ (((True) ∧ (!y_10) = false) ∧ ((True) ∧ ((True) ∧ ((True) ∧ ((True) ∧ (((True) ∧ (decide ((((c_Faces.getD x_2.toNat ((0 : Int), ((0 : Int), ((0 : Int), ((0 : Int), (([] : List (List UInt8)), ([] : List (Int × Bool × Int × Int × Int)))))))).2.2.2.2.2).getD x_6.toNat ((0 : Int), (false, ((0 : Int), ((0 : Int), (0 : Int)))))).2.2.2.1 < (1 : Int))) = false) ∧ ((True) ∧ ((True) ∧ ((True) ∧ ((True) ∧ (((True) ∧ (decide ((((c_Faces.getD x_2.toNat ((0 : Int), ((0 : Int), ((0 : Int), ((0 : Int), (([] : List (List UInt8)), ([] : List (Int × Bool × Int × Int × Int)))))))).2.2.2.2.2).getD x_6.toNat ((0 : Int), (false, ((0 : Int), ((0 : Int), (0 : Int)))))).2.2.2.1 > (64 : Int))) = true) ∧ ((True) ∧ (True))))))))))))))))))))))))))) := ⟨trivial, ⟨trivial, ⟨trivial, ⟨⟨trivial, c46⟩, ⟨trivial, ⟨trivial, ⟨trivial, ⟨trivial, ⟨⟨trivial, c48⟩, ⟨trivial, ⟨trivial, ⟨⟨⟨by decide, trivial⟩, trivial⟩, ⟨⟨⟨trivial, ⟨trivial, trivial⟩⟩, F44_ok n (3 : Int) ([(((c_Faces.getD x_2.toNat ((0 : Int), ((0 : Int), ((0 : Int), ((0 : Int), (([] : List (List UInt8)), ([] : List (Int × Bool × Int × Int × Int)))))))).2.2.2.2.2).getD x_6.toNat ((0 : Int), (false, ((0 : Int), ((0 : Int), (0 : Int)))))).2.2.1]) y_10 hx49⟩, ⟨trivial, ⟨trivial, ⟨⟨trivial, c51⟩, ⟨trivial, ⟨trivial, ⟨trivial, ⟨trivial, ⟨⟨trivial, c53⟩, ⟨trivial, ⟨trivial, ⟨trivial, ⟨trivial, ⟨⟨trivial, c54⟩, ⟨trivial, trivial⟩⟩⟩⟩⟩⟩⟩⟩⟩⟩⟩⟩⟩⟩⟩⟩⟩⟩⟩⟩⟩⟩⟩⟩⟩⟩⟩
                                        refine TS.reg [.none, .none, .none, .dec false, .none, .none, .none, .none, .dec false, .none, .none, .none, (.call (.bool y_10) []), .none, .none, .dec false, .none, .none, .none, .none, .dec false, .none, .none, .none, .none, .dec true] ?_ ?_
                                        · apply prop_of ?_ hq
                                          kernel_rfl
                                        refine XS.reAny [0, 1, 2, 3, 4] (mkMask 92 [1, 8, 43, 44, 45, 80]) true h ?_
                                        kernel_rfl
                                      · obtain ⟨y_11, hx56, h⟩ := bind_some' h
                                        have hq : (True) ∧ ((True) ∧ ((True) ∧ (((True) ∧ (decide ((((c_Faces.getD x_2.toNat ((0 : Int), ((0 : Int), ((0 : Int), ((0 : Int), (([] : List (List UInt8)), ([] : List (Int × Bool × Int × Int × Int)))))))).2.2.2.2.2).getD x_6.toNat ((0 : Int), (false, ((0 : Int), ((0 : Int), (0 : Int)))))).1 < (1 : Int))) = false) ∧ ((True) ∧ ((True) ∧ ((True) ∧ ((True) ∧ (((True) ∧ (decide ((((c_Faces.getD x_2.toNat ((0 : Int), ((0 : Int), ((0 : Int), ((0 : Int), (([] : List (List UInt8)), ([] : List (Int × Bool × Int × Int × Int)))))))).2.2.2.2.2).getD x_6.toNat ((0 : Int), (false, ((0 : Int), ((0 : Int), (0 : Int)))))).1 > (15 : Int))) = false) ∧ ((True) ∧ ((True) ∧ (((0 < 1 ∧ True) ∧ (True)) ∧ ((((True) ∧ ((True) ∧ (True))) ∧ PureC Try.prog 44 [(.int .i64 (3 : Int)), (.sl (.int .i64) [(((c_Faces.getD x_2.toNat ((0 : Int), ((0 : Int), ((0 : Int), ((0 : Int), (([] : List (List UInt8)), ([] : List (Int × Bool × Int × Int × Int)))))))).2.2.2.2.2).getD x_6.toNat ((0 : Int), (false, ((0 : Int), ((0 : Int), (0 : Int)))))).2.2.1])] (.bool y_10) []) ∧ ((True) ∧ ((True) ∧ (((True) ∧ (!y_10) = false) ∧ ((True) ∧ ((True) ∧ ((True) ∧ ((True) ∧ (((True) ∧ (decide ((((c_Faces.getD x_2.toNat ((0 : Int), ((0 : Int), ((0 : Int), ((0 : Int), (([] : List (List UInt8)), ([] : List (Int × Bool × Int × Int × Int)))))))).2.2.2.2.2).getD x_6.toNat ((0 : Int), (false, ((0 : Int), ((0 : Int), (0 : Int)))))).2.2.2.1 < (1 : Int))) = false) ∧ ((True) ∧ ((True) ∧ ((True) ∧ ((True) ∧ (((True) ∧ (decide ((((c_Faces.getD x_2.toNat ((0 : Int), ((0 : Int), ((0 : Int), ((0 : Int), (([] : List (List UInt8)), ([] : List (Int × Bool × Int × Int × Int)))))))).2.2.2.2.2).getD x_6.toNat ((0 : Int), (false, ((0 : Int), ((0 : Int), (0 : Int)))))).2.2.2.1 > (64 : Int))) = false) ∧ ((True) ∧ ((True) ∧ (((0 < 1 ∧ True) ∧ (True)) ∧ ((((True) ∧ (True)) ∧ PureC Try.prog 16 [(.sl (.int .i64) [(((c_Faces.getD x_2.toNat ((0 : Int), ((0 : Int), ((0 : Int), ((0 : Int), (([] : List (List UInt8)), ([] : List (Int × Bool × Int × Int × Int)))))))).2.2.2.2.2).getD x_6.toNat ((0 : Int), (false, ((0 : Int), ((0 : Int), (0 : Int)))))).2.2.2.2])] (.bool y_11) []) ∧ ((True) ∧ ((True) ∧ (True)))))))))))))))))))))))))))))))) := ⟨trivial, ⟨trivial, ⟨trivial, ⟨⟨trivial, c46⟩, ⟨trivial, ⟨trivial, ⟨trivial, ⟨trivial, ⟨⟨trivial, c48⟩, ⟨trivial, ⟨trivial, ⟨⟨⟨by decide, trivial⟩, trivial⟩, ⟨⟨⟨trivial, ⟨trivial, trivial⟩⟩, F44_ok n (3 : Int) ([(((c_Faces.getD x_2.toNat ((0 : Int), ((0 : Int), ((0 : Int), ((0 : Int), (([] : List (List UInt8)), ([] : List (Int × Bool × Int × Int × Int)))))))).2.2.2.2.2).getD x_6.toNat ((0 : Int), (false, ((0 : Int), ((0 : Int), (0 : Int)))))).2.2.1]) y_10 hx49⟩, ⟨trivial, ⟨trivial, ⟨⟨trivial, c51⟩, ⟨trivial, ⟨trivial, ⟨trivial, ⟨trivial, ⟨⟨trivial, c53⟩, ⟨trivial, ⟨trivial, ⟨trivial, ⟨trivial, ⟨⟨trivial, c55⟩, ⟨trivial, ⟨trivial, ⟨⟨⟨by decide, trivial⟩, trivial⟩, ⟨⟨⟨trivial, trivial⟩, F16_ok n ([(((c_Faces.getD x_2.toNat ((0 : Int), ((0 : Int), ((0 : Int), ((0 : Int), (([] : List (List UInt8)), ([] : List (Int × Bool × Int × Int × Int)))))))).2.2.2.2.2).getD x_6.toNat ((0 : Int), (false, ((0 : Int), ((0 : Int), (0 : Int)))))).2.2.2.2]) y_11 hx56⟩, ⟨trivial, ⟨trivial, trivial⟩⟩⟩⟩⟩⟩⟩⟩⟩⟩⟩⟩⟩⟩⟩⟩⟩⟩⟩⟩⟩⟩⟩⟩⟩⟩⟩⟩⟩⟩⟩⟩
                                        refine TS.reg [.none, .none, .none, .dec false, .none, .none, .none, .none, .dec false, .none, .none, .none, (.call (.bool y_10) []), .none, .none, .dec false, .none, .none, .none, .none, .dec false, .none, .none, .none, .none, .dec false, .none, .none, .none, (.call (.bool y_11) [])] ?_ ?_
                                        · apply prop_of ?_ hq
                                          kernel_rfl
                                        refine XS.reAny [0, 1, 2, 3, 4] (mkMask 92 [1, 8, 43, 44, 45, 80]) (!y_11) h ?_
                                        kernel_rfl
                          · refine TS.cond (decide (x_6 < ((((c_Faces.getD x_2.toNat ((0 : Int), ((0 : Int), ((0 : Int), ((0 : Int), (([] : List (List UInt8)), ([] : List (Int × Bool × Int × Int × Int)))))))).2.2.2.2.2).length : Nat) : Int))) ?_ (fun hcz => by rw [c39] at hcz; cases hcz) (fun hcz => ?_)
                            · kernel_rfl
                            refine TS.exit ?_
                            refine XS.passE ?_
                            refine XS.passE ?_
                            refine XS.out ?_
                            refine XS.then ?_
                            refine TS.seq ?_
                            have hq : (True) ∧ (True) := ⟨trivial, trivial⟩
                            refine TS.reg [] ?_ ?_
                            · apply prop_of ?_ hq
                              kernel_rfl
                            refine XS.then ?_
                            refine TS.ret ?_
                            refine XS.backR 0 (mkTs 126 [(1, (.ptr 1 [])), (4, (.mp 2)), (5, (.str rest)), (6, (.int .i64 x_2)), (7, (.ptr 3 [])), (39, (.sl (.st (.pair (.int .i64) (.pair (.int .i64) (.pair (.int .i64) (.pair (.int .i64) (.pair (.sl .str) (.sl (.st (.pair (.int .i64) (.pair .bool (.pair (.int .i64) (.pair (.int .i64) (.int .i64))))))))))))) c_Faces)), (40, (.int .i64 ((c_Faces.length : Nat) : Int))), (41, (.int .i64 x_2))]) (mkTs 126 [(1, (.ptr 1 [])), (4, (.mp 2)), (5, (.str rest)), (6, (.int .i64 x_2)), (7, (.ptr 3 [])), (39, (.sl (.st (.pair (.int .i64) (.pair (.int .i64) (.pair (.int .i64) (.pair (.int .i64) (.pair (.sl .str) (.sl (.st (.pair (.int .i64) (.pair .bool (.pair (.int .i64) (.pair (.int .i64) (.int .i64))))))))))))) c_Faces)), (40, (.int .i64 ((c_Faces.length : Nat) : Int))), (41, (.int .i64 x_2)), (48, (.int .i64 (0 : Int)))], [.dead, (.box 24 (.st (.cons (.int .i64 c_Value) (.cons (.int .i64 c_Name) (.cons (.int .i64 c_Attr) (.cons (.int .i64 c_Power) (.sl (.st (.pair (.int .i64) (.pair (.int .i64) (.pair (.int .i64) (.pair (.int .i64) (.pair (.sl .str) (.sl (.st (.pair (.int .i64) (.pair .bool (.pair (.int .i64) (.pair (.int .i64) (.int .i64))))))))))))) c_Faces))))))), (.map 46 (.st (.pair (.int .i64) .bool)) .bool m2), (.box 49 (.st (.cons (.int .i64 (c_Faces.getD x_2.toNat ((0 : Int), ((0 : Int), ((0 : Int), ((0 : Int), (([] : List (List UInt8)), ([] : List (Int × Bool × Int × Int × Int)))))))).1) (.cons (.int .i64 (c_Faces.getD x_2.toNat ((0 : Int), ((0 : Int), ((0 : Int), ((0 : Int), (([] : List (List UInt8)), ([] : List (Int × Bool × Int × Int × Int)))))))).2.1) (.cons (.int .i64 (c_Faces.getD x_2.toNat ((0 : Int), ((0 : Int), ((0 : Int), ((0 : Int), (([] : List (List UInt8)), ([] : List (Int × Bool × Int × Int × Int)))))))).2.2.1) (.cons (.int .i64 (c_Faces.getD x_2.toNat ((0 : Int), ((0 : Int), ((0 : Int), ((0 : Int), (([] : List (List UInt8)), ([] : List (Int × Bool × Int × Int × Int)))))))).2.2.2.1) (.cons (.sl .str (c_Faces.getD x_2.toNat ((0 : Int), ((0 : Int), ((0 : Int), ((0 : Int), (([] : List (List UInt8)), ([] : List (Int × Bool × Int × Int × Int)))))))).2.2.2.2.1) (.sl (.st (.pair (.int .i64) (.pair .bool (.pair (.int .i64) (.pair (.int .i64) (.int .i64)))))) (c_Faces.getD x_2.toNat ((0 : Int), ((0 : Int), ((0 : Int), ((0 : Int), (([] : List (List UInt8)), ([] : List (Int × Bool × Int × Int × Int)))))))).2.2.2.2.2))))))))]) ((True) ∧ (True)) (by kernel_rfl) (by kernel_rfl) ⟨trivial, trivial⟩ ?_
                            refine KS.ofX ?_
                            refine XS.reAny [1, 2, 3] (mkMask 126 [1, 4, 5, 6, 7, 39, 40, 41, 48]) ((0 : Int), m2) h ?_
                            kernel_rfl
          · refine TS.cond (decide (x_2 < ((c_Faces.length : Nat) : Int))) ?_ (fun hcz => by rw [c6] at hcz; cases hcz) (fun hcz => ?_)
            · kernel_rfl
            refine TS.exit ?_
            refine XS.passE ?_
            refine XS.passE ?_
            refine XS.out ?_
            refine XS.then ?_
            refine TS.seq ?_
            obtain ⟨y_12, hx57, h⟩ := bind_some' h
            obtain ⟨y_13, hx58, h⟩ := bind_some' h
            obtain ⟨t59, h⟩ := test_some h
            obtain ⟨y_14, hx60, h⟩ := bind_some' h
            obtain ⟨t61, h⟩ := test_some h
            obtain ⟨t62, h⟩ := test_some h
            have hq : (((0 < 2 ∧ True) ∧ ((1 < 2 ∧ True) ∧ (True))) ∧ ((((True) ∧ (True)) ∧ PureC Try.prog 18 [(.sl (.int .i64) [(9 : Int), (2 : Int)])] (.str y_12) []) ∧ ((True) ∧ ((True) ∧ ((True) ∧ ((PureC Try.prog 20 [(.int .i64 (IntKind.wrap .i64 ((9 : Int) + ((rest.length : Nat) : Int))))] (.str y_13) []) ∧ ((y_12.length + y_13.length ≤ 9223372036854775807) ∧ ((True) ∧ ((True) ∧ ((True) ∧ ((True) ∧ ((True) ∧ ((True) ∧ ((True) ∧ ((True) ∧ ((True) ∧ ((True) ∧ ((True) ∧ (((0 < 5 ∧ True) ∧ ((1 < 5 ∧ True) ∧ ((2 < 5 ∧ True) ∧ ((3 < 5 ∧ True) ∧ ((4 < 5 ∧ True) ∧ (True)))))) ∧ ((((True) ∧ (True)) ∧ PureC Try.prog 18 [(.sl (.int .i64) [((c_Faces.length : Nat) : Int), c_Value, c_Name, c_Attr, c_Power])] (.str y_14) []) ∧ (((y_12 ++ y_13).length + y_14.length ≤ 9223372036854775807) ∧ ((True) ∧ ((((y_12 ++ y_13) ++ y_14).length + rest.length ≤ 9223372036854775807) ∧ (True)))))))))))))))))))))))) ∧ ((True) ∧ ((True) ∧ (True))) := ⟨⟨⟨⟨by decide, trivial⟩, ⟨⟨by decide, trivial⟩, trivial⟩⟩, ⟨⟨⟨trivial, trivial⟩, F18_ok n [(9 : Int), (2 : Int)] y_12 hx57⟩, ⟨trivial, ⟨trivial, ⟨trivial, ⟨F20_ok n (IntKind.wrap .i64 ((9 : Int) + ((rest.length : Nat) : Int))) y_13 hx58, ⟨of_decide_eq_true t59, ⟨trivial, ⟨trivial, ⟨trivial, ⟨trivial, ⟨trivial, ⟨trivial, ⟨trivial, ⟨trivial, ⟨trivial, ⟨trivial, ⟨trivial, ⟨⟨⟨by decide, trivial⟩, ⟨⟨by decide, trivial⟩, ⟨⟨by decide, trivial⟩, ⟨⟨by decide, trivial⟩, ⟨⟨by decide, trivial⟩, trivial⟩⟩⟩⟩⟩, ⟨⟨⟨trivial, trivial⟩, F18_ok n [((c_Faces.length : Nat) : Int), c_Value, c_Name, c_Attr, c_Power] y_14 hx60⟩, ⟨of_decide_eq_true t61, ⟨trivial, ⟨of_decide_eq_true t62, trivial⟩⟩⟩⟩⟩⟩⟩⟩⟩⟩⟩⟩⟩⟩⟩⟩⟩⟩⟩⟩⟩⟩⟩, ⟨trivial, ⟨trivial, trivial⟩⟩⟩
            refine TS.draw 23 [] [.none, (.call (.str y_12) []), .none, .none, .none, (.call (.str y_13) []), .none, .none, .none, .none, .none, .none, .none, .none, .none, .none, .none, .none, .none, (.call (.str y_14) [])] (by kernel_rfl) ?_ ?_
            · apply prop_of ?_ hq
              kernel_rfl
            refine XS.then ?_
            refine TS.ret ?_
            obtain rfl : ((((y_12 ++ y_13) ++ y_14) ++ rest), (0 : Int)) = r := Option.some.inj h
            exact XS.fin [] ((True) ∧ ((True) ∧ (True))) (by kernel_rfl) ⟨trivial, ⟨trivial, trivial⟩⟩
  · rcases bif_some h with ⟨c63, h⟩ | ⟨c64, h⟩
    · have hq : (True) ∧ ((True) ∧ ((True) ∧ (((True) ∧ (decide (c_Value < (1 : Int))) = true) ∧ ((True) ∧ ((True) ∧ ((True) ∧ ((True) ∧ (True)))))))) := ⟨trivial, ⟨trivial, ⟨trivial, ⟨⟨trivial, c63⟩, ⟨trivial, ⟨trivial, ⟨trivial, ⟨trivial, trivial⟩⟩⟩⟩⟩⟩⟩⟩
      refine TS.reg [.none, .none, .none, .dec true] ?_ ?_
      · apply prop_of ?_ hq
        kernel_rfl
      refine XS.reAny [0] (mkMask 126 [1, 12]) true h ?_
      kernel_rfl
    · rcases bif_some h with ⟨c65, h⟩ | ⟨c66, h⟩
      · have hq : (True) ∧ ((True) ∧ ((True) ∧ (((True) ∧ (decide (c_Value < (1 : Int))) = false) ∧ ((True) ∧ ((True) ∧ ((True) ∧ ((True) ∧ (((True) ∧ (decide (c_Value > (255 : Int))) = true) ∧ ((True) ∧ ((True) ∧ (True))))))))))) := ⟨trivial, ⟨trivial, ⟨trivial, ⟨⟨trivial, c64⟩, ⟨trivial, ⟨trivial, ⟨trivial, ⟨trivial, ⟨⟨trivial, c65⟩, ⟨trivial, ⟨trivial, trivial⟩⟩⟩⟩⟩⟩⟩⟩⟩⟩⟩
        refine TS.reg [.none, .none, .none, .dec false, .none, .none, .none, .none, .dec true] ?_ ?_
        · apply prop_of ?_ hq
          kernel_rfl
        refine XS.reAny [0] (mkMask 126 [1, 12]) true h ?_
        kernel_rfl
      · obtain ⟨y_15, hx67, h⟩ := bind_some' h
        have hq : (True) ∧ ((True) ∧ ((True) ∧ (((True) ∧ (decide (c_Value < (1 : Int))) = false) ∧ ((True) ∧ ((True) ∧ ((True) ∧ ((True) ∧ (((True) ∧ (decide (c_Value > (255 : Int))) = false) ∧ ((True) ∧ ((True) ∧ ((True) ∧ ((True) ∧ ((True) ∧ ((True) ∧ (((0 < 3 ∧ True) ∧ ((1 < 3 ∧ True) ∧ ((2 < 3 ∧ True) ∧ (True)))) ∧ ((((True) ∧ (True)) ∧ PureC Try.prog 16 [(.sl (.int .i64) [c_Name, c_Attr, c_Power])] (.bool y_15) []) ∧ ((True) ∧ ((True) ∧ ((True) ∧ (True)))))))))))))))))))) := ⟨trivial, ⟨trivial, ⟨trivial, ⟨⟨trivial, c64⟩, ⟨trivial, ⟨trivial, ⟨trivial, ⟨trivial, ⟨⟨trivial, c66⟩, ⟨trivial, ⟨trivial, ⟨trivial, ⟨trivial, ⟨trivial, ⟨trivial, ⟨⟨⟨by decide, trivial⟩, ⟨⟨by decide, trivial⟩, ⟨⟨by decide, trivial⟩, trivial⟩⟩⟩, ⟨⟨⟨trivial, trivial⟩, F16_ok n [c_Name, c_Attr, c_Power] y_15 hx67⟩, ⟨trivial, ⟨trivial, ⟨trivial, trivial⟩⟩⟩⟩⟩⟩⟩⟩⟩⟩⟩⟩⟩⟩⟩⟩⟩⟩⟩⟩
        refine TS.reg [.none, .none, .none, .dec false, .none, .none, .none, .none, .dec false, .none, .none, .none, .none, .none, .none, .none, (.call (.bool y_15) [])] ?_ ?_
        · apply prop_of ?_ hq
          kernel_rfl
        refine XS.reAny [0] (mkMask 126 [1, 12]) (!y_15) h ?_
        kernel_rfl

/-! plugtree/utf.Wide -/
def F53_l2 (n : Nat) (s : List UInt8) (k53_2 : ((List Int) × Nat) → Option ((List UInt8) × Int)) : ((List Int) × Nat) → Option ((List UInt8) × Int)
  | (m1, m2) => (bif (decide (m2 < s.length)) then (bif (decide ((((runeAt s m2).1 : Nat) : Int) < (65536 : Int))) then (bif (decide (m1.length + [(IntKind.wrap .u8 ((((runeAt s m2).1 : Nat) : Int))), (IntKind.wrap .u8 ((shrI .i32 (((runeAt s m2).1 : Nat) : Int) (8 : Int))))].length ≤ 140737488355328)) then (k53_2 ((m1 ++ [(IntKind.wrap .u8 ((((runeAt s m2).1 : Nat) : Int))), (IntKind.wrap .u8 ((shrI .i32 (((runeAt s m2).1 : Nat) : Int) (8 : Int))))]), (m2 + (runeAt s m2).2))) else none) else (bif (decide (m1.length + [(IntKind.wrap .u8 ((IntKind.wrap .i32 ((55296 : Int) + (shrI .i32 (IntKind.wrap .i32 ((((runeAt s m2).1 : Nat) : Int) - (65536 : Int))) (10 : Int)))))), (IntKind.wrap .u8 ((shrI .i32 (IntKind.wrap .i32 ((55296 : Int) + (shrI .i32 (IntKind.wrap .i32 ((((runeAt s m2).1 : Nat) : Int) - (65536 : Int))) (10 : Int)))) (8 : Int))))].length ≤ 140737488355328)) then (bif (decide ((m1 ++ [(IntKind.wrap .u8 ((IntKind.wrap .i32 ((55296 : Int) + (shrI .i32 (IntKind.wrap .i32 ((((runeAt s m2).1 : Nat) : Int) - (65536 : Int))) (10 : Int)))))), (IntKind.wrap .u8 ((shrI .i32 (IntKind.wrap .i32 ((55296 : Int) + (shrI .i32 (IntKind.wrap .i32 ((((runeAt s m2).1 : Nat) : Int) - (65536 : Int))) (10 : Int)))) (8 : Int))))]).length + [(IntKind.wrap .u8 ((IntKind.wrap .i32 ((56320 : Int) + (bitsI .and .i32 (IntKind.wrap .i32 ((((runeAt s m2).1 : Nat) : Int) - (65536 : Int))) (1023 : Int)))))), (IntKind.wrap .u8 ((shrI .i32 (IntKind.wrap .i32 ((56320 : Int) + (bitsI .and .i32 (IntKind.wrap .i32 ((((runeAt s m2).1 : Nat) : Int) - (65536 : Int))) (1023 : Int)))) (8 : Int))))].length ≤ 140737488355328)) then (k53_2 (((m1 ++ [(IntKind.wrap .u8 ((IntKind.wrap .i32 ((55296 : Int) + (shrI .i32 (IntKind.wrap .i32 ((((runeAt s m2).1 : Nat) : Int) - (65536 : Int))) (10 : Int)))))), (IntKind.wrap .u8 ((shrI .i32 (IntKind.wrap .i32 ((55296 : Int) + (shrI .i32 (IntKind.wrap .i32 ((((runeAt s m2).1 : Nat) : Int) - (65536 : Int))) (10 : Int)))) (8 : Int))))]) ++ [(IntKind.wrap .u8 ((IntKind.wrap .i32 ((56320 : Int) + (bitsI .and .i32 (IntKind.wrap .i32 ((((runeAt s m2).1 : Nat) : Int) - (65536 : Int))) (1023 : Int)))))), (IntKind.wrap .u8 ((shrI .i32 (IntKind.wrap .i32 ((56320 : Int) + (bitsI .and .i32 (IntKind.wrap .i32 ((((runeAt s m2).1 : Nat) : Int) - (65536 : Int))) (1023 : Int)))) (8 : Int))))]), (m2 + (runeAt s m2).2))) else none) else none)) else (bif (decide (((m1.length : Nat) : Int) > (252 : Int))) then (some (([] : List UInt8), (2 : Int))) else (some ((strOf m1), (0 : Int)))))
def F53 (n : Nat) (s : List UInt8) : Option ((List UInt8) × Int) := (loopF (F53_l2 n s) n (([] : List Int), 0))
theorem F53_ok (n : Nat) (s : List UInt8) (r : (List UInt8) × Int) (h : F53 n s = some r) : PureC Try.prog 53 [(.str s)] (.tup (.cons (.str r.1) (.cons (.int .i64 r.2) .nil))) [] := by
  refine PureC.mkS Try.func53 rfl rfl ?_
  intro w0 fz0 hfz
  replace h : (loopF (F53_l2 n s) n (([] : List Int), 0)) = some r := h
  refine TS.seq ?_
  have hq : (True) ∧ ((True) ∧ (True)) := ⟨trivial, ⟨trivial, trivial⟩⟩
  refine TS.reg [] ?_ ?_
  · apply prop_of ?_ hq
    kernel_rfl
  refine XS.then ?_
  refine TS.seq ?_
  have hq : (True) ∧ (True) := ⟨trivial, trivial⟩
  refine TS.reg [] ?_ ?_
  · apply prop_of ?_ hq
    kernel_rfl
  refine XS.then ?_
  refine TS.seq ?_
  have hq : (True) ∧ ((True) ∧ (True)) := ⟨trivial, ⟨trivial, trivial⟩⟩
  refine TS.reg [] ?_ ?_
  · apply prop_of ?_ hq
    kernel_rfl
  refine XS.then ?_
  refine TS.seq ?_
  refine TS.seq ?_
  have hq : (True) ∧ ((True) ∧ (True)) := ⟨trivial, ⟨trivial, trivial⟩⟩
  refine TS.reg [] ?_ ?_
  · apply prop_of ?_ hq
    kernel_rfl
  refine XS.then ?_
  refine TS.block ?_
  refine TS.wk (.row true 0 [] 5 (.int .u8)) ?_
  refine TS.reLoop [0, 2, 1] (mkMask 36 [4, 5, 10]) (D := (List Int) × Nat) (fun d => match d with | (m1, m2) => (mkTs 36 [(4, (.ptr 0 [])), (5, (.fn 66 (.cons (.ptr 0 []) .nil))), (10, (.ptr 2 []))], [(.box 87 (.row 1)), (.row 5 (.int .u8) m1), (.iter s m2)])) (fun n' d => loopF (F53_l2 n s) n' d = some r) n (([] : List Int), 0) h ?_ (fun d => loopF_zero _ d r) ?_
  · kernel_rfl
  · rintro n2 ⟨m1, m2⟩ h
    replace h : (bif (decide (m2 < s.length)) then (bif (decide ((((runeAt s m2).1 : Nat) : Int) < (65536 : Int))) then (bif (decide (m1.length + [(IntKind.wrap .u8 ((((runeAt s m2).1 : Nat) : Int))), (IntKind.wrap .u8 ((shrI .i32 (((runeAt s m2).1 : Nat) : Int) (8 : Int))))].length ≤ 140737488355328)) then ((loopF (F53_l2 n s) n2) ((m1 ++ [(IntKind.wrap .u8 ((((runeAt s m2).1 : Nat) : Int))), (IntKind.wrap .u8 ((shrI .i32 (((runeAt s m2).1 : Nat) : Int) (8 : Int))))]), (m2 + (runeAt s m2).2))) else none) else (bif (decide (m1.length + [(IntKind.wrap .u8 ((IntKind.wrap .i32 ((55296 : Int) + (shrI .i32 (IntKind.wrap .i32 ((((runeAt s m2).1 : Nat) : Int) - (65536 : Int))) (10 : Int)))))), (IntKind.wrap .u8 ((shrI .i32 (IntKind.wrap .i32 ((55296 : Int) + (shrI .i32 (IntKind.wrap .i32 ((((runeAt s m2).1 : Nat) : Int) - (65536 : Int))) (10 : Int)))) (8 : Int))))].length ≤ 140737488355328)) then (bif (decide ((m1 ++ [(IntKind.wrap .u8 ((IntKind.wrap .i32 ((55296 : Int) + (shrI .i32 (IntKind.wrap .i32 ((((runeAt s m2).1 : Nat) : Int) - (65536 : Int))) (10 : Int)))))), (IntKind.wrap .u8 ((shrI .i32 (IntKind.wrap .i32 ((55296 : Int) + (shrI .i32 (IntKind.wrap .i32 ((((runeAt s m2).1 : Nat) : Int) - (65536 : Int))) (10 : Int)))) (8 : Int))))]).length + [(IntKind.wrap .u8 ((IntKind.wrap .i32 ((56320 : Int) + (bitsI .and .i32 (IntKind.wrap .i32 ((((runeAt s m2).1 : Nat) : Int) - (65536 : Int))) (1023 : Int)))))), (IntKind.wrap .u8 ((shrI .i32 (IntKind.wrap .i32 ((56320 : Int) + (bitsI .and .i32 (IntKind.wrap .i32 ((((runeAt s m2).1 : Nat) : Int) - (65536 : Int))) (1023 : Int)))) (8 : Int))))].length ≤ 140737488355328)) then ((loopF (F53_l2 n s) n2) (((m1 ++ [(IntKind.wrap .u8 ((IntKind.wrap .i32 ((55296 : Int) + (shrI .i32 (IntKind.wrap .i32 ((((runeAt s m2).1 : Nat) : Int) - (65536 : Int))) (10 : Int)))))), (IntKind.wrap .u8 ((shrI .i32 (IntKind.wrap .i32 ((55296 : Int) + (shrI .i32 (IntKind.wrap .i32 ((((runeAt s m2).1 : Nat) : Int) - (65536 : Int))) (10 : Int)))) (8 : Int))))]) ++ [(IntKind.wrap .u8 ((IntKind.wrap .i32 ((56320 : Int) + (bitsI .and .i32 (IntKind.wrap .i32 ((((runeAt s m2).1 : Nat) : Int) - (65536 : Int))) (1023 : Int)))))), (IntKind.wrap .u8 ((shrI .i32 (IntKind.wrap .i32 ((56320 : Int) + (bitsI .and .i32 (IntKind.wrap .i32 ((((runeAt s m2).1 : Nat) : Int) - (65536 : Int))) (1023 : Int)))) (8 : Int))))]), (m2 + (runeAt s m2).2))) else none) else none)) else (bif (decide (((m1.length : Nat) : Int) > (252 : Int))) then (some (([] : List UInt8), (2 : Int))) else (some ((strOf m1), (0 : Int))))) = some r := h
    refine TS.seq ?_
    rcases bif_some h with ⟨c1, h⟩ | ⟨c2, h⟩
    · have hq : (m2 < s.length) ∧ ((True) ∧ (True)) := ⟨of_decide_eq_true c1, ⟨trivial, trivial⟩⟩
      refine TS.reg [.dec true] ?_ ?_
      · apply prop_of ?_ hq
        kernel_rfl
      refine XS.then ?_
      refine TS.seq ?_
      refine TS.yes ?_ ?_
      · kernel_rfl
      refine TS.skip ?_
      refine XS.then ?_
      refine TS.block ?_
      refine TS.seq ?_
      have hq : (True) ∧ ((True) ∧ (True)) := ⟨trivial, ⟨trivial, trivial⟩⟩
      refine TS.reg [] ?_ ?_
      · apply prop_of ?_ hq
        kernel_rfl
      refine XS.then ?_
      refine TS.seq ?_
      have hq : (True) ∧ ((True) ∧ (True)) := ⟨trivial, ⟨trivial, trivial⟩⟩
      refine TS.reg [] ?_ ?_
      · apply prop_of ?_ hq
        kernel_rfl
      refine XS.then ?_
      rcases bif_some h with ⟨c3, h⟩ | ⟨c4, h⟩
      · refine TS.cond (decide ((((runeAt s m2).1 : Nat) : Int) < (65536 : Int))) ?_ (fun hcz => ?_) (fun hcz => by rw [c3] at hcz; cases hcz)
        · kernel_rfl
        refine TS.opsOf ?_
        have hq : (True) ∧ ((True) ∧ (True)) := ⟨trivial, ⟨trivial, trivial⟩⟩
        refine TOS.run 2 [] (by kernel_rfl) ?_ ?_
        · apply prop_of ?_ hq
          kernel_rfl
        refine TOS.call 66 (mkMask 36 [4, 5, 10]) Try.func66 rfl ?_
        intro fv16
        refine ⟨(mkTs 11 [(0, (.int .i32 (((runeAt s m2).1 : Nat) : Int))), (1, (.ptr 0 []))], [(.box 87 (.row 1)), (.row 5 (.int .u8) m1), (.iter s (m2 + (runeAt s m2).2)), (.sav (mkTs 36 [(4, (.ptr 0 [])), (5, (.fn 66 (.cons (.ptr 0 []) .nil))), (10, (.ptr 2 []))]) fv16)]), by kernel_rfl, ?_⟩
        obtain ⟨t5, h⟩ := test_some h
        have hq : (True) ∧ ((True) ∧ ((True) ∧ ((True) ∧ ((0 ≤ (8 : Int)) ∧ ((True) ∧ (((0 < 2 ∧ True) ∧ ((1 < 2 ∧ True) ∧ (True))) ∧ ((m1.length + [(IntKind.wrap .u8 ((((runeAt s m2).1 : Nat) : Int))), (IntKind.wrap .u8 ((shrI .i32 (((runeAt s m2).1 : Nat) : Int) (8 : Int))))].length ≤ 140737488355328) ∧ ((True) ∧ (True))))))))) := ⟨trivial, ⟨trivial, ⟨trivial, ⟨trivial, ⟨by decide, ⟨trivial, ⟨⟨⟨by decide, trivial⟩, ⟨⟨by decide, trivial⟩, trivial⟩⟩, ⟨of_decide_eq_true t5, ⟨trivial, trivial⟩⟩⟩⟩⟩⟩⟩⟩⟩
        refine TS.reg [] ?_ ?_
        · apply prop_of ?_ hq
          kernel_rfl
        refine XS.backN 3 (mkTs 36 [(4, (.ptr 0 [])), (5, (.fn 66 (.cons (.ptr 0 []) .nil))), (10, (.ptr 2 []))]) (mkTs 36 [(4, (.ptr 0 [])), (5, (.fn 66 (.cons (.ptr 0 []) .nil))), (10, (.ptr 2 [])), (18, (.tup .nil))], [(.box 87 (.row 5)), .dead, (.iter s (m2 + (runeAt s m2).2)), .dead, (.row 5 (.int .u8) [(IntKind.wrap .u8 ((((runeAt s m2).1 : Nat) : Int))), (IntKind.wrap .u8 ((shrI .i32 (((runeAt s m2).1 : Nat) : Int) (8 : Int))))]), (.row 5 (.int .u8) (m1 ++ [(IntKind.wrap .u8 ((((runeAt s m2).1 : Nat) : Int))), (IntKind.wrap .u8 ((shrI .i32 (((runeAt s m2).1 : Nat) : Int) (8 : Int))))]))]) (True) (by kernel_rfl) (by kernel_rfl) trivial ?_
        refine KS.opsOf ?_
        refine TOS.nil (by kernel_rfl) ?_
        refine XS.blockEnd ?_
        refine XS.reAny [0, 5, 2] (mkMask 36 [4, 5, 10]) ((m1 ++ [(IntKind.wrap .u8 ((((runeAt s m2).1 : Nat) : Int))), (IntKind.wrap .u8 ((shrI .i32 (((runeAt s m2).1 : Nat) : Int) (8 : Int))))]), (m2 + (runeAt s m2).2)) h ?_
        kernel_rfl
      · refine TS.cond (decide ((((runeAt s m2).1 : Nat) : Int) < (65536 : Int))) ?_ (fun hcz => by rw [c4] at hcz; cases hcz) (fun hcz => ?_)
        · kernel_rfl
        refine TS.seq ?_
        have hq : (True) ∧ ((True) ∧ ((True) ∧ (True))) := ⟨trivial, ⟨trivial, ⟨trivial, trivial⟩⟩⟩
        refine TS.reg [] ?_ ?_
        · apply prop_of ?_ hq
          kernel_rfl
        refine XS.then ?_
        refine TS.seq ?_
        refine TS.opsOf ?_
        have hq : (True) ∧ ((True) ∧ ((0 ≤ (10 : Int)) ∧ ((True) ∧ (True)))) := ⟨trivial, ⟨trivial, ⟨by decide, ⟨trivial, trivial⟩⟩⟩⟩
        refine TOS.run 4 [] (by kernel_rfl) ?_ ?_
        · apply prop_of ?_ hq
          kernel_rfl
        refine TOS.call 66 (mkMask 36 [4, 5, 7, 10]) Try.func66 rfl ?_
        intro fv17
        refine ⟨(mkTs 11 [(0, (.int .i32 (IntKind.wrap .i32 ((55296 : Int) + (shrI .i32 (IntKind.wrap .i32 ((((runeAt s m2).1 : Nat) : Int) - (65536 : Int))) (10 : Int)))))), (1, (.ptr 0 []))], [(.box 87 (.row 1)), (.row 5 (.int .u8) m1), (.iter s (m2 + (runeAt s m2).2)), (.sav (mkTs 36 [(4, (.ptr 0 [])), (5, (.fn 66 (.cons (.ptr 0 []) .nil))), (7, (.int .i32 (IntKind.wrap .i32 ((((runeAt s m2).1 : Nat) : Int) - (65536 : Int))))), (10, (.ptr 2 []))]) fv17)]), by kernel_rfl, ?_⟩
        obtain ⟨t6, h⟩ := test_some h
        have hq : (True) ∧ ((True) ∧ ((True) ∧ ((True) ∧ ((0 ≤ (8 : Int)) ∧ ((True) ∧ (((0 < 2 ∧ True) ∧ ((1 < 2 ∧ True) ∧ (True))) ∧ ((m1.length + [(IntKind.wrap .u8 ((IntKind.wrap .i32 ((55296 : Int) + (shrI .i32 (IntKind.wrap .i32 ((((runeAt s m2).1 : Nat) : Int) - (65536 : Int))) (10 : Int)))))), (IntKind.wrap .u8 ((shrI .i32 (IntKind.wrap .i32 ((55296 : Int) + (shrI .i32 (IntKind.wrap .i32 ((((runeAt s m2).1 : Nat) : Int) - (65536 : Int))) (10 : Int)))) (8 : Int))))].length ≤ 140737488355328) ∧ ((True) ∧ (True))))))))) := ⟨trivial, ⟨trivial, ⟨trivial, ⟨trivial, ⟨by decide, ⟨trivial, ⟨⟨⟨by decide, trivial⟩, ⟨⟨by decide, trivial⟩, trivial⟩⟩, ⟨of_decide_eq_true t6, ⟨trivial, trivial⟩⟩⟩⟩⟩⟩⟩⟩⟩
        refine TS.reg [] ?_ ?_
        · apply prop_of ?_ hq
          kernel_rfl
        refine XS.backN 3 (mkTs 36 [(4, (.ptr 0 [])), (5, (.fn 66 (.cons (.ptr 0 []) .nil))), (7, (.int .i32 (IntKind.wrap .i32 ((((runeAt s m2).1 : Nat) : Int) - (65536 : Int))))), (10, (.ptr 2 []))]) (mkTs 36 [(4, (.ptr 0 [])), (5, (.fn 66 (.cons (.ptr 0 []) .nil))), (7, (.int .i32 (IntKind.wrap .i32 ((((runeAt s m2).1 : Nat) : Int) - (65536 : Int))))), (10, (.ptr 2 [])), (25, (.tup .nil))], [(.box 87 (.row 5)), .dead, (.iter s (m2 + (runeAt s m2).2)), .dead, (.row 5 (.int .u8) [(IntKind.wrap .u8 ((IntKind.wrap .i32 ((55296 : Int) + (shrI .i32 (IntKind.wrap .i32 ((((runeAt s m2).1 : Nat) : Int) - (65536 : Int))) (10 : Int)))))), (IntKind.wrap .u8 ((shrI .i32 (IntKind.wrap .i32 ((55296 : Int) + (shrI .i32 (IntKind.wrap .i32 ((((runeAt s m2).1 : Nat) : Int) - (65536 : Int))) (10 : Int)))) (8 : Int))))]), (.row 5 (.int .u8) (m1 ++ [(IntKind.wrap .u8 ((IntKind.wrap .i32 ((55296 : Int) + (shrI .i32 (IntKind.wrap .i32 ((((runeAt s m2).1 : Nat) : Int) - (65536 : Int))) (10 : Int)))))), (IntKind.wrap .u8 ((shrI .i32 (IntKind.wrap .i32 ((55296 : Int) + (shrI .i32 (IntKind.wrap .i32 ((((runeAt s m2).1 : Nat) : Int) - (65536 : Int))) (10 : Int)))) (8 : Int))))]))]) (True) (by kernel_rfl) (by kernel_rfl) trivial ?_
        refine KS.opsOf ?_
        refine TOS.nil (by kernel_rfl) ?_
        refine XS.then ?_
        refine TS.opsOf ?_
        have hq : (True) ∧ ((True) ∧ ((True) ∧ ((True) ∧ (True)))) := ⟨trivial, ⟨trivial, ⟨trivial, ⟨trivial, trivial⟩⟩⟩⟩
        refine TOS.run 4 [] (by kernel_rfl) ?_ ?_
        · apply prop_of ?_ hq
          kernel_rfl
        refine TOS.call 66 (mkMask 36 [4, 5, 10]) Try.func66 rfl ?_
        intro fv18
        refine ⟨(mkTs 11 [(0, (.int .i32 (IntKind.wrap .i32 ((56320 : Int) + (bitsI .and .i32 (IntKind.wrap .i32 ((((runeAt s m2).1 : Nat) : Int) - (65536 : Int))) (1023 : Int)))))), (1, (.ptr 0 []))], [(.box 87 (.row 5)), .dead, (.iter s (m2 + (runeAt s m2).2)), .dead, (.row 5 (.int .u8) [(IntKind.wrap .u8 ((IntKind.wrap .i32 ((55296 : Int) + (shrI .i32 (IntKind.wrap .i32 ((((runeAt s m2).1 : Nat) : Int) - (65536 : Int))) (10 : Int)))))), (IntKind.wrap .u8 ((shrI .i32 (IntKind.wrap .i32 ((55296 : Int) + (shrI .i32 (IntKind.wrap .i32 ((((runeAt s m2).1 : Nat) : Int) - (65536 : Int))) (10 : Int)))) (8 : Int))))]), (.row 5 (.int .u8) (m1 ++ [(IntKind.wrap .u8 ((IntKind.wrap .i32 ((55296 : Int) + (shrI .i32 (IntKind.wrap .i32 ((((runeAt s m2).1 : Nat) : Int) - (65536 : Int))) (10 : Int)))))), (IntKind.wrap .u8 ((shrI .i32 (IntKind.wrap .i32 ((55296 : Int) + (shrI .i32 (IntKind.wrap .i32 ((((runeAt s m2).1 : Nat) : Int) - (65536 : Int))) (10 : Int)))) (8 : Int))))])), (.sav (mkTs 36 [(4, (.ptr 0 [])), (5, (.fn 66 (.cons (.ptr 0 []) .nil))), (10, (.ptr 2 []))]) fv18)]), by kernel_rfl, ?_⟩
        obtain ⟨t7, h⟩ := test_some h
        have hq : (True) ∧ ((True) ∧ ((True) ∧ ((True) ∧ ((0 ≤ (8 : Int)) ∧ ((True) ∧ (((0 < 2 ∧ True) ∧ ((1 < 2 ∧ True) ∧ (True))) ∧ (((m1 ++ [(IntKind.wrap .u8 ((IntKind.wrap .i32 ((55296 : Int) + (shrI .i32 (IntKind.wrap .i32 ((((runeAt s m2).1 : Nat) : Int) - (65536 : Int))) (10 : Int)))))), (IntKind.wrap .u8 ((shrI .i32 (IntKind.wrap .i32 ((55296 : Int) + (shrI .i32 (IntKind.wrap .i32 ((((runeAt s m2).1 : Nat) : Int) - (65536 : Int))) (10 : Int)))) (8 : Int))))]).length + [(IntKind.wrap .u8 ((IntKind.wrap .i32 ((56320 : Int) + (bitsI .and .i32 (IntKind.wrap .i32 ((((runeAt s m2).1 : Nat) : Int) - (65536 : Int))) (1023 : Int)))))), (IntKind.wrap .u8 ((shrI .i32 (IntKind.wrap .i32 ((56320 : Int) + (bitsI .and .i32 (IntKind.wrap .i32 ((((runeAt s m2).1 : Nat) : Int) - (65536 : Int))) (1023 : Int)))) (8 : Int))))].length ≤ 140737488355328) ∧ ((True) ∧ (True))))))))) := ⟨trivial, ⟨trivial, ⟨trivial, ⟨trivial, ⟨by decide, ⟨trivial, ⟨⟨⟨by decide, trivial⟩, ⟨⟨by decide, trivial⟩, trivial⟩⟩, ⟨of_decide_eq_true t7, ⟨trivial, trivial⟩⟩⟩⟩⟩⟩⟩⟩⟩
        refine TS.reg [] ?_ ?_
        · apply prop_of ?_ hq
          kernel_rfl
        refine XS.backN 6 (mkTs 36 [(4, (.ptr 0 [])), (5, (.fn 66 (.cons (.ptr 0 []) .nil))), (10, (.ptr 2 []))]) (mkTs 36 [(4, (.ptr 0 [])), (5, (.fn 66 (.cons (.ptr 0 []) .nil))), (10, (.ptr 2 [])), (30, (.tup .nil))], [(.box 87 (.row 8)), .dead, (.iter s (m2 + (runeAt s m2).2)), .dead, (.row 5 (.int .u8) [(IntKind.wrap .u8 ((IntKind.wrap .i32 ((55296 : Int) + (shrI .i32 (IntKind.wrap .i32 ((((runeAt s m2).1 : Nat) : Int) - (65536 : Int))) (10 : Int)))))), (IntKind.wrap .u8 ((shrI .i32 (IntKind.wrap .i32 ((55296 : Int) + (shrI .i32 (IntKind.wrap .i32 ((((runeAt s m2).1 : Nat) : Int) - (65536 : Int))) (10 : Int)))) (8 : Int))))]), .dead, .dead, (.row 5 (.int .u8) [(IntKind.wrap .u8 ((IntKind.wrap .i32 ((56320 : Int) + (bitsI .and .i32 (IntKind.wrap .i32 ((((runeAt s m2).1 : Nat) : Int) - (65536 : Int))) (1023 : Int)))))), (IntKind.wrap .u8 ((shrI .i32 (IntKind.wrap .i32 ((56320 : Int) + (bitsI .and .i32 (IntKind.wrap .i32 ((((runeAt s m2).1 : Nat) : Int) - (65536 : Int))) (1023 : Int)))) (8 : Int))))]), (.row 5 (.int .u8) ((m1 ++ [(IntKind.wrap .u8 ((IntKind.wrap .i32 ((55296 : Int) + (shrI .i32 (IntKind.wrap .i32 ((((runeAt s m2).1 : Nat) : Int) - (65536 : Int))) (10 : Int)))))), (IntKind.wrap .u8 ((shrI .i32 (IntKind.wrap .i32 ((55296 : Int) + (shrI .i32 (IntKind.wrap .i32 ((((runeAt s m2).1 : Nat) : Int) - (65536 : Int))) (10 : Int)))) (8 : Int))))]) ++ [(IntKind.wrap .u8 ((IntKind.wrap .i32 ((56320 : Int) + (bitsI .and .i32 (IntKind.wrap .i32 ((((runeAt s m2).1 : Nat) : Int) - (65536 : Int))) (1023 : Int)))))), (IntKind.wrap .u8 ((shrI .i32 (IntKind.wrap .i32 ((56320 : Int) + (bitsI .and .i32 (IntKind.wrap .i32 ((((runeAt s m2).1 : Nat) : Int) - (65536 : Int))) (1023 : Int)))) (8 : Int))))]))]) (True) (by kernel_rfl) (by kernel_rfl) trivial ?_
        refine KS.opsOf ?_
        refine TOS.nil (by kernel_rfl) ?_
        refine XS.blockEnd ?_
        refine XS.reAny [0, 8, 2] (mkMask 36 [4, 5, 10]) (((m1 ++ [(IntKind.wrap .u8 ((IntKind.wrap .i32 ((55296 : Int) + (shrI .i32 (IntKind.wrap .i32 ((((runeAt s m2).1 : Nat) : Int) - (65536 : Int))) (10 : Int)))))), (IntKind.wrap .u8 ((shrI .i32 (IntKind.wrap .i32 ((55296 : Int) + (shrI .i32 (IntKind.wrap .i32 ((((runeAt s m2).1 : Nat) : Int) - (65536 : Int))) (10 : Int)))) (8 : Int))))]) ++ [(IntKind.wrap .u8 ((IntKind.wrap .i32 ((56320 : Int) + (bitsI .and .i32 (IntKind.wrap .i32 ((((runeAt s m2).1 : Nat) : Int) - (65536 : Int))) (1023 : Int)))))), (IntKind.wrap .u8 ((shrI .i32 (IntKind.wrap .i32 ((56320 : Int) + (bitsI .and .i32 (IntKind.wrap .i32 ((((runeAt s m2).1 : Nat) : Int) - (65536 : Int))) (1023 : Int)))) (8 : Int))))]), (m2 + (runeAt s m2).2)) h ?_
        kernel_rfl
    · have hq : (¬ m2 < s.length) ∧ ((True) ∧ (True)) := ⟨of_decide_eq_false c2, ⟨trivial, trivial⟩⟩
      refine TS.reg [.dec false] ?_ ?_
      · apply prop_of ?_ hq
        kernel_rfl
      refine XS.then ?_
      refine TS.seq ?_
      refine TS.no ?_ ?_
      · kernel_rfl
      refine TS.exit ?_
      refine XS.passE ?_
      refine XS.passE ?_
      refine XS.out ?_
      refine XS.then ?_
      refine TS.seq ?_
      refine TS.seq ?_
      have hq : (True) ∧ ((True) ∧ ((True) ∧ (True))) := ⟨trivial, ⟨trivial, ⟨trivial, trivial⟩⟩⟩
      refine TS.reg [] ?_ ?_
      · apply prop_of ?_ hq
        kernel_rfl
      refine XS.then ?_
      rcases bif_some h with ⟨c8, h⟩ | ⟨c9, h⟩
      · refine TS.cond (decide (((m1.length : Nat) : Int) > (252 : Int))) ?_ (fun hcz => ?_) (fun hcz => by rw [c8] at hcz; cases hcz)
        · kernel_rfl
        refine TS.seq ?_
        have hq : (True) ∧ ((True) ∧ (True)) := ⟨trivial, ⟨trivial, trivial⟩⟩
        refine TS.reg [] ?_ ?_
        · apply prop_of ?_ hq
          kernel_rfl
        refine XS.then ?_
        refine TS.ret ?_
        refine XS.passR ?_
        obtain rfl : (([] : List UInt8), (2 : Int)) = r := Option.some.inj h
        exact XS.fin [] ((True) ∧ ((True) ∧ (True))) (by kernel_rfl) ⟨trivial, ⟨trivial, trivial⟩⟩
      · refine TS.cond (decide (((m1.length : Nat) : Int) > (252 : Int))) ?_ (fun hcz => by rw [c9] at hcz; cases hcz) (fun hcz => ?_)
        · kernel_rfl
        refine TS.skip ?_
        refine XS.then ?_
        refine TS.seq ?_
        have hq : (True) ∧ ((True) ∧ ((True) ∧ ((True) ∧ (True)))) := ⟨trivial, ⟨trivial, ⟨trivial, ⟨trivial, trivial⟩⟩⟩⟩
        refine TS.reg [] ?_ ?_
        · apply prop_of ?_ hq
          kernel_rfl
        refine XS.then ?_
        refine TS.ret ?_
        obtain rfl : ((strOf m1), (0 : Int)) = r := Option.some.inj h
        exact XS.fin [] ((True) ∧ ((True) ∧ (True))) (by kernel_rfl) ⟨trivial, ⟨trivial, trivial⟩⟩

/-! plugtree/desc.WriteText -/
def F33 (n : Nat) (s : List UInt8) : Option ((List UInt8) × Int) := ((F53 n s).bind fun y_3 => (bif (y_3.2 != (0 : Int)) then (some (([] : List UInt8), y_3.2)) else ((F18 n [(IntKind.wrap .i64 (((y_3.1.length : Nat) : Int) + (2 : Int))), (3 : Int)]).bind fun y_4 => (bif (decide (y_4.length + y_3.1.length ≤ 9223372036854775807)) then (some ((y_4 ++ y_3.1), (0 : Int))) else none))))
theorem F33_ok (n : Nat) (s : List UInt8) (r : (List UInt8) × Int) (h : F33 n s = some r) : PureC Try.prog 33 [(.str s)] (.tup (.cons (.str r.1) (.cons (.int .i64 r.2) .nil))) [] := by
  refine PureC.mkS Try.func33 rfl rfl ?_
  intro w0 fz0 hfz
  replace h : ((F53 n s).bind fun y_3 => (bif (y_3.2 != (0 : Int)) then (some (([] : List UInt8), y_3.2)) else ((F18 n [(IntKind.wrap .i64 (((y_3.1.length : Nat) : Int) + (2 : Int))), (3 : Int)]).bind fun y_4 => (bif (decide (y_4.length + y_3.1.length ≤ 9223372036854775807)) then (some ((y_4 ++ y_3.1), (0 : Int))) else none)))) = some r := h
  refine TS.seq ?_
  have hq : (True) ∧ ((True) ∧ (True)) := ⟨trivial, ⟨trivial, trivial⟩⟩
  refine TS.reg [] ?_ ?_
  · apply prop_of ?_ hq
    kernel_rfl
  refine XS.then ?_
  refine TS.seq ?_
  obtain ⟨y_3, hx1, h⟩ := bind_some' h
  have hq : (True) ∧ ((PureC Try.prog 53 [(.str s)] (.tup (.cons (.str y_3.1) (.cons (.int .i64 y_3.2) .nil))) []) ∧ ((True) ∧ ((True) ∧ ((True) ∧ ((True) ∧ ((True) ∧ (True))))))) := ⟨trivial, ⟨F53_ok n s y_3 hx1, ⟨trivial, ⟨trivial, ⟨trivial, ⟨trivial, ⟨trivial, trivial⟩⟩⟩⟩⟩⟩⟩
  refine TS.reg [.none, (.call (.tup (.cons (.str y_3.1) (.cons (.int .i64 y_3.2) .nil))) [])] ?_ ?_
  · apply prop_of ?_ hq
    kernel_rfl
  refine XS.then ?_
  refine TS.seq ?_
  refine TS.seq ?_
  have hq : (True) ∧ ((True) ∧ (True)) := ⟨trivial, ⟨trivial, trivial⟩⟩
  refine TS.reg [] ?_ ?_
  · apply prop_of ?_ hq
    kernel_rfl
  refine XS.then ?_
  rcases bif_some h with ⟨c2, h⟩ | ⟨c3, h⟩
  · refine TS.cond (y_3.2 != (0 : Int)) ?_ (fun hcz => ?_) (fun hcz => by rw [c2] at hcz; cases hcz)
    · kernel_rfl
    refine TS.seq ?_
    have hq : (True) ∧ ((True) ∧ ((True) ∧ (True))) := ⟨trivial, ⟨trivial, ⟨trivial, trivial⟩⟩⟩
    refine TS.reg [] ?_ ?_
    · apply prop_of ?_ hq
      kernel_rfl
    refine XS.then ?_
    refine TS.ret ?_
    refine XS.passR ?_
    obtain rfl : (([] : List UInt8), y_3.2) = r := Option.some.inj h
    exact XS.fin [] ((True) ∧ ((True) ∧ (True))) (by kernel_rfl) ⟨trivial, ⟨trivial, trivial⟩⟩
  · refine TS.cond (y_3.2 != (0 : Int)) ?_ (fun hcz => by rw [c3] at hcz; cases hcz) (fun hcz => ?_)
    · kernel_rfl
    refine TS.skip ?_
    refine XS.then ?_
    refine TS.seq ?_
    obtain ⟨y_4, hx4, h⟩ := bind_some' h
    obtain ⟨t5, h⟩ := test_some h
    have hq : (True) ∧ ((True) ∧ ((True) ∧ (((0 < 2 ∧ True) ∧ ((1 < 2 ∧ True) ∧ (True))) ∧ ((((True) ∧ (True)) ∧ PureC Try.prog 18 [(.sl (.int .i64) [(IntKind.wrap .i64 (((y_3.1.length : Nat) : Int) + (2 : Int))), (3 : Int)])] (.str y_4) []) ∧ ((True) ∧ ((y_4.length + y_3.1.length ≤ 9223372036854775807) ∧ ((True) ∧ ((True) ∧ (True))))))))) := ⟨trivial, ⟨trivial, ⟨trivial, ⟨⟨⟨by decide, trivial⟩, ⟨⟨by decide, trivial⟩, trivial⟩⟩, ⟨⟨⟨trivial, trivial⟩, F18_ok n [(IntKind.wrap .i64 (((y_3.1.length : Nat) : Int) + (2 : Int))), (3 : Int)] y_4 hx4⟩, ⟨trivial, ⟨of_decide_eq_true t5, ⟨trivial, ⟨trivial, trivial⟩⟩⟩⟩⟩⟩⟩⟩⟩
    refine TS.reg [.none, .none, .none, .none, (.call (.str y_4) [])] ?_ ?_
    · apply prop_of ?_ hq
      kernel_rfl
    refine XS.then ?_
    refine TS.ret ?_
    obtain rfl : ((y_4 ++ y_3.1), (0 : Int)) = r := Option.some.inj h
    exact XS.fin [] ((True) ∧ ((True) ∧ (True))) (by kernel_rfl) ⟨trivial, ⟨trivial, trivial⟩⟩

/-! plugtree/gadget.Check -/
def F12_l26 (n : Nat) (s_Texts : List (List UInt8)) (m1 : List Int) (k12_26 : Int → Option Int) : Int → Option Int
  | x_3 => (bif (decide (x_3 < ((m1.length : Nat) : Int))) then (bif inb x_3 m1.length then (bif (decide ((m1.getD x_3.toNat (0 : Int)) > ((s_Texts.length : Nat) : Int))) then (some (12 : Int)) else (k12_26 (IntKind.wrap .i64 (x_3 + (1 : Int))))) else none) else (some (0 : Int)))
def F12_l25 (n : Nat) (s_Config_Faces : List (Int × Int × Int × Int × (List (List UInt8)) × List (Int × Bool × Int × Int × Int))) (s_Texts : List (List UInt8)) (k12_25 : (Int × (List Int)) → Option Int) : (Int × (List Int)) → Option Int
  | (x_2, m1) => (bif (decide (x_2 < ((s_Config_Faces.length : Nat) : Int))) then (bif inb x_2 s_Config_Faces.length then (bif (decide (m1.length + ([(s_Config_Faces.getD x_2.toNat ((0 : Int), ((0 : Int), ((0 : Int), ((0 : Int), (([] : List (List UInt8)), ([] : List (Int × Bool × Int × Int × Int)))))))).2.2.2.1]).length ≤ 17592186044416)) then (k12_25 ((IntKind.wrap .i64 (x_2 + (1 : Int))), (m1 ++ [(s_Config_Faces.getD x_2.toNat ((0 : Int), ((0 : Int), ((0 : Int), ((0 : Int), (([] : List (List UInt8)), ([] : List (Int × Bool × Int × Int × Int)))))))).2.2.2.1]))) else none) else none) else (loopF (F12_l26 n s_Texts m1) n (0 : Int)))
def F12_l22 (n : Nat) (s_Device_Maker : Int) (s_Device_Name : Int) (s_Device_Serial : Int) (s_Config_Name : Int) (s_Config_Faces : List (Int × Int × Int × Int × (List (List UInt8)) × List (Int × Bool × Int × Int × Int))) (s_Texts : List (List UInt8)) (k12_22 : Int → Option Int) : Int → Option Int
  | x => (bif (decide (x < ((s_Texts.length : Nat) : Int))) then (bif inb x s_Texts.length then ((F33 n (s_Texts.getD x.toNat ([] : List UInt8))).bind fun y_4 => (bif (y_4.2 != (0 : Int)) then (some y_4.2) else (k12_22 (IntKind.wrap .i64 (x + (1 : Int)))))) else none) else (loopF (F12_l25 n s_Config_Faces s_Texts) n ((0 : Int), [s_Device_Maker, s_Device_Name, s_Device_Serial, s_Config_Name])))
def F12 (n : Nat) (s_Device_Usb : Int) (s_Device_Class : Int) (s_Device_Sub : Int) (s_Device_Proto : Int) (s_Device_Max0 : Int) (s_Device_Vendor : Int) (s_Device_Product : Int) (s_Device_Release : Int) (s_Device_Maker : Int) (s_Device_Name : Int) (s_Device_Serial : Int) (s_Device_Configs : Int) (s_Config_Value : Int) (s_Config_Name : Int) (s_Config_Attr : Int) (s_Config_Power : Int) (s_Config_Faces : List (Int × Int × Int × Int × (List (List UInt8)) × List (Int × Bool × Int × Int × Int))) (s_Texts : List (List UInt8)) : Option Int := ((F32 n s_Device_Usb s_Device_Class s_Device_Sub s_Device_Proto s_Device_Max0 s_Device_Vendor s_Device_Product s_Device_Release s_Device_Maker s_Device_Name s_Device_Serial s_Device_Configs).bind fun y_2 => (bif (y_2.2 != (0 : Int)) then (some y_2.2) else (bif (s_Device_Configs != (1 : Int)) then (some (4 : Int)) else ((F7 n s_Config_Value s_Config_Name s_Config_Attr s_Config_Power s_Config_Faces).bind fun y_3 => (bif (y_3.2 != (0 : Int)) then (some y_3.2) else (bif (decide (((s_Texts.length : Nat) : Int) > (8 : Int))) then (some (2 : Int)) else (loopF (F12_l22 n s_Device_Maker s_Device_Name s_Device_Serial s_Config_Name s_Config_Faces s_Texts) n (0 : Int))))))))
theorem F12_ok (n : Nat) (s_Device_Usb : Int) (s_Device_Class : Int) (s_Device_Sub : Int) (s_Device_Proto : Int) (s_Device_Max0 : Int) (s_Device_Vendor : Int) (s_Device_Product : Int) (s_Device_Release : Int) (s_Device_Maker : Int) (s_Device_Name : Int) (s_Device_Serial : Int) (s_Device_Configs : Int) (s_Config_Value : Int) (s_Config_Name : Int) (s_Config_Attr : Int) (s_Config_Power : Int) (s_Config_Faces : List (Int × Int × Int × Int × (List (List UInt8)) × List (Int × Bool × Int × Int × Int))) (s_Texts : List (List UInt8)) (r : Int) (h : F12 n s_Device_Usb s_Device_Class s_Device_Sub s_Device_Proto s_Device_Max0 s_Device_Vendor s_Device_Product s_Device_Release s_Device_Maker s_Device_Name s_Device_Serial s_Device_Configs s_Config_Value s_Config_Name s_Config_Attr s_Config_Power s_Config_Faces s_Texts = some r) : PureC Try.prog 12 [(.st (.cons (.st (.cons (.int .i64 s_Device_Usb) (.cons (.int .i64 s_Device_Class) (.cons (.int .i64 s_Device_Sub) (.cons (.int .i64 s_Device_Proto) (.cons (.int .i64 s_Device_Max0) (.cons (.int .i64 s_Device_Vendor) (.cons (.int .i64 s_Device_Product) (.cons (.int .i64 s_Device_Release) (.cons (.int .i64 s_Device_Maker) (.cons (.int .i64 s_Device_Name) (.cons (.int .i64 s_Device_Serial) (.int .i64 s_Device_Configs))))))))))))) (.cons (.st (.cons (.int .i64 s_Config_Value) (.cons (.int .i64 s_Config_Name) (.cons (.int .i64 s_Config_Attr) (.cons (.int .i64 s_Config_Power) (.sl (.st (.pair (.int .i64) (.pair (.int .i64) (.pair (.int .i64) (.pair (.int .i64) (.pair (.sl .str) (.sl (.st (.pair (.int .i64) (.pair .bool (.pair (.int .i64) (.pair (.int .i64) (.int .i64))))))))))))) s_Config_Faces)))))) (.sl .str s_Texts))))] (.int .i64 r) [] := by
  refine PureC.mkS Try.func12 rfl rfl ?_
  intro w0 fz0 hfz
  replace h : ((F32 n s_Device_Usb s_Device_Class s_Device_Sub s_Device_Proto s_Device_Max0 s_Device_Vendor s_Device_Product s_Device_Release s_Device_Maker s_Device_Name s_Device_Serial s_Device_Configs).bind fun y_2 => (bif (y_2.2 != (0 : Int)) then (some y_2.2) else (bif (s_Device_Configs != (1 : Int)) then (some (4 : Int)) else ((F7 n s_Config_Value s_Config_Name s_Config_Attr s_Config_Power s_Config_Faces).bind fun y_3 => (bif (y_3.2 != (0 : Int)) then (some y_3.2) else (bif (decide (((s_Texts.length : Nat) : Int) > (8 : Int))) then (some (2 : Int)) else (loopF (F12_l22 n s_Device_Maker s_Device_Name s_Device_Serial s_Config_Name s_Config_Faces s_Texts) n (0 : Int)))))))) = some r := h
  refine TS.seq ?_
  have hq : (True) ∧ ((True) ∧ (True)) := ⟨trivial, ⟨trivial, trivial⟩⟩
  refine TS.reg [] ?_ ?_
  · apply prop_of ?_ hq
    kernel_rfl
  refine XS.then ?_
  refine TS.seq ?_
  refine TS.seq ?_
  obtain ⟨y_2, hx1, h⟩ := bind_some' h
  have hq : (True) ∧ ((True) ∧ ((PureC Try.prog 32 [(.st (.cons (.int .i64 s_Device_Usb) (.cons (.int .i64 s_Device_Class) (.cons (.int .i64 s_Device_Sub) (.cons (.int .i64 s_Device_Proto) (.cons (.int .i64 s_Device_Max0) (.cons (.int .i64 s_Device_Vendor) (.cons (.int .i64 s_Device_Product) (.cons (.int .i64 s_Device_Release) (.cons (.int .i64 s_Device_Maker) (.cons (.int .i64 s_Device_Name) (.cons (.int .i64 s_Device_Serial) (.int .i64 s_Device_Configs)))))))))))))] (.tup (.cons (.str y_2.1) (.cons (.int .i64 y_2.2) .nil))) []) ∧ ((True) ∧ ((True) ∧ ((True) ∧ ((True) ∧ ((True) ∧ (True)))))))) := ⟨trivial, ⟨trivial, ⟨F32_ok n s_Device_Usb s_Device_Class s_Device_Sub s_Device_Proto s_Device_Max0 s_Device_Vendor s_Device_Product s_Device_Release s_Device_Maker s_Device_Name s_Device_Serial s_Device_Configs y_2 hx1, ⟨trivial, ⟨trivial, ⟨trivial, ⟨trivial, ⟨trivial, trivial⟩⟩⟩⟩⟩⟩⟩⟩
  refine TS.reg [.none, .none, (.call (.tup (.cons (.str y_2.1) (.cons (.int .i64 y_2.2) .nil))) [])] ?_ ?_
  · apply prop_of ?_ hq
    kernel_rfl
  refine XS.then ?_
  refine TS.seq ?_
  have hq : (True) ∧ ((True) ∧ (True)) := ⟨trivial, ⟨trivial, trivial⟩⟩
  refine TS.reg [] ?_ ?_
  · apply prop_of ?_ hq
    kernel_rfl
  refine XS.then ?_
  rcases bif_some h with ⟨c2, h⟩ | ⟨c3, h⟩
  · refine TS.cond (y_2.2 != (0 : Int)) ?_ (fun hcz => ?_) (fun hcz => by rw [c2] at hcz; cases hcz)
    · kernel_rfl
    refine TS.seq ?_
    have hq : (True) ∧ ((True) ∧ (True)) := ⟨trivial, ⟨trivial, trivial⟩⟩
    refine TS.reg [] ?_ ?_
    · apply prop_of ?_ hq
      kernel_rfl
    refine XS.then ?_
    refine TS.ret ?_
    refine XS.passR ?_
    obtain rfl : y_2.2 = r := Option.some.inj h
    exact XS.fin [] ((True) ∧ (True)) (by kernel_rfl) ⟨trivial, trivial⟩
  · refine TS.cond (y_2.2 != (0 : Int)) ?_ (fun hcz => by rw [c3] at hcz; cases hcz) (fun hcz => ?_)
    · kernel_rfl
    refine TS.skip ?_
    refine XS.then ?_
    refine TS.seq ?_
    refine TS.seq ?_
    have hq : (True) ∧ ((True) ∧ ((True) ∧ ((True) ∧ (True)))) := ⟨trivial, ⟨trivial, ⟨trivial, ⟨trivial, trivial⟩⟩⟩⟩
    refine TS.reg [] ?_ ?_
    · apply prop_of ?_ hq
      kernel_rfl
    refine XS.then ?_
    rcases bif_some h with ⟨c4, h⟩ | ⟨c5, h⟩
    · refine TS.cond (s_Device_Configs != (1 : Int)) ?_ (fun hcz => ?_) (fun hcz => by rw [c4] at hcz; cases hcz)
      · kernel_rfl
      refine TS.seq ?_
      have hq : (True) ∧ (True) := ⟨trivial, trivial⟩
      refine TS.reg [] ?_ ?_
      · apply prop_of ?_ hq
        kernel_rfl
      refine XS.then ?_
      refine TS.ret ?_
      refine XS.passR ?_
      obtain rfl : (4 : Int) = r := Option.some.inj h
      exact XS.fin [] ((True) ∧ (True)) (by kernel_rfl) ⟨trivial, trivial⟩
    · refine TS.cond (s_Device_Configs != (1 : Int)) ?_ (fun hcz => by rw [c5] at hcz; cases hcz) (fun hcz => ?_)
      · kernel_rfl
      refine TS.skip ?_
      refine XS.then ?_
      refine TS.seq ?_
      refine TS.seq ?_
      obtain ⟨y_3, hx6, h⟩ := bind_some' h
      have hq : (True) ∧ ((True) ∧ ((PureC Try.prog 7 [(.st (.cons (.int .i64 s_Config_Value) (.cons (.int .i64 s_Config_Name) (.cons (.int .i64 s_Config_Attr) (.cons (.int .i64 s_Config_Power) (.sl (.st (.pair (.int .i64) (.pair (.int .i64) (.pair (.int .i64) (.pair (.int .i64) (.pair (.sl .str) (.sl (.st (.pair (.int .i64) (.pair .bool (.pair (.int .i64) (.pair (.int .i64) (.int .i64))))))))))))) s_Config_Faces))))))] (.tup (.cons (.str y_3.1) (.cons (.int .i64 y_3.2) .nil))) []) ∧ ((True) ∧ ((True) ∧ ((True) ∧ ((True) ∧ ((True) ∧ (True)))))))) := ⟨trivial, ⟨trivial, ⟨F7_ok n s_Config_Value s_Config_Name s_Config_Attr s_Config_Power s_Config_Faces y_3 hx6, ⟨trivial, ⟨trivial, ⟨trivial, ⟨trivial, ⟨trivial, trivial⟩⟩⟩⟩⟩⟩⟩⟩
      refine TS.reg [.none, .none, (.call (.tup (.cons (.str y_3.1) (.cons (.int .i64 y_3.2) .nil))) [])] ?_ ?_
      · apply prop_of ?_ hq
        kernel_rfl
      refine XS.then ?_
      refine TS.seq ?_
      have hq : (True) ∧ ((True) ∧ (True)) := ⟨trivial, ⟨trivial, trivial⟩⟩
      refine TS.reg [] ?_ ?_
      · apply prop_of ?_ hq
        kernel_rfl
      refine XS.then ?_
      rcases bif_some h with ⟨c7, h⟩ | ⟨c8, h⟩
      · refine TS.cond (y_3.2 != (0 : Int)) ?_ (fun hcz => ?_) (fun hcz => by rw [c7] at hcz; cases hcz)
        · kernel_rfl
        refine TS.seq ?_
        have hq : (True) ∧ ((True) ∧ (True)) := ⟨trivial, ⟨trivial, trivial⟩⟩
        refine TS.reg [] ?_ ?_
        · apply prop_of ?_ hq
          kernel_rfl
        refine XS.then ?_
        refine TS.ret ?_
        refine XS.passR ?_
        obtain rfl : y_3.2 = r := Option.some.inj h
        exact XS.fin [] ((True) ∧ (True)) (by kernel_rfl) ⟨trivial, trivial⟩
      · refine TS.cond (y_3.2 != (0 : Int)) ?_ (fun hcz => by rw [c8] at hcz; cases hcz) (fun hcz => ?_)
        · kernel_rfl
        refine TS.skip ?_
        refine XS.then ?_
        refine TS.seq ?_
        refine TS.seq ?_
        have hq : (True) ∧ ((True) ∧ ((True) ∧ ((True) ∧ (True)))) := ⟨trivial, ⟨trivial, ⟨trivial, ⟨trivial, trivial⟩⟩⟩⟩
        refine TS.reg [] ?_ ?_
        · apply prop_of ?_ hq
          kernel_rfl
        refine XS.then ?_
        rcases bif_some h with ⟨c9, h⟩ | ⟨c10, h⟩
        · refine TS.cond (decide (((s_Texts.length : Nat) : Int) > (8 : Int))) ?_ (fun hcz => ?_) (fun hcz => by rw [c9] at hcz; cases hcz)
          · kernel_rfl
          refine TS.seq ?_
          have hq : (True) ∧ (True) := ⟨trivial, trivial⟩
          refine TS.reg [] ?_ ?_
          · apply prop_of ?_ hq
            kernel_rfl
          refine XS.then ?_
          refine TS.ret ?_
          refine XS.passR ?_
          obtain rfl : (2 : Int) = r := Option.some.inj h
          exact XS.fin [] ((True) ∧ (True)) (by kernel_rfl) ⟨trivial, trivial⟩
        · refine TS.cond (decide (((s_Texts.length : Nat) : Int) > (8 : Int))) ?_ (fun hcz => by rw [c10] at hcz; cases hcz) (fun hcz => ?_)
          · kernel_rfl
          refine TS.skip ?_
          refine XS.then ?_
          refine TS.seq ?_
          refine TS.seq ?_
          have hq : (True) ∧ ((True) ∧ ((True) ∧ ((True) ∧ (True)))) := ⟨trivial, ⟨trivial, ⟨trivial, ⟨trivial, trivial⟩⟩⟩⟩
          refine TS.reg [] ?_ ?_
          · apply prop_of ?_ hq
            kernel_rfl
          refine XS.then ?_
          refine TS.block ?_
          refine TS.reLoop [0] (mkMask 97 [1, 43, 44, 45]) (D := Int) (fun d => match d with | x => (mkTs 97 [(1, (.ptr 0 [])), (43, (.sl .str s_Texts)), (44, (.int .i64 ((s_Texts.length : Nat) : Int))), (45, (.int .i64 x))], [(.box 37 (.st (.cons (.st (.cons (.int .i64 s_Device_Usb) (.cons (.int .i64 s_Device_Class) (.cons (.int .i64 s_Device_Sub) (.cons (.int .i64 s_Device_Proto) (.cons (.int .i64 s_Device_Max0) (.cons (.int .i64 s_Device_Vendor) (.cons (.int .i64 s_Device_Product) (.cons (.int .i64 s_Device_Release) (.cons (.int .i64 s_Device_Maker) (.cons (.int .i64 s_Device_Name) (.cons (.int .i64 s_Device_Serial) (.int .i64 s_Device_Configs))))))))))))) (.cons (.st (.cons (.int .i64 s_Config_Value) (.cons (.int .i64 s_Config_Name) (.cons (.int .i64 s_Config_Attr) (.cons (.int .i64 s_Config_Power) (.sl (.st (.pair (.int .i64) (.pair (.int .i64) (.pair (.int .i64) (.pair (.int .i64) (.pair (.sl .str) (.sl (.st (.pair (.int .i64) (.pair .bool (.pair (.int .i64) (.pair (.int .i64) (.int .i64))))))))))))) s_Config_Faces)))))) (.sl .str s_Texts)))))])) (fun n' d => loopF (F12_l22 n s_Device_Maker s_Device_Name s_Device_Serial s_Config_Name s_Config_Faces s_Texts) n' d = some r) n (0 : Int) h ?_ (fun d => loopF_zero _ d r) ?_
          · kernel_rfl
          · rintro n22 x h
            replace h : (bif (decide (x < ((s_Texts.length : Nat) : Int))) then (bif inb x s_Texts.length then ((F33 n (s_Texts.getD x.toNat ([] : List UInt8))).bind fun y_4 => (bif (y_4.2 != (0 : Int)) then (some y_4.2) else ((loopF (F12_l22 n s_Device_Maker s_Device_Name s_Device_Serial s_Config_Name s_Config_Faces s_Texts) n22) (IntKind.wrap .i64 (x + (1 : Int)))))) else none) else (loopF (F12_l25 n s_Config_Faces s_Texts) n ((0 : Int), [s_Device_Maker, s_Device_Name, s_Device_Serial, s_Config_Name]))) = some r := h
            refine TS.seq ?_
            have hq : (True) ∧ (True) := ⟨trivial, trivial⟩
            refine TS.reg [] ?_ ?_
            · apply prop_of ?_ hq
              kernel_rfl
            refine XS.then ?_
            refine TS.seq ?_
            rcases bif_some h with ⟨c11, h⟩ | ⟨c12, h⟩
            · refine TS.cond (decide (x < ((s_Texts.length : Nat) : Int))) ?_ (fun hcz => ?_) (fun hcz => by rw [c11] at hcz; cases hcz)
              · kernel_rfl
              refine TS.skip ?_
              refine XS.then ?_
              refine TS.seq ?_
              refine TS.block ?_
              refine TS.seq ?_
              obtain ⟨t13, h⟩ := test_some h
              have hq : (inR x s_Texts.length) ∧ ((True) ∧ ((True) ∧ (True))) := ⟨inb_ok t13, ⟨trivial, ⟨trivial, trivial⟩⟩⟩
              refine TS.reg [] ?_ ?_
              · apply prop_of ?_ hq
                kernel_rfl
              refine XS.then ?_
              refine TS.seq ?_
              obtain ⟨y_4, hx14, h⟩ := bind_some' h
              have hq : (True) ∧ ((PureC Try.prog 33 [(.str (s_Texts.getD x.toNat ([] : List UInt8)))] (.tup (.cons (.str y_4.1) (.cons (.int .i64 y_4.2) .nil))) []) ∧ ((True) ∧ ((True) ∧ ((True) ∧ ((True) ∧ ((True) ∧ (True))))))) := ⟨trivial, ⟨F33_ok n (s_Texts.getD x.toNat ([] : List UInt8)) y_4 hx14, ⟨trivial, ⟨trivial, ⟨trivial, ⟨trivial, ⟨trivial, trivial⟩⟩⟩⟩⟩⟩⟩
              refine TS.reg [.none, (.call (.tup (.cons (.str y_4.1) (.cons (.int .i64 y_4.2) .nil))) [])] ?_ ?_
              · apply prop_of ?_ hq
                kernel_rfl
              refine XS.then ?_
              refine TS.seq ?_
              have hq : (True) ∧ ((True) ∧ (True)) := ⟨trivial, ⟨trivial, trivial⟩⟩
              refine TS.reg [] ?_ ?_
              · apply prop_of ?_ hq
                kernel_rfl
              refine XS.then ?_
              rcases bif_some h with ⟨c15, h⟩ | ⟨c16, h⟩
              · refine TS.cond (y_4.2 != (0 : Int)) ?_ (fun hcz => ?_) (fun hcz => by rw [c15] at hcz; cases hcz)
                · kernel_rfl
                refine TS.seq ?_
                have hq : (True) ∧ ((True) ∧ (True)) := ⟨trivial, ⟨trivial, trivial⟩⟩
                refine TS.reg [] ?_ ?_
                · apply prop_of ?_ hq
                  kernel_rfl
                refine XS.then ?_
                refine TS.ret ?_
                refine XS.blockRet ?_
                refine XS.passR ?_
                refine XS.passR ?_
                refine XS.blockRet ?_
                refine XS.passR ?_
                obtain rfl : y_4.2 = r := Option.some.inj h
                exact XS.fin [] ((True) ∧ (True)) (by kernel_rfl) ⟨trivial, trivial⟩
              · refine TS.cond (y_4.2 != (0 : Int)) ?_ (fun hcz => by rw [c16] at hcz; cases hcz) (fun hcz => ?_)
                · kernel_rfl
                refine TS.skip ?_
                refine XS.blockEnd ?_
                refine XS.then ?_
                have hq : (True) ∧ ((True) ∧ (True)) := ⟨trivial, ⟨trivial, trivial⟩⟩
                refine TS.reg [] ?_ ?_
                · apply prop_of ?_ hq
                  kernel_rfl
                refine XS.reAny [0] (mkMask 97 [1, 43, 44, 45]) (IntKind.wrap .i64 (x + (1 : Int))) h ?_
                kernel_rfl
            · refine TS.cond (decide (x < ((s_Texts.length : Nat) : Int))) ?_ (fun hcz => by rw [c12] at hcz; cases hcz) (fun hcz => ?_)
              · kernel_rfl
              refine TS.exit ?_
              refine XS.passE ?_
              refine XS.passE ?_
              refine XS.out ?_
              refine XS.then ?_
              refine TS.seq ?_
              have hq : (True) ∧ ((True) ∧ ((True) ∧ ((True) ∧ ((True) ∧ ((True) ∧ ((True) ∧ ((True) ∧ ((True) ∧ ((True) ∧ ((True) ∧ ((True) ∧ (((0 < 4 ∧ True) ∧ ((1 < 4 ∧ True) ∧ ((2 < 4 ∧ True) ∧ ((3 < 4 ∧ True) ∧ (True))))) ∧ ((True) ∧ (True)))))))))))))) := ⟨trivial, ⟨trivial, ⟨trivial, ⟨trivial, ⟨trivial, ⟨trivial, ⟨trivial, ⟨trivial, ⟨trivial, ⟨trivial, ⟨trivial, ⟨trivial, ⟨⟨⟨by decide, trivial⟩, ⟨⟨by decide, trivial⟩, ⟨⟨by decide, trivial⟩, ⟨⟨by decide, trivial⟩, trivial⟩⟩⟩⟩, ⟨trivial, trivial⟩⟩⟩⟩⟩⟩⟩⟩⟩⟩⟩⟩⟩⟩
              refine TS.reg [] ?_ ?_
              · apply prop_of ?_ hq
                kernel_rfl
              refine XS.then ?_
              refine TS.seq ?_
              refine TS.seq ?_
              have hq : (True) ∧ ((True) ∧ ((True) ∧ ((True) ∧ ((True) ∧ (True))))) := ⟨trivial, ⟨trivial, ⟨trivial, ⟨trivial, ⟨trivial, trivial⟩⟩⟩⟩⟩
              refine TS.reg [] ?_ ?_
              · apply prop_of ?_ hq
                kernel_rfl
              refine XS.then ?_
              refine TS.block ?_
              refine TS.reLoop [0, 1] (mkMask 97 [1, 11, 73, 74, 75]) (D := Int × (List Int)) (fun d => match d with | (x_2, m1) => (mkTs 97 [(1, (.ptr 0 [])), (11, (.row 1)), (73, (.sl (.st (.pair (.int .i64) (.pair (.int .i64) (.pair (.int .i64) (.pair (.int .i64) (.pair (.sl .str) (.sl (.st (.pair (.int .i64) (.pair .bool (.pair (.int .i64) (.pair (.int .i64) (.int .i64))))))))))))) s_Config_Faces)), (74, (.int .i64 ((s_Config_Faces.length : Nat) : Int))), (75, (.int .i64 x_2))], [(.box 37 (.st (.cons (.st (.cons (.int .i64 s_Device_Usb) (.cons (.int .i64 s_Device_Class) (.cons (.int .i64 s_Device_Sub) (.cons (.int .i64 s_Device_Proto) (.cons (.int .i64 s_Device_Max0) (.cons (.int .i64 s_Device_Vendor) (.cons (.int .i64 s_Device_Product) (.cons (.int .i64 s_Device_Release) (.cons (.int .i64 s_Device_Maker) (.cons (.int .i64 s_Device_Name) (.cons (.int .i64 s_Device_Serial) (.int .i64 s_Device_Configs))))))))))))) (.cons (.st (.cons (.int .i64 s_Config_Value) (.cons (.int .i64 s_Config_Name) (.cons (.int .i64 s_Config_Attr) (.cons (.int .i64 s_Config_Power) (.sl (.st (.pair (.int .i64) (.pair (.int .i64) (.pair (.int .i64) (.pair (.int .i64) (.pair (.sl .str) (.sl (.st (.pair (.int .i64) (.pair .bool (.pair (.int .i64) (.pair (.int .i64) (.int .i64))))))))))))) s_Config_Faces)))))) (.sl .str s_Texts))))), (.row 3 (.int .i64) m1)])) (fun n' d => loopF (F12_l25 n s_Config_Faces s_Texts) n' d = some r) n ((0 : Int), [s_Device_Maker, s_Device_Name, s_Device_Serial, s_Config_Name]) h ?_ (fun d => loopF_zero _ d r) ?_
              · kernel_rfl
              · rintro n25 ⟨x_2, m1⟩ h
                replace h : (bif (decide (x_2 < ((s_Config_Faces.length : Nat) : Int))) then (bif inb x_2 s_Config_Faces.length then (bif (decide (m1.length + ([(s_Config_Faces.getD x_2.toNat ((0 : Int), ((0 : Int), ((0 : Int), ((0 : Int), (([] : List (List UInt8)), ([] : List (Int × Bool × Int × Int × Int)))))))).2.2.2.1]).length ≤ 17592186044416)) then ((loopF (F12_l25 n s_Config_Faces s_Texts) n25) ((IntKind.wrap .i64 (x_2 + (1 : Int))), (m1 ++ [(s_Config_Faces.getD x_2.toNat ((0 : Int), ((0 : Int), ((0 : Int), ((0 : Int), (([] : List (List UInt8)), ([] : List (Int × Bool × Int × Int × Int)))))))).2.2.2.1]))) else none) else none) else (loopF (F12_l26 n s_Texts m1) n (0 : Int))) = some r := h
                refine TS.seq ?_
                have hq : (True) ∧ (True) := ⟨trivial, trivial⟩
                refine TS.reg [] ?_ ?_
                · apply prop_of ?_ hq
                  kernel_rfl
                refine XS.then ?_
                refine TS.seq ?_
                rcases bif_some h with ⟨c17, h⟩ | ⟨c18, h⟩
                · refine TS.cond (decide (x_2 < ((s_Config_Faces.length : Nat) : Int))) ?_ (fun hcz => ?_) (fun hcz => by rw [c17] at hcz; cases hcz)
                  · kernel_rfl
                  refine TS.skip ?_
                  refine XS.then ?_
                  refine TS.seq ?_
                  refine TS.block ?_
                  refine TS.seq ?_
                  obtain ⟨t19, h⟩ := test_some h
                  have hq : (inR x_2 s_Config_Faces.length) ∧ ((True) ∧ ((True) ∧ ((True) ∧ (True)))) := ⟨inb_ok t19, ⟨trivial, ⟨trivial, ⟨trivial, trivial⟩⟩⟩⟩
                  refine TS.reg [] ?_ ?_
                  · apply prop_of ?_ hq
                    kernel_rfl
                  refine XS.then ?_
                  obtain ⟨t20, h⟩ := test_some h
                  have hq : (True) ∧ ((True) ∧ ((True) ∧ (((0 < 1 ∧ True) ∧ (True)) ∧ ((m1.length + ([(s_Config_Faces.getD x_2.toNat ((0 : Int), ((0 : Int), ((0 : Int), ((0 : Int), (([] : List (List UInt8)), ([] : List (Int × Bool × Int × Int × Int)))))))).2.2.2.1]).length ≤ 17592186044416) ∧ ((True) ∧ (True)))))) := ⟨trivial, ⟨trivial, ⟨trivial, ⟨⟨⟨by decide, trivial⟩, trivial⟩, ⟨of_decide_eq_true t20, ⟨trivial, trivial⟩⟩⟩⟩⟩⟩
                  refine TS.reg [] ?_ ?_
                  · apply prop_of ?_ hq
                    kernel_rfl
                  refine XS.blockEnd ?_
                  refine XS.then ?_
                  have hq : (True) ∧ ((True) ∧ (True)) := ⟨trivial, ⟨trivial, trivial⟩⟩
                  refine TS.reg [] ?_ ?_
                  · apply prop_of ?_ hq
                    kernel_rfl
                  refine XS.reAny [0, 4] (mkMask 97 [1, 11, 73, 74, 75]) ((IntKind.wrap .i64 (x_2 + (1 : Int))), (m1 ++ [(s_Config_Faces.getD x_2.toNat ((0 : Int), ((0 : Int), ((0 : Int), ((0 : Int), (([] : List (List UInt8)), ([] : List (Int × Bool × Int × Int × Int)))))))).2.2.2.1])) h ?_
                  kernel_rfl
                · refine TS.cond (decide (x_2 < ((s_Config_Faces.length : Nat) : Int))) ?_ (fun hcz => by rw [c18] at hcz; cases hcz) (fun hcz => ?_)
                  · kernel_rfl
                  refine TS.exit ?_
                  refine XS.passE ?_
                  refine XS.passE ?_
                  refine XS.out ?_
                  refine XS.then ?_
                  refine TS.seq ?_
                  refine TS.seq ?_
                  have hq : (True) ∧ ((True) ∧ ((True) ∧ (True))) := ⟨trivial, ⟨trivial, ⟨trivial, trivial⟩⟩⟩
                  refine TS.reg [] ?_ ?_
                  · apply prop_of ?_ hq
                    kernel_rfl
                  refine XS.then ?_
                  refine TS.block ?_
                  refine TS.reLoop [0, 1] (mkMask 97 [1, 85, 86, 87]) (D := Int) (fun d => match d with | x_3 => (mkTs 97 [(1, (.ptr 0 [])), (85, (.row 1)), (86, (.int .i64 ((m1.length : Nat) : Int))), (87, (.int .i64 x_3))], [(.box 37 (.st (.cons (.st (.cons (.int .i64 s_Device_Usb) (.cons (.int .i64 s_Device_Class) (.cons (.int .i64 s_Device_Sub) (.cons (.int .i64 s_Device_Proto) (.cons (.int .i64 s_Device_Max0) (.cons (.int .i64 s_Device_Vendor) (.cons (.int .i64 s_Device_Product) (.cons (.int .i64 s_Device_Release) (.cons (.int .i64 s_Device_Maker) (.cons (.int .i64 s_Device_Name) (.cons (.int .i64 s_Device_Serial) (.int .i64 s_Device_Configs))))))))))))) (.cons (.st (.cons (.int .i64 s_Config_Value) (.cons (.int .i64 s_Config_Name) (.cons (.int .i64 s_Config_Attr) (.cons (.int .i64 s_Config_Power) (.sl (.st (.pair (.int .i64) (.pair (.int .i64) (.pair (.int .i64) (.pair (.int .i64) (.pair (.sl .str) (.sl (.st (.pair (.int .i64) (.pair .bool (.pair (.int .i64) (.pair (.int .i64) (.int .i64))))))))))))) s_Config_Faces)))))) (.sl .str s_Texts))))), (.row 3 (.int .i64) m1)])) (fun n' d => loopF (F12_l26 n s_Texts m1) n' d = some r) n (0 : Int) h ?_ (fun d => loopF_zero _ d r) ?_
                  · kernel_rfl
                  · rintro n26 x_3 h
                    replace h : (bif (decide (x_3 < ((m1.length : Nat) : Int))) then (bif inb x_3 m1.length then (bif (decide ((m1.getD x_3.toNat (0 : Int)) > ((s_Texts.length : Nat) : Int))) then (some (12 : Int)) else ((loopF (F12_l26 n s_Texts m1) n26) (IntKind.wrap .i64 (x_3 + (1 : Int))))) else none) else (some (0 : Int))) = some r := h
                    refine TS.seq ?_
                    have hq : (True) ∧ (True) := ⟨trivial, trivial⟩
                    refine TS.reg [] ?_ ?_
                    · apply prop_of ?_ hq
                      kernel_rfl
                    refine XS.then ?_
                    refine TS.seq ?_
                    rcases bif_some h with ⟨c21, h⟩ | ⟨c22, h⟩
                    · refine TS.cond (decide (x_3 < ((m1.length : Nat) : Int))) ?_ (fun hcz => ?_) (fun hcz => by rw [c21] at hcz; cases hcz)
                      · kernel_rfl
                      refine TS.skip ?_
                      refine XS.then ?_
                      refine TS.seq ?_
                      refine TS.block ?_
                      refine TS.seq ?_
                      obtain ⟨t23, h⟩ := test_some h
                      have hq : (inR x_3 m1.length) ∧ ((x_3.toNat < m1.length ∧ (True)) ∧ ((True) ∧ (True))) := ⟨inb_ok t23, ⟨⟨inR_lt (inb_ok t23), trivial⟩, ⟨trivial, trivial⟩⟩⟩
                      refine TS.reg [] ?_ ?_
                      · apply prop_of ?_ hq
                        kernel_rfl
                      refine XS.then ?_
                      refine TS.seq ?_
                      have hq : (True) ∧ ((True) ∧ ((True) ∧ ((True) ∧ ((True) ∧ (True))))) := ⟨trivial, ⟨trivial, ⟨trivial, ⟨trivial, ⟨trivial, trivial⟩⟩⟩⟩⟩
                      refine TS.reg [] ?_ ?_
                      · apply prop_of ?_ hq
                        kernel_rfl
                      refine XS.then ?_
                      rcases bif_some h with ⟨c24, h⟩ | ⟨c25, h⟩
                      · refine TS.cond (decide ((m1.getD x_3.toNat (0 : Int)) > ((s_Texts.length : Nat) : Int))) ?_ (fun hcz => ?_) (fun hcz => by rw [c24] at hcz; cases hcz)
                        · kernel_rfl
                        refine TS.seq ?_
                        have hq : (True) ∧ (True) := ⟨trivial, trivial⟩
                        refine TS.reg [] ?_ ?_
                        · apply prop_of ?_ hq
                          kernel_rfl
                        refine XS.then ?_
                        refine TS.ret ?_
                        refine XS.blockRet ?_
                        refine XS.passR ?_
                        refine XS.passR ?_
                        refine XS.blockRet ?_
                        refine XS.passR ?_
                        obtain rfl : (12 : Int) = r := Option.some.inj h
                        exact XS.fin [] ((True) ∧ (True)) (by kernel_rfl) ⟨trivial, trivial⟩
                      · refine TS.cond (decide ((m1.getD x_3.toNat (0 : Int)) > ((s_Texts.length : Nat) : Int))) ?_ (fun hcz => by rw [c25] at hcz; cases hcz) (fun hcz => ?_)
                        · kernel_rfl
                        refine TS.skip ?_
                        refine XS.blockEnd ?_
                        refine XS.then ?_
                        have hq : (True) ∧ ((True) ∧ (True)) := ⟨trivial, ⟨trivial, trivial⟩⟩
                        refine TS.reg [] ?_ ?_
                        · apply prop_of ?_ hq
                          kernel_rfl
                        refine XS.reAny [0, 1] (mkMask 97 [1, 85, 86, 87]) (IntKind.wrap .i64 (x_3 + (1 : Int))) h ?_
                        kernel_rfl
                    · refine TS.cond (decide (x_3 < ((m1.length : Nat) : Int))) ?_ (fun hcz => by rw [c22] at hcz; cases hcz) (fun hcz => ?_)
                      · kernel_rfl
                      refine TS.exit ?_
                      refine XS.passE ?_
                      refine XS.passE ?_
                      refine XS.out ?_
                      refine XS.then ?_
                      refine TS.seq ?_
                      have hq : (True) ∧ (True) := ⟨trivial, trivial⟩
                      refine TS.reg [] ?_ ?_
                      · apply prop_of ?_ hq
                        kernel_rfl
                      refine XS.then ?_
                      refine TS.ret ?_
                      obtain rfl : (0 : Int) = r := Option.some.inj h
                      exact XS.fin [] ((True) ∧ (True)) (by kernel_rfl) ⟨trivial, trivial⟩

/-! plugtree/plugref.Between -/
def F49 (n : Nat) (vn : Int) (low : Int) (high : Int) : Option Bool := (bif (decide (low ≤ vn)) then (some (decide (vn ≤ high))) else (some false))
theorem F49_ok (n : Nat) (vn : Int) (low : Int) (high : Int) (r : Bool) (h : F49 n vn low high = some r) : PureC Try.prog 49 [(.int .i64 vn), (.int .i64 low), (.int .i64 high)] (.bool r) [] := by
  refine PureC.mkS Try.func49 rfl rfl ?_
  intro w0 fz0 hfz
  replace h : (bif (decide (low ≤ vn)) then (some (decide (vn ≤ high))) else (some false)) = some r := h
  refine TS.seq ?_
  have hq : (True) ∧ (True) := ⟨trivial, trivial⟩
  refine TS.reg [] ?_ ?_
  · apply prop_of ?_ hq
    kernel_rfl
  refine XS.then ?_
  refine TS.seq ?_
  rcases bif_some h with ⟨c1, h⟩ | ⟨c2, h⟩
  · have hq : (True) ∧ ((True) ∧ ((True) ∧ (((True) ∧ (decide (low ≤ vn)) = true) ∧ ((True) ∧ ((True) ∧ ((True) ∧ ((True) ∧ ((True) ∧ (True))))))))) := ⟨trivial, ⟨trivial, ⟨trivial, ⟨⟨trivial, c1⟩, ⟨trivial, ⟨trivial, ⟨trivial, ⟨trivial, ⟨trivial, trivial⟩⟩⟩⟩⟩⟩⟩⟩⟩
    refine TS.reg [.none, .none, .none, .dec true] ?_ ?_
    · apply prop_of ?_ hq
      kernel_rfl
    refine XS.then ?_
    refine TS.ret ?_
    obtain rfl : (decide (vn ≤ high)) = r := Option.some.inj h
    exact XS.fin [] ((True) ∧ (True)) (by kernel_rfl) ⟨trivial, trivial⟩
  · have hq : (True) ∧ ((True) ∧ ((True) ∧ (((True) ∧ (decide (low ≤ vn)) = false) ∧ ((True) ∧ ((True) ∧ (True)))))) := ⟨trivial, ⟨trivial, ⟨trivial, ⟨⟨trivial, c2⟩, ⟨trivial, ⟨trivial, trivial⟩⟩⟩⟩⟩⟩
    refine TS.reg [.none, .none, .none, .dec false] ?_ ?_
    · apply prop_of ?_ hq
      kernel_rfl
    refine XS.then ?_
    refine TS.ret ?_
    obtain rfl : false = r := Option.some.inj h
    exact XS.fin [] ((True) ∧ (True)) (by kernel_rfl) ⟨trivial, trivial⟩

/-! plugtree/plugref.bytesOf -/
def F21_l2 (n : Nat) (l : List Int) (k21_2 : (Int × (List Int)) → Option ((List UInt8) × Bool)) : (Int × (List Int)) → Option ((List UInt8) × Bool)
  | (x, m0) => (bif (decide (x < ((l.length : Nat) : Int))) then (bif inb x l.length then ((F49 n (l.getD x.toNat (0 : Int)) (0 : Int) (255 : Int)).bind fun y_3 => (bif (!y_3) then (some (([] : List UInt8), false)) else (bif (decide (m0.length + [(IntKind.wrap .u8 ((l.getD x.toNat (0 : Int))))].length ≤ 140737488355328)) then (k21_2 ((IntKind.wrap .i64 (x + (1 : Int))), (m0 ++ [(IntKind.wrap .u8 ((l.getD x.toNat (0 : Int))))]))) else none))) else none) else (some ((strOf m0), true)))
def F21 (n : Nat) (l : List Int) : Option ((List UInt8) × Bool) := (loopF (F21_l2 n l) n ((0 : Int), ([] : List Int)))
theorem F21_ok (n : Nat) (l : List Int) (r : (List UInt8) × Bool) (h : F21 n l = some r) : PureC Try.prog 21 [(.sl (.int .i64) l)] (.tup (.cons (.str r.1) (.cons (.bool r.2) .nil))) [] := by
  refine PureC.mkS Try.func21 rfl rfl ?_
  intro w0 fz0 hfz
  replace h : (loopF (F21_l2 n l) n ((0 : Int), ([] : List Int))) = some r := h
  refine TS.seq ?_
  have hq : (True) ∧ ((True) ∧ (True)) := ⟨trivial, ⟨trivial, trivial⟩⟩
  refine TS.reg [] ?_ ?_
  · apply prop_of ?_ hq
    kernel_rfl
  refine XS.then ?_
  refine TS.seq ?_
  have hq : (True) ∧ (True) := ⟨trivial, trivial⟩
  refine TS.reg [] ?_ ?_
  · apply prop_of ?_ hq
    kernel_rfl
  refine XS.then ?_
  refine TS.seq ?_
  refine TS.seq ?_
  have hq : (True) ∧ ((True) ∧ ((True) ∧ (True))) := ⟨trivial, ⟨trivial, ⟨trivial, trivial⟩⟩⟩
  refine TS.reg [] ?_ ?_
  · apply prop_of ?_ hq
    kernel_rfl
  refine XS.then ?_
  refine TS.block ?_
  refine TS.wk (.row false 4 [] 5 (.int .u8)) ?_
  refine TS.reLoop [0] (mkMask 24 [4, 7, 8, 9]) (D := Int × (List Int)) (fun d => match d with | (x, m0) => (mkTs 24 [(4, (.row 0)), (7, (.sl (.int .i64) l)), (8, (.int .i64 ((l.length : Nat) : Int))), (9, (.int .i64 x))], [(.row 5 (.int .u8) m0)])) (fun n' d => loopF (F21_l2 n l) n' d = some r) n ((0 : Int), ([] : List Int)) h ?_ (fun d => loopF_zero _ d r) ?_
  · kernel_rfl
  · rintro n2 ⟨x, m0⟩ h
    replace h : (bif (decide (x < ((l.length : Nat) : Int))) then (bif inb x l.length then ((F49 n (l.getD x.toNat (0 : Int)) (0 : Int) (255 : Int)).bind fun y_3 => (bif (!y_3) then (some (([] : List UInt8), false)) else (bif (decide (m0.length + [(IntKind.wrap .u8 ((l.getD x.toNat (0 : Int))))].length ≤ 140737488355328)) then ((loopF (F21_l2 n l) n2) ((IntKind.wrap .i64 (x + (1 : Int))), (m0 ++ [(IntKind.wrap .u8 ((l.getD x.toNat (0 : Int))))]))) else none))) else none) else (some ((strOf m0), true))) = some r := h
    refine TS.seq ?_
    have hq : (True) ∧ (True) := ⟨trivial, trivial⟩
    refine TS.reg [] ?_ ?_
    · apply prop_of ?_ hq
      kernel_rfl
    refine XS.then ?_
    refine TS.seq ?_
    rcases bif_some h with ⟨c1, h⟩ | ⟨c2, h⟩
    · refine TS.cond (decide (x < ((l.length : Nat) : Int))) ?_ (fun hcz => ?_) (fun hcz => by rw [c1] at hcz; cases hcz)
      · kernel_rfl
      refine TS.skip ?_
      refine XS.then ?_
      refine TS.seq ?_
      refine TS.block ?_
      refine TS.seq ?_
      obtain ⟨t3, h⟩ := test_some h
      have hq : (inR x l.length) ∧ ((True) ∧ ((True) ∧ (True))) := ⟨inb_ok t3, ⟨trivial, ⟨trivial, trivial⟩⟩⟩
      refine TS.reg [] ?_ ?_
      · apply prop_of ?_ hq
        kernel_rfl
      refine XS.then ?_
      refine TS.seq ?_
      refine TS.seq ?_
      obtain ⟨y_3, hx4, h⟩ := bind_some' h
      have hq : (True) ∧ ((PureC Try.prog 49 [(.int .i64 (l.getD x.toNat (0 : Int))), (.int .i64 (0 : Int)), (.int .i64 (255 : Int))] (.bool y_3) []) ∧ ((True) ∧ (True))) := ⟨trivial, ⟨F49_ok n (l.getD x.toNat (0 : Int)) (0 : Int) (255 : Int) y_3 hx4, ⟨trivial, trivial⟩⟩⟩
      refine TS.reg [.none, (.call (.bool y_3) [])] ?_ ?_
      · apply prop_of ?_ hq
        kernel_rfl
      refine XS.then ?_
      rcases bif_some h with ⟨c5, h⟩ | ⟨c6, h⟩
      · refine TS.cond (!y_3) ?_ (fun hcz => ?_) (fun hcz => by rw [c5] at hcz; cases hcz)
        · kernel_rfl
        refine TS.seq ?_
        have hq : (True) ∧ ((True) ∧ (True)) := ⟨trivial, ⟨trivial, trivial⟩⟩
        refine TS.reg [] ?_ ?_
        · apply prop_of ?_ hq
          kernel_rfl
        refine XS.then ?_
        refine TS.ret ?_
        refine XS.passR ?_
        refine XS.blockRet ?_
        refine XS.passR ?_
        refine XS.passR ?_
        refine XS.blockRet ?_
        refine XS.passR ?_
        obtain rfl : (([] : List UInt8), false) = r := Option.some.inj h
        exact XS.fin [] ((True) ∧ ((True) ∧ (True))) (by kernel_rfl) ⟨trivial, ⟨trivial, trivial⟩⟩
      · refine TS.cond (!y_3) ?_ (fun hcz => by rw [c6] at hcz; cases hcz) (fun hcz => ?_)
        · kernel_rfl
        refine TS.skip ?_
        refine XS.then ?_
        obtain ⟨t7, h⟩ := test_some h
        have hq : (True) ∧ ((True) ∧ ((True) ∧ (((0 < 1 ∧ True) ∧ (True)) ∧ ((m0.length + [(IntKind.wrap .u8 ((l.getD x.toNat (0 : Int))))].length ≤ 140737488355328) ∧ ((True) ∧ (True)))))) := ⟨trivial, ⟨trivial, ⟨trivial, ⟨⟨⟨by decide, trivial⟩, trivial⟩, ⟨of_decide_eq_true t7, ⟨trivial, trivial⟩⟩⟩⟩⟩⟩
        refine TS.reg [] ?_ ?_
        · apply prop_of ?_ hq
          kernel_rfl
        refine XS.blockEnd ?_
        refine XS.then ?_
        have hq : (True) ∧ ((True) ∧ (True)) := ⟨trivial, ⟨trivial, trivial⟩⟩
        refine TS.reg [] ?_ ?_
        · apply prop_of ?_ hq
          kernel_rfl
        refine XS.reAny [2] (mkMask 24 [4, 7, 8, 9]) ((IntKind.wrap .i64 (x + (1 : Int))), (m0 ++ [(IntKind.wrap .u8 ((l.getD x.toNat (0 : Int))))])) h ?_
        kernel_rfl
    · refine TS.cond (decide (x < ((l.length : Nat) : Int))) ?_ (fun hcz => by rw [c2] at hcz; cases hcz) (fun hcz => ?_)
      · kernel_rfl
      refine TS.exit ?_
      refine XS.passE ?_
      refine XS.passE ?_
      refine XS.out ?_
      refine XS.then ?_
      refine TS.seq ?_
      have hq : (True) ∧ ((True) ∧ ((True) ∧ ((True) ∧ (True)))) := ⟨trivial, ⟨trivial, ⟨trivial, ⟨trivial, trivial⟩⟩⟩⟩
      refine TS.reg [] ?_ ?_
      · apply prop_of ?_ hq
        kernel_rfl
      refine XS.then ?_
      refine TS.ret ?_
      obtain rfl : ((strOf m0), true) = r := Option.some.inj h
      exact XS.fin [] ((True) ∧ ((True) ∧ (True))) (by kernel_rfl) ⟨trivial, ⟨trivial, trivial⟩⟩

/-! slices.Index[[]int,int] -/
def F67_l2 (n : Nat) (s : List Int) (v : Int) (k67_2 : Int → Option Int) : Int → Option Int
  | x => (bif (decide (x < ((s.length : Nat) : Int))) then (bif inb x s.length then (bif (v == (s.getD x.toNat (0 : Int))) then (some x) else (k67_2 (IntKind.wrap .i64 (x + (1 : Int))))) else none) else (some (-1 : Int)))
def F67 (n : Nat) (s : List Int) (v : Int) : Option Int := (loopF (F67_l2 n s v) n (0 : Int))
theorem F67_ok (n : Nat) (s : List Int) (v : Int) (r : Int) (h : F67 n s v = some r) : PureC Try.prog 67 [(.sl (.int .i64) s), (.int .i64 v)] (.int .i64 r) [] := by
  refine PureC.mkS Try.func67 rfl rfl ?_
  intro w0 fz0 hfz
  replace h : (loopF (F67_l2 n s v) n (0 : Int)) = some r := h
  refine TS.seq ?_
  have hq : (True) ∧ (True) := ⟨trivial, trivial⟩
  refine TS.reg [] ?_ ?_
  · apply prop_of ?_ hq
    kernel_rfl
  refine XS.then ?_
  refine TS.seq ?_
  refine TS.seq ?_
  have hq : (True) ∧ ((True) ∧ ((True) ∧ (True))) := ⟨trivial, ⟨trivial, ⟨trivial, trivial⟩⟩⟩
  refine TS.reg [] ?_ ?_
  · apply prop_of ?_ hq
    kernel_rfl
  refine XS.then ?_
  refine TS.block ?_
  refine TS.reLoop [] (mkMask 19 [0, 1, 7, 8]) (D := Int) (fun d => match d with | x => (mkTs 19 [(0, (.sl (.int .i64) s)), (1, (.int .i64 v)), (7, (.int .i64 ((s.length : Nat) : Int))), (8, (.int .i64 x))], [])) (fun n' d => loopF (F67_l2 n s v) n' d = some r) n (0 : Int) h ?_ (fun d => loopF_zero _ d r) ?_
  · kernel_rfl
  · rintro n2 x h
    replace h : (bif (decide (x < ((s.length : Nat) : Int))) then (bif inb x s.length then (bif (v == (s.getD x.toNat (0 : Int))) then (some x) else ((loopF (F67_l2 n s v) n2) (IntKind.wrap .i64 (x + (1 : Int))))) else none) else (some (-1 : Int))) = some r := h
    refine TS.seq ?_
    have hq : (True) ∧ (True) := ⟨trivial, trivial⟩
    refine TS.reg [] ?_ ?_
    · apply prop_of ?_ hq
      kernel_rfl
    refine XS.then ?_
    refine TS.seq ?_
    rcases bif_some h with ⟨c1, h⟩ | ⟨c2, h⟩
    · refine TS.cond (decide (x < ((s.length : Nat) : Int))) ?_ (fun hcz => ?_) (fun hcz => by rw [c1] at hcz; cases hcz)
      · kernel_rfl
      refine TS.skip ?_
      refine XS.then ?_
      refine TS.seq ?_
      refine TS.block ?_
      refine TS.seq ?_
      have hq : (True) ∧ ((True) ∧ (True)) := ⟨trivial, ⟨trivial, trivial⟩⟩
      refine TS.reg [] ?_ ?_
      · apply prop_of ?_ hq
        kernel_rfl
      refine XS.then ?_
      refine TS.seq ?_
      obtain ⟨t3, h⟩ := test_some h
      have hq : (True) ∧ ((True) ∧ ((True) ∧ ((inR x s.length) ∧ ((True) ∧ ((True) ∧ (True)))))) := ⟨trivial, ⟨trivial, ⟨trivial, ⟨inb_ok t3, ⟨trivial, ⟨trivial, trivial⟩⟩⟩⟩⟩⟩
      refine TS.reg [] ?_ ?_
      · apply prop_of ?_ hq
        kernel_rfl
      refine XS.then ?_
      rcases bif_some h with ⟨c4, h⟩ | ⟨c5, h⟩
      · refine TS.cond (v == (s.getD x.toNat (0 : Int))) ?_ (fun hcz => ?_) (fun hcz => by rw [c4] at hcz; cases hcz)
        · kernel_rfl
        refine TS.seq ?_
        have hq : (True) ∧ ((True) ∧ (True)) := ⟨trivial, ⟨trivial, trivial⟩⟩
        refine TS.reg [] ?_ ?_
        · apply prop_of ?_ hq
          kernel_rfl
        refine XS.then ?_
        refine TS.ret ?_
        refine XS.blockRet ?_
        refine XS.passR ?_
        refine XS.passR ?_
        refine XS.blockRet ?_
        refine XS.passR ?_
        obtain rfl : x = r := Option.some.inj h
        exact XS.fin [] ((True) ∧ (True)) (by kernel_rfl) ⟨trivial, trivial⟩
      · refine TS.cond (v == (s.getD x.toNat (0 : Int))) ?_ (fun hcz => by rw [c5] at hcz; cases hcz) (fun hcz => ?_)
        · kernel_rfl
        refine TS.skip ?_
        refine XS.blockEnd ?_
        refine XS.then ?_
        have hq : (True) ∧ ((True) ∧ (True)) := ⟨trivial, ⟨trivial, trivial⟩⟩
        refine TS.reg [] ?_ ?_
        · apply prop_of ?_ hq
          kernel_rfl
        refine XS.reAny [] (mkMask 19 [0, 1, 7, 8]) (IntKind.wrap .i64 (x + (1 : Int))) h ?_
        kernel_rfl
    · refine TS.cond (decide (x < ((s.length : Nat) : Int))) ?_ (fun hcz => by rw [c2] at hcz; cases hcz) (fun hcz => ?_)
      · kernel_rfl
      refine TS.exit ?_
      refine XS.passE ?_
      refine XS.passE ?_
      refine XS.out ?_
      refine XS.then ?_
      refine TS.seq ?_
      have hq : (True) ∧ (True) := ⟨trivial, trivial⟩
      refine TS.reg [] ?_ ?_
      · apply prop_of ?_ hq
        kernel_rfl
      refine XS.then ?_
      refine TS.ret ?_
      obtain rfl : (-1 : Int) = r := Option.some.inj h
      exact XS.fin [] ((True) ∧ (True)) (by kernel_rfl) ⟨trivial, trivial⟩

/-! slices.Contains[[]int,int] -/
def F54 (n : Nat) (s : List Int) (v : Int) : Option Bool := ((F67 n s v).bind fun y_2 => (some (decide (y_2 ≥ (0 : Int)))))
theorem F54_ok (n : Nat) (s : List Int) (v : Int) (r : Bool) (h : F54 n s v = some r) : PureC Try.prog 54 [(.sl (.int .i64) s), (.int .i64 v)] (.bool r) [] := by
  refine PureC.mkS Try.func54 rfl rfl ?_
  intro w0 fz0 hfz
  replace h : ((F67 n s v).bind fun y_2 => (some (decide (y_2 ≥ (0 : Int))))) = some r := h
  refine TS.seq ?_
  have hq : (True) ∧ (True) := ⟨trivial, trivial⟩
  refine TS.reg [] ?_ ?_
  · apply prop_of ?_ hq
    kernel_rfl
  refine XS.then ?_
  refine TS.seq ?_
  obtain ⟨y_2, hx1, h⟩ := bind_some' h
  have hq : (True) ∧ ((True) ∧ ((PureC Try.prog 67 [(.sl (.int .i64) s), (.int .i64 v)] (.int .i64 y_2) []) ∧ ((True) ∧ ((True) ∧ (True))))) := ⟨trivial, ⟨trivial, ⟨F67_ok n s v y_2 hx1, ⟨trivial, ⟨trivial, trivial⟩⟩⟩⟩⟩
  refine TS.reg [.none, .none, (.call (.int .i64 y_2) [])] ?_ ?_
  · apply prop_of ?_ hq
    kernel_rfl
  refine XS.then ?_
  refine TS.ret ?_
  obtain rfl : (decide (y_2 ≥ (0 : Int))) = r := Option.some.inj h
  exact XS.fin [] ((True) ∧ (True)) (by kernel_rfl) ⟨trivial, trivial⟩

/-! plugtree/plugref.TwoBytes -/
def F23 (n : Nat) (vn : Int) : Option (List UInt8) := (some (strOf [(IntKind.wrap .u8 ((vn.tmod (256 : Int)))), (IntKind.wrap .u8 (((IntKind.wrap .i64 (vn.tdiv (256 : Int))).tmod (256 : Int))))]))
theorem F23_ok (n : Nat) (vn : Int) (r : List UInt8) (h : F23 n vn = some r) : PureC Try.prog 23 [(.int .i64 vn)] (.str r) [] := by
  refine PureC.mkS Try.func23 rfl rfl ?_
  intro w0 fz0 hfz
  replace h : (some (strOf [(IntKind.wrap .u8 ((vn.tmod (256 : Int)))), (IntKind.wrap .u8 (((IntKind.wrap .i64 (vn.tdiv (256 : Int))).tmod (256 : Int))))])) = some r := h
  refine TS.seq ?_
  have hq : (True) ∧ (True) := ⟨trivial, trivial⟩
  refine TS.reg [] ?_ ?_
  · apply prop_of ?_ hq
    kernel_rfl
  refine XS.then ?_
  refine TS.seq ?_
  have hq : (True) ∧ (((256 : Int) ≠ 0) ∧ ((True) ∧ ((True) ∧ (((256 : Int) ≠ 0) ∧ (((256 : Int) ≠ 0) ∧ ((True) ∧ (((0 < 2 ∧ True) ∧ ((1 < 2 ∧ True) ∧ (True))) ∧ ((True) ∧ ((True) ∧ (True)))))))))) := ⟨trivial, ⟨by decide, ⟨trivial, ⟨trivial, ⟨by decide, ⟨by decide, ⟨trivial, ⟨⟨⟨by decide, trivial⟩, ⟨⟨by decide, trivial⟩, trivial⟩⟩, ⟨trivial, ⟨trivial, trivial⟩⟩⟩⟩⟩⟩⟩⟩⟩⟩
  refine TS.reg [] ?_ ?_
  · apply prop_of ?_ hq
    kernel_rfl
  refine XS.then ?_
  refine TS.ret ?_
  obtain rfl : (strOf [(IntKind.wrap .u8 ((vn.tmod (256 : Int)))), (IntKind.wrap .u8 (((IntKind.wrap .i64 (vn.tdiv (256 : Int))).tmod (256 : Int))))]) = r := Option.some.inj h
  exact XS.fin [] ((True) ∧ (True)) (by kernel_rfl) ⟨trivial, trivial⟩
end Go.Proofs.Ytnibbbmjjdkkgaa
