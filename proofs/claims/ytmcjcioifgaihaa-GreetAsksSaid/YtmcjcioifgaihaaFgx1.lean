/- Functions of the program, as functions of values. -/
import Derived.Test.YtmcjcioifgaihaaAm27
import Derived.Test.YtmcjcioifgaihaaChecked
namespace Go.Proofs.Ytmcjcioifgaihaa
open Go Go.RowKit
set_option linter.unusedVariables false
set_option maxRecDepth 100000

/-! plugtree/greet.New -/
def F14 (n : Nat) (addr : Int) : Option (Int × Int × Int × Int × Int × Int × Int × Int × Int × Int × Int × Int × Int × Int × Int × Int × Int × Int × Int × Int × Int × (List UInt8) × Int × Int) := (bif (decide (addr < (1 : Int))) then (some ((0 : Int), (0 : Int), (0 : Int), (0 : Int), (0 : Int), (0 : Int), (0 : Int), (0 : Int), (0 : Int), (0 : Int), (0 : Int), (0 : Int), (0 : Int), (0 : Int), (0 : Int), (0 : Int), (0 : Int), (0 : Int), (0 : Int), (0 : Int), (0 : Int), ([] : List UInt8), (0 : Int), (1 : Int))) else (bif (decide (addr > (127 : Int))) then (some ((0 : Int), (0 : Int), (0 : Int), (0 : Int), (0 : Int), (0 : Int), (0 : Int), (0 : Int), (0 : Int), (0 : Int), (0 : Int), (0 : Int), (0 : Int), (0 : Int), (0 : Int), (0 : Int), (0 : Int), (0 : Int), (0 : Int), (0 : Int), (0 : Int), ([] : List UInt8), (0 : Int), (1 : Int))) else (some ((1 : Int), (0 : Int), addr, (0 : Int), (0 : Int), (0 : Int), (0 : Int), (0 : Int), (0 : Int), (0 : Int), (0 : Int), (0 : Int), (0 : Int), (0 : Int), (0 : Int), (0 : Int), (0 : Int), (0 : Int), (0 : Int), (0 : Int), (0 : Int), ([] : List UInt8), (0 : Int), (0 : Int)))))
theorem F14_ok (n : Nat) (addr : Int) (r : Int × Int × Int × Int × Int × Int × Int × Int × Int × Int × Int × Int × Int × Int × Int × Int × Int × Int × Int × Int × Int × (List UInt8) × Int × Int) (h : F14 n addr = some r) : PureC Try.prog 14 [(.int .i64 addr)] (.tup (.cons (.st (.cons (.int .i64 r.1) (.cons (.int .i64 r.2.1) (.cons (.int .i64 r.2.2.1) (.cons (.int .i64 r.2.2.2.1) (.cons (.int .i64 r.2.2.2.2.1) (.cons (.st (.cons (.int .i64 r.2.2.2.2.2.1) (.cons (.int .i64 r.2.2.2.2.2.2.1) (.cons (.int .i64 r.2.2.2.2.2.2.2.1) (.cons (.int .i64 r.2.2.2.2.2.2.2.2.1) (.cons (.int .i64 r.2.2.2.2.2.2.2.2.2.1) (.cons (.int .i64 r.2.2.2.2.2.2.2.2.2.2.1) (.cons (.int .i64 r.2.2.2.2.2.2.2.2.2.2.2.1) (.cons (.int .i64 r.2.2.2.2.2.2.2.2.2.2.2.2.1) (.cons (.int .i64 r.2.2.2.2.2.2.2.2.2.2.2.2.2.1) (.cons (.int .i64 r.2.2.2.2.2.2.2.2.2.2.2.2.2.2.1) (.cons (.int .i64 r.2.2.2.2.2.2.2.2.2.2.2.2.2.2.2.1) (.int .i64 r.2.2.2.2.2.2.2.2.2.2.2.2.2.2.2.2.1))))))))))))) (.cons (.st (.cons (.int .i64 r.2.2.2.2.2.2.2.2.2.2.2.2.2.2.2.2.2.1) (.cons (.int .i64 r.2.2.2.2.2.2.2.2.2.2.2.2.2.2.2.2.2.2.1) (.cons (.int .i64 r.2.2.2.2.2.2.2.2.2.2.2.2.2.2.2.2.2.2.2.1) (.cons (.int .i64 r.2.2.2.2.2.2.2.2.2.2.2.2.2.2.2.2.2.2.2.2.1) .nilS))))) (.cons (.str r.2.2.2.2.2.2.2.2.2.2.2.2.2.2.2.2.2.2.2.2.2.1) (.int .i64 r.2.2.2.2.2.2.2.2.2.2.2.2.2.2.2.2.2.2.2.2.2.2.1)))))))))) (.cons (.int .i64 r.2.2.2.2.2.2.2.2.2.2.2.2.2.2.2.2.2.2.2.2.2.2.2) .nil))) [] := by
  refine PureC.mkS Try.func14 rfl rfl ?_
  intro w0 fz0 hfz
  replace h : (bif (decide (addr < (1 : Int))) then (some ((0 : Int), (0 : Int), (0 : Int), (0 : Int), (0 : Int), (0 : Int), (0 : Int), (0 : Int), (0 : Int), (0 : Int), (0 : Int), (0 : Int), (0 : Int), (0 : Int), (0 : Int), (0 : Int), (0 : Int), (0 : Int), (0 : Int), (0 : Int), (0 : Int), ([] : List UInt8), (0 : Int), (1 : Int))) else (bif (decide (addr > (127 : Int))) then (some ((0 : Int), (0 : Int), (0 : Int), (0 : Int), (0 : Int), (0 : Int), (0 : Int), (0 : Int), (0 : Int), (0 : Int), (0 : Int), (0 : Int), (0 : Int), (0 : Int), (0 : Int), (0 : Int), (0 : Int), (0 : Int), (0 : Int), (0 : Int), (0 : Int), ([] : List UInt8), (0 : Int), (1 : Int))) else (some ((1 : Int), (0 : Int), addr, (0 : Int), (0 : Int), (0 : Int), (0 : Int), (0 : Int), (0 : Int), (0 : Int), (0 : Int), (0 : Int), (0 : Int), (0 : Int), (0 : Int), (0 : Int), (0 : Int), (0 : Int), (0 : Int), (0 : Int), (0 : Int), ([] : List UInt8), (0 : Int), (0 : Int))))) = some r := h
  refine TS.seq ?_
  have hq : (True) ∧ ((True) ∧ (True)) := ⟨trivial, ⟨trivial, trivial⟩⟩
  refine TS.reg [] ?_ ?_
  · apply prop_of ?_ hq
    kernel_rfl
  refine XS.then ?_
  refine TS.seq ?_
  refine TS.seq ?_
  rcases bif_some h with ⟨c1, h⟩ | ⟨c2, h⟩
  · have hq : (True) ∧ ((True) ∧ (((True) ∧ (decide (addr < (1 : Int))) = true) ∧ ((True) ∧ (True)))) := ⟨trivial, ⟨trivial, ⟨⟨trivial, c1⟩, ⟨trivial, trivial⟩⟩⟩⟩
    refine TS.reg [.none, .none, .dec true] ?_ ?_
    · apply prop_of ?_ hq
      kernel_rfl
    refine XS.then ?_
    refine TS.yes ?_ ?_
    · kernel_rfl
    refine TS.seq ?_
    have hq : (True) ∧ ((True) ∧ ((True) ∧ (True))) := ⟨trivial, ⟨trivial, ⟨trivial, trivial⟩⟩⟩
    refine TS.reg [] ?_ ?_
    · apply prop_of ?_ hq
      kernel_rfl
    refine XS.then ?_
    refine TS.ret ?_
    refine XS.passR ?_
    obtain rfl : ((0 : Int), (0 : Int), (0 : Int), (0 : Int), (0 : Int), (0 : Int), (0 : Int), (0 : Int), (0 : Int), (0 : Int), (0 : Int), (0 : Int), (0 : Int), (0 : Int), (0 : Int), (0 : Int), (0 : Int), (0 : Int), (0 : Int), (0 : Int), (0 : Int), ([] : List UInt8), (0 : Int), (1 : Int)) = r := Option.some.inj h
    exact XS.fin [] ((True) ∧ ((True) ∧ (True))) (by kernel_rfl) ⟨trivial, ⟨trivial, trivial⟩⟩
  · have hq : (True) ∧ ((True) ∧ (((True) ∧ (decide (addr < (1 : Int))) = false) ∧ ((True) ∧ ((True) ∧ ((True) ∧ (True)))))) := ⟨trivial, ⟨trivial, ⟨⟨trivial, c2⟩, ⟨trivial, ⟨trivial, ⟨trivial, trivial⟩⟩⟩⟩⟩⟩
    refine TS.reg [.none, .none, .dec false] ?_ ?_
    · apply prop_of ?_ hq
      kernel_rfl
    refine XS.then ?_
    rcases bif_some h with ⟨c3, h⟩ | ⟨c4, h⟩
    · refine TS.cond (decide (addr > (127 : Int))) ?_ (fun e => ?_) (fun e => by rw [c3] at e; cases e)
      · kernel_rfl
      refine TS.seq ?_
      have hq : (True) ∧ ((True) ∧ ((True) ∧ (True))) := ⟨trivial, ⟨trivial, ⟨trivial, trivial⟩⟩⟩
      refine TS.reg [] ?_ ?_
      · apply prop_of ?_ hq
        kernel_rfl
      refine XS.then ?_
      refine TS.ret ?_
      refine XS.passR ?_
      obtain rfl : ((0 : Int), (0 : Int), (0 : Int), (0 : Int), (0 : Int), (0 : Int), (0 : Int), (0 : Int), (0 : Int), (0 : Int), (0 : Int), (0 : Int), (0 : Int), (0 : Int), (0 : Int), (0 : Int), (0 : Int), (0 : Int), (0 : Int), (0 : Int), (0 : Int), ([] : List UInt8), (0 : Int), (1 : Int)) = r := Option.some.inj h
      exact XS.fin [] ((True) ∧ ((True) ∧ (True))) (by kernel_rfl) ⟨trivial, ⟨trivial, trivial⟩⟩
    · refine TS.cond (decide (addr > (127 : Int))) ?_ (fun e => by rw [c4] at e; cases e) (fun e => ?_)
      · kernel_rfl
      refine TS.skip ?_
      refine XS.then ?_
      refine TS.seq ?_
      have hq : (True) ∧ (((True) ∧ ((True) ∧ (True))) ∧ ((True) ∧ ((True) ∧ (True)))) := ⟨trivial, ⟨⟨trivial, ⟨trivial, trivial⟩⟩, ⟨trivial, ⟨trivial, trivial⟩⟩⟩⟩
      refine TS.reg [] ?_ ?_
      · apply prop_of ?_ hq
        kernel_rfl
      refine XS.then ?_
      refine TS.ret ?_
      obtain rfl : ((1 : Int), (0 : Int), addr, (0 : Int), (0 : Int), (0 : Int), (0 : Int), (0 : Int), (0 : Int), (0 : Int), (0 : Int), (0 : Int), (0 : Int), (0 : Int), (0 : Int), (0 : Int), (0 : Int), (0 : Int), (0 : Int), (0 : Int), (0 : Int), ([] : List UInt8), (0 : Int), (0 : Int)) = r := Option.some.inj h
      exact XS.fin [] ((True) ∧ ((True) ∧ (True))) (by kernel_rfl) ⟨trivial, ⟨trivial, trivial⟩⟩

/-! plugtree/plugref.Between -/
def F15 (n : Nat) (vn : Int) (low : Int) (high : Int) : Option Bool := (bif (decide (low ≤ vn)) then (some (decide (vn ≤ high))) else (some false))
theorem F15_ok (n : Nat) (vn : Int) (low : Int) (high : Int) (r : Bool) (h : F15 n vn low high = some r) : PureC Try.prog 15 [(.int .i64 vn), (.int .i64 low), (.int .i64 high)] (.bool r) [] := by
  refine PureC.mkS Try.func15 rfl rfl ?_
  intro w0 fz0 hfz
  replace h : (bif (decide (low ≤ vn)) then (some (decide (vn ≤ high))) else (some false)) = some r := h
  refine TS.seq ?_
  have hq : (True) ∧ (True) := ⟨trivial, trivial⟩
  refine TS.reg [] ?_ ?_
  · apply prop_of ?_ hq
    kernel_rfl
  refine XS.then ?_
  refine TS.seq ?_
  rcases bif_some h with ⟨c1, h⟩ | ⟨c2, h⟩
  · have hq : (True) ∧ ((True) ∧ ((True) ∧ (((True) ∧ (decide (low ≤ vn)) = true) ∧ ((True) ∧ ((True) ∧ ((True) ∧ ((True) ∧ ((True) ∧ (True))))))))) := ⟨trivial, ⟨trivial, ⟨trivial, ⟨⟨trivial, c1⟩, ⟨trivial, ⟨trivial, ⟨trivial, ⟨trivial, ⟨trivial, trivial⟩⟩⟩⟩⟩⟩⟩⟩⟩
    refine TS.reg [.none, .none, .none, .dec true] ?_ ?_
    · apply prop_of ?_ hq
      kernel_rfl
    refine XS.then ?_
    refine TS.ret ?_
    obtain rfl : (decide (vn ≤ high)) = r := Option.some.inj h
    exact XS.fin [] ((True) ∧ (True)) (by kernel_rfl) ⟨trivial, trivial⟩
  · have hq : (True) ∧ ((True) ∧ ((True) ∧ (((True) ∧ (decide (low ≤ vn)) = false) ∧ ((True) ∧ ((True) ∧ (True)))))) := ⟨trivial, ⟨trivial, ⟨trivial, ⟨⟨trivial, c2⟩, ⟨trivial, ⟨trivial, trivial⟩⟩⟩⟩⟩⟩
    refine TS.reg [.none, .none, .none, .dec false] ?_ ?_
    · apply prop_of ?_ hq
      kernel_rfl
    refine XS.then ?_
    refine TS.ret ?_
    obtain rfl : false = r := Option.some.inj h
    exact XS.fin [] ((True) ∧ (True)) (by kernel_rfl) ⟨trivial, trivial⟩

/-! plugtree/greet.valid$1 -/
def F171 (n : Nat) (vn : Int) (low : Int) (high : Int) : Option Bool := (bif (decide (vn ≥ low)) then (some (decide (vn ≤ high))) else (some false))
theorem F171_ok (n : Nat) (vn : Int) (low : Int) (high : Int) (r : Bool) (h : F171 n vn low high = some r) : PureC Try.prog 171 [(.int .i64 vn), (.int .i64 low), (.int .i64 high)] (.bool r) [] := by
  refine PureC.mkS Try.func171 rfl rfl ?_
  intro w0 fz0 hfz
  replace h : (bif (decide (vn ≥ low)) then (some (decide (vn ≤ high))) else (some false)) = some r := h
  refine TS.seq ?_
  have hq : (True) ∧ (True) := ⟨trivial, trivial⟩
  refine TS.reg [] ?_ ?_
  · apply prop_of ?_ hq
    kernel_rfl
  refine XS.then ?_
  refine TS.seq ?_
  rcases bif_some h with ⟨c1, h⟩ | ⟨c2, h⟩
  · have hq : (True) ∧ ((True) ∧ ((True) ∧ (((True) ∧ (decide (vn ≥ low)) = true) ∧ ((True) ∧ ((True) ∧ ((True) ∧ ((True) ∧ ((True) ∧ (True))))))))) := ⟨trivial, ⟨trivial, ⟨trivial, ⟨⟨trivial, c1⟩, ⟨trivial, ⟨trivial, ⟨trivial, ⟨trivial, ⟨trivial, trivial⟩⟩⟩⟩⟩⟩⟩⟩⟩
    refine TS.reg [.none, .none, .none, .dec true] ?_ ?_
    · apply prop_of ?_ hq
      kernel_rfl
    refine XS.then ?_
    refine TS.ret ?_
    obtain rfl : (decide (vn ≤ high)) = r := Option.some.inj h
    exact XS.fin [] ((True) ∧ (True)) (by kernel_rfl) ⟨trivial, trivial⟩
  · have hq : (True) ∧ ((True) ∧ ((True) ∧ (((True) ∧ (decide (vn ≥ low)) = false) ∧ ((True) ∧ ((True) ∧ (True)))))) := ⟨trivial, ⟨trivial, ⟨trivial, ⟨⟨trivial, c2⟩, ⟨trivial, ⟨trivial, trivial⟩⟩⟩⟩⟩⟩
    refine TS.reg [.none, .none, .none, .dec false] ?_ ?_
    · apply prop_of ?_ hq
      kernel_rfl
    refine XS.then ?_
    refine TS.ret ?_
    obtain rfl : false = r := Option.some.inj h
    exact XS.fin [] ((True) ∧ (True)) (by kernel_rfl) ⟨trivial, trivial⟩

/-! plugtree/greet.valid -/
def F130 (n : Nat) (g_Step : Int) (g_Tries : Int) (g_Addr : Int) (g_Max0 : Int) (g_Total : Int) (g_Device_Usb : Int) (g_Device_Class : Int) (g_Device_Sub : Int) (g_Device_Proto : Int) (g_Device_Max0 : Int) (g_Device_Vendor : Int) (g_Device_Product : Int) (g_Device_Release : Int) (g_Device_Maker : Int) (g_Device_Name : Int) (g_Device_Serial : Int) (g_Device_Configs : Int) (g_Config_Value : Int) (g_Config_Name : Int) (g_Config_Attr : Int) (g_Config_Power : Int) (g_Config_Faces : List (Int × Int × Int × Int × (List (List UInt8)) × List (Int × Bool × Int × Int × Int))) (g_Serial : List UInt8) (g_Err : Int) : Option Bool := ((F171 n g_Step (1 : Int) (9 : Int)).bind fun y_2 => (bif y_2 then ((F171 n g_Tries (0 : Int) (2 : Int)).bind fun y_3 => (bif y_3 then ((F171 n g_Addr (1 : Int) (127 : Int)).bind fun y_4 => (bif y_4 then ((F171 n g_Total (0 : Int) (512 : Int)).bind fun y_5 => (bif y_5 then ((F171 n g_Device_Serial (0 : Int) (255 : Int)).bind fun y_6 => (bif y_6 then ((F171 n g_Config_Value (0 : Int) (255 : Int)).bind fun y_7 => (some y_7)) else (some false))) else (some false))) else (some false))) else (some false))) else (some false)))
theorem F130_ok (n : Nat) (g_Step : Int) (g_Tries : Int) (g_Addr : Int) (g_Max0 : Int) (g_Total : Int) (g_Device_Usb : Int) (g_Device_Class : Int) (g_Device_Sub : Int) (g_Device_Proto : Int) (g_Device_Max0 : Int) (g_Device_Vendor : Int) (g_Device_Product : Int) (g_Device_Release : Int) (g_Device_Maker : Int) (g_Device_Name : Int) (g_Device_Serial : Int) (g_Device_Configs : Int) (g_Config_Value : Int) (g_Config_Name : Int) (g_Config_Attr : Int) (g_Config_Power : Int) (g_Config_Faces : List (Int × Int × Int × Int × (List (List UInt8)) × List (Int × Bool × Int × Int × Int))) (g_Serial : List UInt8) (g_Err : Int) (r : Bool) (h : F130 n g_Step g_Tries g_Addr g_Max0 g_Total g_Device_Usb g_Device_Class g_Device_Sub g_Device_Proto g_Device_Max0 g_Device_Vendor g_Device_Product g_Device_Release g_Device_Maker g_Device_Name g_Device_Serial g_Device_Configs g_Config_Value g_Config_Name g_Config_Attr g_Config_Power g_Config_Faces g_Serial g_Err = some r) : PureC Try.prog 130 [(.st (.cons (.int .i64 g_Step) (.cons (.int .i64 g_Tries) (.cons (.int .i64 g_Addr) (.cons (.int .i64 g_Max0) (.cons (.int .i64 g_Total) (.cons (.st (.cons (.int .i64 g_Device_Usb) (.cons (.int .i64 g_Device_Class) (.cons (.int .i64 g_Device_Sub) (.cons (.int .i64 g_Device_Proto) (.cons (.int .i64 g_Device_Max0) (.cons (.int .i64 g_Device_Vendor) (.cons (.int .i64 g_Device_Product) (.cons (.int .i64 g_Device_Release) (.cons (.int .i64 g_Device_Maker) (.cons (.int .i64 g_Device_Name) (.cons (.int .i64 g_Device_Serial) (.int .i64 g_Device_Configs))))))))))))) (.cons (.st (.cons (.int .i64 g_Config_Value) (.cons (.int .i64 g_Config_Name) (.cons (.int .i64 g_Config_Attr) (.cons (.int .i64 g_Config_Power) (.sl (.st (.pair (.int .i64) (.pair (.int .i64) (.pair (.int .i64) (.pair (.int .i64) (.pair (.sl .str) (.sl (.st (.pair (.int .i64) (.pair .bool (.pair (.int .i64) (.pair (.int .i64) (.int .i64))))))))))))) g_Config_Faces)))))) (.cons (.str g_Serial) (.int .i64 g_Err))))))))))] (.bool r) [] := by
  refine PureC.mkS Try.func130 rfl rfl ?_
  intro w0 fz0 hfz
  replace h : ((F171 n g_Step (1 : Int) (9 : Int)).bind fun y_2 => (bif y_2 then ((F171 n g_Tries (0 : Int) (2 : Int)).bind fun y_3 => (bif y_3 then ((F171 n g_Addr (1 : Int) (127 : Int)).bind fun y_4 => (bif y_4 then ((F171 n g_Total (0 : Int) (512 : Int)).bind fun y_5 => (bif y_5 then ((F171 n g_Device_Serial (0 : Int) (255 : Int)).bind fun y_6 => (bif y_6 then ((F171 n g_Config_Value (0 : Int) (255 : Int)).bind fun y_7 => (some y_7)) else (some false))) else (some false))) else (some false))) else (some false))) else (some false))) = some r := h
  refine TS.seq ?_
  have hq : (True) ∧ ((True) ∧ (True)) := ⟨trivial, ⟨trivial, trivial⟩⟩
  refine TS.reg [] ?_ ?_
  · apply prop_of ?_ hq
    kernel_rfl
  refine XS.then ?_
  refine TS.seq ?_
  have hq : (True) ∧ (True) := ⟨trivial, trivial⟩
  refine TS.reg [] ?_ ?_
  · apply prop_of ?_ hq
    kernel_rfl
  refine XS.then ?_
  refine TS.seq ?_
  obtain ⟨y_2, hx1, h⟩ := bind_some' h
  rcases bif_some h with ⟨c2, h⟩ | ⟨c3, h⟩
  · obtain ⟨y_3, hx4, h⟩ := bind_some' h
    rcases bif_some h with ⟨c5, h⟩ | ⟨c6, h⟩
    · obtain ⟨y_4, hx7, h⟩ := bind_some' h
      rcases bif_some h with ⟨c8, h⟩ | ⟨c9, h⟩
      · obtain ⟨y_5, hx10, h⟩ := bind_some' h
        rcases bif_some h with ⟨c11, h⟩ | ⟨c12, h⟩
        · obtain ⟨y_6, hx13, h⟩ := bind_some' h
          rcases bif_some h with ⟨c14, h⟩ | ⟨c15, h⟩
          · obtain ⟨y_7, hx16, h⟩ := bind_some' h
            have hq : (True) ∧ ((True) ∧ ((True) ∧ ((PureC Try.prog 171 [(.int .i64 g_Step), (.int .i64 (1 : Int)), (.int .i64 (9 : Int))] (.bool y_2) []) ∧ (((True) ∧ y_2 = true) ∧ ((True) ∧ ((True) ∧ ((True) ∧ ((PureC Try.prog 171 [(.int .i64 g_Tries), (.int .i64 (0 : Int)), (.int .i64 (2 : Int))] (.bool y_3) []) ∧ ((True) ∧ (((True) ∧ y_3 = true) ∧ ((True) ∧ ((True) ∧ ((True) ∧ ((PureC Try.prog 171 [(.int .i64 g_Addr), (.int .i64 (1 : Int)), (.int .i64 (127 : Int))] (.bool y_4) []) ∧ ((True) ∧ (((True) ∧ y_4 = true) ∧ ((True) ∧ ((True) ∧ ((True) ∧ ((PureC Try.prog 171 [(.int .i64 g_Total), (.int .i64 (0 : Int)), (.int .i64 (512 : Int))] (.bool y_5) []) ∧ ((True) ∧ (((True) ∧ y_5 = true) ∧ ((True) ∧ ((True) ∧ ((True) ∧ ((True) ∧ ((PureC Try.prog 171 [(.int .i64 g_Device_Serial), (.int .i64 (0 : Int)), (.int .i64 (255 : Int))] (.bool y_6) []) ∧ ((True) ∧ (((True) ∧ y_6 = true) ∧ ((True) ∧ ((True) ∧ ((True) ∧ ((True) ∧ ((PureC Try.prog 171 [(.int .i64 g_Config_Value), (.int .i64 (0 : Int)), (.int .i64 (255 : Int))] (.bool y_7) []) ∧ ((True) ∧ ((True) ∧ (True))))))))))))))))))))))))))))))))))))) := ⟨trivial, ⟨trivial, ⟨trivial, ⟨F171_ok n g_Step (1 : Int) (9 : Int) y_2 hx1, ⟨⟨trivial, c2⟩, ⟨trivial, ⟨trivial, ⟨trivial, ⟨F171_ok n g_Tries (0 : Int) (2 : Int) y_3 hx4, ⟨trivial, ⟨⟨trivial, c5⟩, ⟨trivial, ⟨trivial, ⟨trivial, ⟨F171_ok n g_Addr (1 : Int) (127 : Int) y_4 hx7, ⟨trivial, ⟨⟨trivial, c8⟩, ⟨trivial, ⟨trivial, ⟨trivial, ⟨F171_ok n g_Total (0 : Int) (512 : Int) y_5 hx10, ⟨trivial, ⟨⟨trivial, c11⟩, ⟨trivial, ⟨trivial, ⟨trivial, ⟨trivial, ⟨F171_ok n g_Device_Serial (0 : Int) (255 : Int) y_6 hx13, ⟨trivial, ⟨⟨trivial, c14⟩, ⟨trivial, ⟨trivial, ⟨trivial, ⟨trivial, ⟨F171_ok n g_Config_Value (0 : Int) (255 : Int) y_7 hx16, ⟨trivial, ⟨trivial, trivial⟩⟩⟩⟩⟩⟩⟩⟩⟩⟩⟩⟩⟩⟩⟩⟩⟩⟩⟩⟩⟩⟩⟩⟩⟩⟩⟩⟩⟩⟩⟩⟩⟩⟩⟩⟩⟩
            refine TS.reg [.none, .none, .none, (.call (.bool y_2) []), .dec true, .none, .none, .none, (.call (.bool y_3) []), .none, .dec true, .none, .none, .none, (.call (.bool y_4) []), .none, .dec true, .none, .none, .none, (.call (.bool y_5) []), .none, .dec true, .none, .none, .none, .none, (.call (.bool y_6) []), .none, .dec true, .none, .none, .none, .none, (.call (.bool y_7) [])] ?_ ?_
            · apply prop_of ?_ hq
              kernel_rfl
            refine XS.then ?_
            refine TS.ret ?_
            obtain rfl : y_7 = r := Option.some.inj h
            exact XS.fin [] ((True) ∧ (True)) (by kernel_rfl) ⟨trivial, trivial⟩
          · have hq : (True) ∧ ((True) ∧ ((True) ∧ ((PureC Try.prog 171 [(.int .i64 g_Step), (.int .i64 (1 : Int)), (.int .i64 (9 : Int))] (.bool y_2) []) ∧ (((True) ∧ y_2 = true) ∧ ((True) ∧ ((True) ∧ ((True) ∧ ((PureC Try.prog 171 [(.int .i64 g_Tries), (.int .i64 (0 : Int)), (.int .i64 (2 : Int))] (.bool y_3) []) ∧ ((True) ∧ (((True) ∧ y_3 = true) ∧ ((True) ∧ ((True) ∧ ((True) ∧ ((PureC Try.prog 171 [(.int .i64 g_Addr), (.int .i64 (1 : Int)), (.int .i64 (127 : Int))] (.bool y_4) []) ∧ ((True) ∧ (((True) ∧ y_4 = true) ∧ ((True) ∧ ((True) ∧ ((True) ∧ ((PureC Try.prog 171 [(.int .i64 g_Total), (.int .i64 (0 : Int)), (.int .i64 (512 : Int))] (.bool y_5) []) ∧ ((True) ∧ (((True) ∧ y_5 = true) ∧ ((True) ∧ ((True) ∧ ((True) ∧ ((True) ∧ ((PureC Try.prog 171 [(.int .i64 g_Device_Serial), (.int .i64 (0 : Int)), (.int .i64 (255 : Int))] (.bool y_6) []) ∧ ((True) ∧ (((True) ∧ y_6 = false) ∧ ((True) ∧ ((True) ∧ (True)))))))))))))))))))))))))))))))) := ⟨trivial, ⟨trivial, ⟨trivial, ⟨F171_ok n g_Step (1 : Int) (9 : Int) y_2 hx1, ⟨⟨trivial, c2⟩, ⟨trivial, ⟨trivial, ⟨trivial, ⟨F171_ok n g_Tries (0 : Int) (2 : Int) y_3 hx4, ⟨trivial, ⟨⟨trivial, c5⟩, ⟨trivial, ⟨trivial, ⟨trivial, ⟨F171_ok n g_Addr (1 : Int) (127 : Int) y_4 hx7, ⟨trivial, ⟨⟨trivial, c8⟩, ⟨trivial, ⟨trivial, ⟨trivial, ⟨F171_ok n g_Total (0 : Int) (512 : Int) y_5 hx10, ⟨trivial, ⟨⟨trivial, c11⟩, ⟨trivial, ⟨trivial, ⟨trivial, ⟨trivial, ⟨F171_ok n g_Device_Serial (0 : Int) (255 : Int) y_6 hx13, ⟨trivial, ⟨⟨trivial, c15⟩, ⟨trivial, ⟨trivial, trivial⟩⟩⟩⟩⟩⟩⟩⟩⟩⟩⟩⟩⟩⟩⟩⟩⟩⟩⟩⟩⟩⟩⟩⟩⟩⟩⟩⟩⟩⟩⟩⟩
            refine TS.reg [.none, .none, .none, (.call (.bool y_2) []), .dec true, .none, .none, .none, (.call (.bool y_3) []), .none, .dec true, .none, .none, .none, (.call (.bool y_4) []), .none, .dec true, .none, .none, .none, (.call (.bool y_5) []), .none, .dec true, .none, .none, .none, .none, (.call (.bool y_6) []), .none, .dec false] ?_ ?_
            · apply prop_of ?_ hq
              kernel_rfl
            refine XS.then ?_
            refine TS.ret ?_
            obtain rfl : false = r := Option.some.inj h
            exact XS.fin [] ((True) ∧ (True)) (by kernel_rfl) ⟨trivial, trivial⟩
        · have hq : (True) ∧ ((True) ∧ ((True) ∧ ((PureC Try.prog 171 [(.int .i64 g_Step), (.int .i64 (1 : Int)), (.int .i64 (9 : Int))] (.bool y_2) []) ∧ (((True) ∧ y_2 = true) ∧ ((True) ∧ ((True) ∧ ((True) ∧ ((PureC Try.prog 171 [(.int .i64 g_Tries), (.int .i64 (0 : Int)), (.int .i64 (2 : Int))] (.bool y_3) []) ∧ ((True) ∧ (((True) ∧ y_3 = true) ∧ ((True) ∧ ((True) ∧ ((True) ∧ ((PureC Try.prog 171 [(.int .i64 g_Addr), (.int .i64 (1 : Int)), (.int .i64 (127 : Int))] (.bool y_4) []) ∧ ((True) ∧ (((True) ∧ y_4 = true) ∧ ((True) ∧ ((True) ∧ ((True) ∧ ((PureC Try.prog 171 [(.int .i64 g_Total), (.int .i64 (0 : Int)), (.int .i64 (512 : Int))] (.bool y_5) []) ∧ ((True) ∧ (((True) ∧ y_5 = false) ∧ ((True) ∧ ((True) ∧ ((True) ∧ ((True) ∧ (True))))))))))))))))))))))))))) := ⟨trivial, ⟨trivial, ⟨trivial, ⟨F171_ok n g_Step (1 : Int) (9 : Int) y_2 hx1, ⟨⟨trivial, c2⟩, ⟨trivial, ⟨trivial, ⟨trivial, ⟨F171_ok n g_Tries (0 : Int) (2 : Int) y_3 hx4, ⟨trivial, ⟨⟨trivial, c5⟩, ⟨trivial, ⟨trivial, ⟨trivial, ⟨F171_ok n g_Addr (1 : Int) (127 : Int) y_4 hx7, ⟨trivial, ⟨⟨trivial, c8⟩, ⟨trivial, ⟨trivial, ⟨trivial, ⟨F171_ok n g_Total (0 : Int) (512 : Int) y_5 hx10, ⟨trivial, ⟨⟨trivial, c12⟩, ⟨trivial, ⟨trivial, ⟨trivial, ⟨trivial, trivial⟩⟩⟩⟩⟩⟩⟩⟩⟩⟩⟩⟩⟩⟩⟩⟩⟩⟩⟩⟩⟩⟩⟩⟩⟩⟩⟩
          refine TS.reg [.none, .none, .none, (.call (.bool y_2) []), .dec true, .none, .none, .none, (.call (.bool y_3) []), .none, .dec true, .none, .none, .none, (.call (.bool y_4) []), .none, .dec true, .none, .none, .none, (.call (.bool y_5) []), .none, .dec false] ?_ ?_
          · apply prop_of ?_ hq
            kernel_rfl
          refine XS.then ?_
          refine TS.ret ?_
          obtain rfl : false = r := Option.some.inj h
          exact XS.fin [] ((True) ∧ (True)) (by kernel_rfl) ⟨trivial, trivial⟩
      · have hq : (True) ∧ ((True) ∧ ((True) ∧ ((PureC Try.prog 171 [(.int .i64 g_Step), (.int .i64 (1 : Int)), (.int .i64 (9 : Int))] (.bool y_2) []) ∧ (((True) ∧ y_2 = true) ∧ ((True) ∧ ((True) ∧ ((True) ∧ ((PureC Try.prog 171 [(.int .i64 g_Tries), (.int .i64 (0 : Int)), (.int .i64 (2 : Int))] (.bool y_3) []) ∧ ((True) ∧ (((True) ∧ y_3 = true) ∧ ((True) ∧ ((True) ∧ ((True) ∧ ((PureC Try.prog 171 [(.int .i64 g_Addr), (.int .i64 (1 : Int)), (.int .i64 (127 : Int))] (.bool y_4) []) ∧ ((True) ∧ (((True) ∧ y_4 = false) ∧ ((True) ∧ ((True) ∧ ((True) ∧ ((True) ∧ ((True) ∧ ((True) ∧ (True))))))))))))))))))))))) := ⟨trivial, ⟨trivial, ⟨trivial, ⟨F171_ok n g_Step (1 : Int) (9 : Int) y_2 hx1, ⟨⟨trivial, c2⟩, ⟨trivial, ⟨trivial, ⟨trivial, ⟨F171_ok n g_Tries (0 : Int) (2 : Int) y_3 hx4, ⟨trivial, ⟨⟨trivial, c5⟩, ⟨trivial, ⟨trivial, ⟨trivial, ⟨F171_ok n g_Addr (1 : Int) (127 : Int) y_4 hx7, ⟨trivial, ⟨⟨trivial, c9⟩, ⟨trivial, ⟨trivial, ⟨trivial, ⟨trivial, ⟨trivial, ⟨trivial, trivial⟩⟩⟩⟩⟩⟩⟩⟩⟩⟩⟩⟩⟩⟩⟩⟩⟩⟩⟩⟩⟩⟩⟩
        refine TS.reg [.none, .none, .none, (.call (.bool y_2) []), .dec true, .none, .none, .none, (.call (.bool y_3) []), .none, .dec true, .none, .none, .none, (.call (.bool y_4) []), .none, .dec false] ?_ ?_
        · apply prop_of ?_ hq
          kernel_rfl
        refine XS.then ?_
        refine TS.ret ?_
        obtain rfl : false = r := Option.some.inj h
        exact XS.fin [] ((True) ∧ (True)) (by kernel_rfl) ⟨trivial, trivial⟩
    · have hq : (True) ∧ ((True) ∧ ((True) ∧ ((PureC Try.prog 171 [(.int .i64 g_Step), (.int .i64 (1 : Int)), (.int .i64 (9 : Int))] (.bool y_2) []) ∧ (((True) ∧ y_2 = true) ∧ ((True) ∧ ((True) ∧ ((True) ∧ ((PureC Try.prog 171 [(.int .i64 g_Tries), (.int .i64 (0 : Int)), (.int .i64 (2 : Int))] (.bool y_3) []) ∧ ((True) ∧ (((True) ∧ y_3 = false) ∧ ((True) ∧ ((True) ∧ ((True) ∧ ((True) ∧ ((True) ∧ ((True) ∧ ((True) ∧ ((True) ∧ (True))))))))))))))))))) := ⟨trivial, ⟨trivial, ⟨trivial, ⟨F171_ok n g_Step (1 : Int) (9 : Int) y_2 hx1, ⟨⟨trivial, c2⟩, ⟨trivial, ⟨trivial, ⟨trivial, ⟨F171_ok n g_Tries (0 : Int) (2 : Int) y_3 hx4, ⟨trivial, ⟨⟨trivial, c6⟩, ⟨trivial, ⟨trivial, ⟨trivial, ⟨trivial, ⟨trivial, ⟨trivial, ⟨trivial, ⟨trivial, trivial⟩⟩⟩⟩⟩⟩⟩⟩⟩⟩⟩⟩⟩⟩⟩⟩⟩⟩⟩
      refine TS.reg [.none, .none, .none, (.call (.bool y_2) []), .dec true, .none, .none, .none, (.call (.bool y_3) []), .none, .dec false] ?_ ?_
      · apply prop_of ?_ hq
        kernel_rfl
      refine XS.then ?_
      refine TS.ret ?_
      obtain rfl : false = r := Option.some.inj h
      exact XS.fin [] ((True) ∧ (True)) (by kernel_rfl) ⟨trivial, trivial⟩
  · have hq : (True) ∧ ((True) ∧ ((True) ∧ ((PureC Try.prog 171 [(.int .i64 g_Step), (.int .i64 (1 : Int)), (.int .i64 (9 : Int))] (.bool y_2) []) ∧ (((True) ∧ y_2 = false) ∧ ((True) ∧ ((True) ∧ ((True) ∧ ((True) ∧ ((True) ∧ ((True) ∧ ((True) ∧ ((True) ∧ ((True) ∧ ((True) ∧ (True))))))))))))))) := ⟨trivial, ⟨trivial, ⟨trivial, ⟨F171_ok n g_Step (1 : Int) (9 : Int) y_2 hx1, ⟨⟨trivial, c3⟩, ⟨trivial, ⟨trivial, ⟨trivial, ⟨trivial, ⟨trivial, ⟨trivial, ⟨trivial, ⟨trivial, ⟨trivial, ⟨trivial, trivial⟩⟩⟩⟩⟩⟩⟩⟩⟩⟩⟩⟩⟩⟩⟩
    refine TS.reg [.none, .none, .none, (.call (.bool y_2) []), .dec false] ?_ ?_
    · apply prop_of ?_ hq
      kernel_rfl
    refine XS.then ?_
    refine TS.ret ?_
    obtain rfl : false = r := Option.some.inj h
    exact XS.fin [] ((True) ∧ (True)) (by kernel_rfl) ⟨trivial, trivial⟩

/-! plugtree/greet.check -/
def F55 (n : Nat) (g_Step : Int) (g_Tries : Int) (g_Addr : Int) (g_Max0 : Int) (g_Total : Int) (g_Device_Usb : Int) (g_Device_Class : Int) (g_Device_Sub : Int) (g_Device_Proto : Int) (g_Device_Max0 : Int) (g_Device_Vendor : Int) (g_Device_Product : Int) (g_Device_Release : Int) (g_Device_Maker : Int) (g_Device_Name : Int) (g_Device_Serial : Int) (g_Device_Configs : Int) (g_Config_Value : Int) (g_Config_Name : Int) (g_Config_Attr : Int) (g_Config_Power : Int) (g_Config_Faces : List (Int × Int × Int × Int × (List (List UInt8)) × List (Int × Bool × Int × Int × Int))) (g_Serial : List UInt8) (g_Err : Int) : Option Int := ((F130 n g_Step g_Tries g_Addr g_Max0 g_Total g_Device_Usb g_Device_Class g_Device_Sub g_Device_Proto g_Device_Max0 g_Device_Vendor g_Device_Product g_Device_Release g_Device_Maker g_Device_Name g_Device_Serial g_Device_Configs g_Config_Value g_Config_Name g_Config_Attr g_Config_Power g_Config_Faces g_Serial g_Err).bind fun y_2 => (bif (!y_2) then (some (1 : Int)) else (bif (decide (g_Step ≥ (8 : Int))) then (some (12 : Int)) else (some (0 : Int)))))
theorem F55_ok (n : Nat) (g_Step : Int) (g_Tries : Int) (g_Addr : Int) (g_Max0 : Int) (g_Total : Int) (g_Device_Usb : Int) (g_Device_Class : Int) (g_Device_Sub : Int) (g_Device_Proto : Int) (g_Device_Max0 : Int) (g_Device_Vendor : Int) (g_Device_Product : Int) (g_Device_Release : Int) (g_Device_Maker : Int) (g_Device_Name : Int) (g_Device_Serial : Int) (g_Device_Configs : Int) (g_Config_Value : Int) (g_Config_Name : Int) (g_Config_Attr : Int) (g_Config_Power : Int) (g_Config_Faces : List (Int × Int × Int × Int × (List (List UInt8)) × List (Int × Bool × Int × Int × Int))) (g_Serial : List UInt8) (g_Err : Int) (r : Int) (h : F55 n g_Step g_Tries g_Addr g_Max0 g_Total g_Device_Usb g_Device_Class g_Device_Sub g_Device_Proto g_Device_Max0 g_Device_Vendor g_Device_Product g_Device_Release g_Device_Maker g_Device_Name g_Device_Serial g_Device_Configs g_Config_Value g_Config_Name g_Config_Attr g_Config_Power g_Config_Faces g_Serial g_Err = some r) : PureC Try.prog 55 [(.st (.cons (.int .i64 g_Step) (.cons (.int .i64 g_Tries) (.cons (.int .i64 g_Addr) (.cons (.int .i64 g_Max0) (.cons (.int .i64 g_Total) (.cons (.st (.cons (.int .i64 g_Device_Usb) (.cons (.int .i64 g_Device_Class) (.cons (.int .i64 g_Device_Sub) (.cons (.int .i64 g_Device_Proto) (.cons (.int .i64 g_Device_Max0) (.cons (.int .i64 g_Device_Vendor) (.cons (.int .i64 g_Device_Product) (.cons (.int .i64 g_Device_Release) (.cons (.int .i64 g_Device_Maker) (.cons (.int .i64 g_Device_Name) (.cons (.int .i64 g_Device_Serial) (.int .i64 g_Device_Configs))))))))))))) (.cons (.st (.cons (.int .i64 g_Config_Value) (.cons (.int .i64 g_Config_Name) (.cons (.int .i64 g_Config_Attr) (.cons (.int .i64 g_Config_Power) (.sl (.st (.pair (.int .i64) (.pair (.int .i64) (.pair (.int .i64) (.pair (.int .i64) (.pair (.sl .str) (.sl (.st (.pair (.int .i64) (.pair .bool (.pair (.int .i64) (.pair (.int .i64) (.int .i64))))))))))))) g_Config_Faces)))))) (.cons (.str g_Serial) (.int .i64 g_Err))))))))))] (.int .i64 r) [] := by
  refine PureC.mkS Try.func55 rfl rfl ?_
  intro w0 fz0 hfz
  replace h : ((F130 n g_Step g_Tries g_Addr g_Max0 g_Total g_Device_Usb g_Device_Class g_Device_Sub g_Device_Proto g_Device_Max0 g_Device_Vendor g_Device_Product g_Device_Release g_Device_Maker g_Device_Name g_Device_Serial g_Device_Configs g_Config_Value g_Config_Name g_Config_Attr g_Config_Power g_Config_Faces g_Serial g_Err).bind fun y_2 => (bif (!y_2) then (some (1 : Int)) else (bif (decide (g_Step ≥ (8 : Int))) then (some (12 : Int)) else (some (0 : Int))))) = some r := h
  refine TS.seq ?_
  have hq : (True) ∧ ((True) ∧ (True)) := ⟨trivial, ⟨trivial, trivial⟩⟩
  refine TS.reg [] ?_ ?_
  · apply prop_of ?_ hq
    kernel_rfl
  refine XS.then ?_
  refine TS.seq ?_
  refine TS.block ?_
  refine TS.seq ?_
  obtain ⟨y_2, hx1, h⟩ := bind_some' h
  have hq : (True) ∧ ((PureC Try.prog 130 [(.st (.cons (.int .i64 g_Step) (.cons (.int .i64 g_Tries) (.cons (.int .i64 g_Addr) (.cons (.int .i64 g_Max0) (.cons (.int .i64 g_Total) (.cons (.st (.cons (.int .i64 g_Device_Usb) (.cons (.int .i64 g_Device_Class) (.cons (.int .i64 g_Device_Sub) (.cons (.int .i64 g_Device_Proto) (.cons (.int .i64 g_Device_Max0) (.cons (.int .i64 g_Device_Vendor) (.cons (.int .i64 g_Device_Product) (.cons (.int .i64 g_Device_Release) (.cons (.int .i64 g_Device_Maker) (.cons (.int .i64 g_Device_Name) (.cons (.int .i64 g_Device_Serial) (.int .i64 g_Device_Configs))))))))))))) (.cons (.st (.cons (.int .i64 g_Config_Value) (.cons (.int .i64 g_Config_Name) (.cons (.int .i64 g_Config_Attr) (.cons (.int .i64 g_Config_Power) (.sl (.st (.pair (.int .i64) (.pair (.int .i64) (.pair (.int .i64) (.pair (.int .i64) (.pair (.sl .str) (.sl (.st (.pair (.int .i64) (.pair .bool (.pair (.int .i64) (.pair (.int .i64) (.int .i64))))))))))))) g_Config_Faces)))))) (.cons (.str g_Serial) (.int .i64 g_Err))))))))))] (.bool y_2) []) ∧ ((True) ∧ ((True) ∧ (True)))) := ⟨trivial, ⟨F130_ok n g_Step g_Tries g_Addr g_Max0 g_Total g_Device_Usb g_Device_Class g_Device_Sub g_Device_Proto g_Device_Max0 g_Device_Vendor g_Device_Product g_Device_Release g_Device_Maker g_Device_Name g_Device_Serial g_Device_Configs g_Config_Value g_Config_Name g_Config_Attr g_Config_Power g_Config_Faces g_Serial g_Err y_2 hx1, ⟨trivial, ⟨trivial, trivial⟩⟩⟩⟩
  refine TS.reg [.none, (.call (.bool y_2) [])] ?_ ?_
  · apply prop_of ?_ hq
    kernel_rfl
  refine XS.then ?_
  rcases bif_some h with ⟨c2, h⟩ | ⟨c3, h⟩
  · refine TS.cond (!y_2) ?_ (fun e => ?_) (fun e => by rw [c2] at e; cases e)
    · kernel_rfl
    refine TS.seq ?_
    have hq : (True) ∧ (True) := ⟨trivial, trivial⟩
    refine TS.reg [] ?_ ?_
    · apply prop_of ?_ hq
      kernel_rfl
    refine XS.then ?_
    refine TS.ret ?_
    refine XS.blockRet ?_
    refine XS.passR ?_
    obtain rfl : (1 : Int) = r := Option.some.inj h
    exact XS.fin [] ((True) ∧ (True)) (by kernel_rfl) ⟨trivial, trivial⟩
  · refine TS.cond (!y_2) ?_ (fun e => by rw [c3] at e; cases e) (fun e => ?_)
    · kernel_rfl
    refine TS.seq ?_
    have hq : (True) ∧ ((True) ∧ ((True) ∧ ((True) ∧ (True)))) := ⟨trivial, ⟨trivial, ⟨trivial, ⟨trivial, trivial⟩⟩⟩⟩
    refine TS.reg [] ?_ ?_
    · apply prop_of ?_ hq
      kernel_rfl
    refine XS.then ?_
    rcases bif_some h with ⟨c4, h⟩ | ⟨c5, h⟩
    · refine TS.cond (decide (g_Step ≥ (8 : Int))) ?_ (fun e => ?_) (fun e => by rw [c4] at e; cases e)
      · kernel_rfl
      refine TS.seq ?_
      have hq : (True) ∧ (True) := ⟨trivial, trivial⟩
      refine TS.reg [] ?_ ?_
      · apply prop_of ?_ hq
        kernel_rfl
      refine XS.then ?_
      refine TS.ret ?_
      refine XS.blockRet ?_
      refine XS.passR ?_
      obtain rfl : (12 : Int) = r := Option.some.inj h
      exact XS.fin [] ((True) ∧ (True)) (by kernel_rfl) ⟨trivial, trivial⟩
    · refine TS.cond (decide (g_Step ≥ (8 : Int))) ?_ (fun e => by rw [c5] at e; cases e) (fun e => ?_)
      · kernel_rfl
      refine TS.skip ?_
      refine XS.blockEnd ?_
      refine XS.then ?_
      refine TS.seq ?_
      have hq : (True) ∧ (True) := ⟨trivial, trivial⟩
      refine TS.reg [] ?_ ?_
      · apply prop_of ?_ hq
        kernel_rfl
      refine XS.then ?_
      refine TS.ret ?_
      obtain rfl : (0 : Int) = r := Option.some.inj h
      exact XS.fin [] ((True) ∧ (True)) (by kernel_rfl) ⟨trivial, trivial⟩

/-! plugtree/setup.rowOf -/
def F131 (n : Nat) (kind : Int) : Option (Int × Int × Int × Int × Int × Bool) := (bif (kind == (1 : Int)) then (some ((128 : Int), (0 : Int), (0 : Int), (0 : Int), (2 : Int), true)) else (bif (kind == (2 : Int)) then (some ((2 : Int), (1 : Int), (0 : Int), (3 : Int), (0 : Int), true)) else (bif (kind == (3 : Int)) then (some ((2 : Int), (3 : Int), (0 : Int), (3 : Int), (0 : Int), true)) else (bif (kind == (4 : Int)) then (some ((0 : Int), (5 : Int), (4 : Int), (0 : Int), (0 : Int), true)) else (bif (kind == (5 : Int)) then (some ((128 : Int), (6 : Int), (1 : Int), (1 : Int), (-1 : Int), true)) else (bif (kind == (6 : Int)) then (some ((0 : Int), (9 : Int), (2 : Int), (0 : Int), (0 : Int), true)) else (bif (kind == (7 : Int)) then (some ((128 : Int), (8 : Int), (0 : Int), (0 : Int), (1 : Int), true)) else (bif (kind == (8 : Int)) then (some ((163 : Int), (0 : Int), (0 : Int), (5 : Int), (4 : Int), true)) else (bif (kind == (9 : Int)) then (some ((35 : Int), (3 : Int), (6 : Int), (5 : Int), (0 : Int), true)) else (bif (kind == (10 : Int)) then (some ((35 : Int), (1 : Int), (6 : Int), (5 : Int), (0 : Int), true)) else (bif (kind == (11 : Int)) then (some ((33 : Int), (255 : Int), (0 : Int), (2 : Int), (0 : Int), true)) else (bif (kind == (12 : Int)) then (some ((161 : Int), (254 : Int), (0 : Int), (2 : Int), (1 : Int), true)) else (bif (kind == (13 : Int)) then (some ((33 : Int), (10 : Int), (1 : Int), (2 : Int), (0 : Int), true)) else (bif (kind == (14 : Int)) then (some ((33 : Int), (9 : Int), (7 : Int), (2 : Int), (1 : Int), true)) else (some ((0 : Int), (0 : Int), (0 : Int), (0 : Int), (0 : Int), false))))))))))))))))
theorem F131_ok (n : Nat) (kind : Int) (r : Int × Int × Int × Int × Int × Bool) (h : F131 n kind = some r) : PureC Try.prog 131 [(.int .i64 kind)] (.tup (.cons (.st (.cons (.int .u8 r.1) (.cons (.int .u8 r.2.1) (.cons (.int .i64 r.2.2.1) (.cons (.int .i64 r.2.2.2.1) (.int .i64 r.2.2.2.2.1)))))) (.cons (.bool r.2.2.2.2.2) .nil))) [] := by
  refine PureC.mkS Try.func131 rfl rfl ?_
  intro w0 fz0 hfz
  replace h : (bif (kind == (1 : Int)) then (some ((128 : Int), (0 : Int), (0 : Int), (0 : Int), (2 : Int), true)) else (bif (kind == (2 : Int)) then (some ((2 : Int), (1 : Int), (0 : Int), (3 : Int), (0 : Int), true)) else (bif (kind == (3 : Int)) then (some ((2 : Int), (3 : Int), (0 : Int), (3 : Int), (0 : Int), true)) else (bif (kind == (4 : Int)) then (some ((0 : Int), (5 : Int), (4 : Int), (0 : Int), (0 : Int), true)) else (bif (kind == (5 : Int)) then (some ((128 : Int), (6 : Int), (1 : Int), (1 : Int), (-1 : Int), true)) else (bif (kind == (6 : Int)) then (some ((0 : Int), (9 : Int), (2 : Int), (0 : Int), (0 : Int), true)) else (bif (kind == (7 : Int)) then (some ((128 : Int), (8 : Int), (0 : Int), (0 : Int), (1 : Int), true)) else (bif (kind == (8 : Int)) then (some ((163 : Int), (0 : Int), (0 : Int), (5 : Int), (4 : Int), true)) else (bif (kind == (9 : Int)) then (some ((35 : Int), (3 : Int), (6 : Int), (5 : Int), (0 : Int), true)) else (bif (kind == (10 : Int)) then (some ((35 : Int), (1 : Int), (6 : Int), (5 : Int), (0 : Int), true)) else (bif (kind == (11 : Int)) then (some ((33 : Int), (255 : Int), (0 : Int), (2 : Int), (0 : Int), true)) else (bif (kind == (12 : Int)) then (some ((161 : Int), (254 : Int), (0 : Int), (2 : Int), (1 : Int), true)) else (bif (kind == (13 : Int)) then (some ((33 : Int), (10 : Int), (1 : Int), (2 : Int), (0 : Int), true)) else (bif (kind == (14 : Int)) then (some ((33 : Int), (9 : Int), (7 : Int), (2 : Int), (1 : Int), true)) else (some ((0 : Int), (0 : Int), (0 : Int), (0 : Int), (0 : Int), false)))))))))))))))) = some r := h
  refine TS.seq ?_
  have hq : (True) ∧ ((True) ∧ (True)) := ⟨trivial, ⟨trivial, trivial⟩⟩
  refine TS.reg [] ?_ ?_
  · apply prop_of ?_ hq
    kernel_rfl
  refine XS.then ?_
  refine TS.seq ?_
  refine TS.seq ?_
  have hq : (True) ∧ (True) := ⟨trivial, trivial⟩
  refine TS.reg [] ?_ ?_
  · apply prop_of ?_ hq
    kernel_rfl
  refine XS.then ?_
  refine TS.block ?_
  refine TS.seq ?_
  have hq : (True) ∧ ((True) ∧ (True)) := ⟨trivial, ⟨trivial, trivial⟩⟩
  refine TS.reg [] ?_ ?_
  · apply prop_of ?_ hq
    kernel_rfl
  refine XS.then ?_
  rcases bif_some h with ⟨c1, h⟩ | ⟨c2, h⟩
  · refine TS.cond (kind == (1 : Int)) ?_ (fun e => ?_) (fun e => by rw [c1] at e; cases e)
    · kernel_rfl
    refine TS.seq ?_
    have hq : ((True) ∧ ((True) ∧ ((True) ∧ ((True) ∧ ((True) ∧ (True)))))) ∧ ((True) ∧ ((True) ∧ (True))) := ⟨⟨trivial, ⟨trivial, ⟨trivial, ⟨trivial, ⟨trivial, trivial⟩⟩⟩⟩⟩, ⟨trivial, ⟨trivial, trivial⟩⟩⟩
    refine TS.reg [] ?_ ?_
    · apply prop_of ?_ hq
      kernel_rfl
    refine XS.then ?_
    refine TS.ret ?_
    refine XS.blockRet ?_
    refine XS.passR ?_
    obtain rfl : ((128 : Int), (0 : Int), (0 : Int), (0 : Int), (2 : Int), true) = r := Option.some.inj h
    exact XS.fin [] ((True) ∧ ((True) ∧ (True))) (by kernel_rfl) ⟨trivial, ⟨trivial, trivial⟩⟩
  · refine TS.cond (kind == (1 : Int)) ?_ (fun e => by rw [c2] at e; cases e) (fun e => ?_)
    · kernel_rfl
    refine TS.seq ?_
    have hq : (True) ∧ ((True) ∧ (True)) := ⟨trivial, ⟨trivial, trivial⟩⟩
    refine TS.reg [] ?_ ?_
    · apply prop_of ?_ hq
      kernel_rfl
    refine XS.then ?_
    rcases bif_some h with ⟨c3, h⟩ | ⟨c4, h⟩
    · refine TS.cond (kind == (2 : Int)) ?_ (fun e => ?_) (fun e => by rw [c3] at e; cases e)
      · kernel_rfl
      refine TS.seq ?_
      have hq : ((True) ∧ ((True) ∧ ((True) ∧ ((True) ∧ ((True) ∧ (True)))))) ∧ ((True) ∧ ((True) ∧ (True))) := ⟨⟨trivial, ⟨trivial, ⟨trivial, ⟨trivial, ⟨trivial, trivial⟩⟩⟩⟩⟩, ⟨trivial, ⟨trivial, trivial⟩⟩⟩
      refine TS.reg [] ?_ ?_
      · apply prop_of ?_ hq
        kernel_rfl
      refine XS.then ?_
      refine TS.ret ?_
      refine XS.blockRet ?_
      refine XS.passR ?_
      obtain rfl : ((2 : Int), (1 : Int), (0 : Int), (3 : Int), (0 : Int), true) = r := Option.some.inj h
      exact XS.fin [] ((True) ∧ ((True) ∧ (True))) (by kernel_rfl) ⟨trivial, ⟨trivial, trivial⟩⟩
    · refine TS.cond (kind == (2 : Int)) ?_ (fun e => by rw [c4] at e; cases e) (fun e => ?_)
      · kernel_rfl
      refine TS.seq ?_
      have hq : (True) ∧ ((True) ∧ (True)) := ⟨trivial, ⟨trivial, trivial⟩⟩
      refine TS.reg [] ?_ ?_
      · apply prop_of ?_ hq
        kernel_rfl
      refine XS.then ?_
      rcases bif_some h with ⟨c5, h⟩ | ⟨c6, h⟩
      · refine TS.cond (kind == (3 : Int)) ?_ (fun e => ?_) (fun e => by rw [c5] at e; cases e)
        · kernel_rfl
        refine TS.seq ?_
        have hq : ((True) ∧ ((True) ∧ ((True) ∧ ((True) ∧ ((True) ∧ (True)))))) ∧ ((True) ∧ ((True) ∧ (True))) := ⟨⟨trivial, ⟨trivial, ⟨trivial, ⟨trivial, ⟨trivial, trivial⟩⟩⟩⟩⟩, ⟨trivial, ⟨trivial, trivial⟩⟩⟩
        refine TS.reg [] ?_ ?_
        · apply prop_of ?_ hq
          kernel_rfl
        refine XS.then ?_
        refine TS.ret ?_
        refine XS.blockRet ?_
        refine XS.passR ?_
        obtain rfl : ((2 : Int), (3 : Int), (0 : Int), (3 : Int), (0 : Int), true) = r := Option.some.inj h
        exact XS.fin [] ((True) ∧ ((True) ∧ (True))) (by kernel_rfl) ⟨trivial, ⟨trivial, trivial⟩⟩
      · refine TS.cond (kind == (3 : Int)) ?_ (fun e => by rw [c6] at e; cases e) (fun e => ?_)
        · kernel_rfl
        refine TS.seq ?_
        have hq : (True) ∧ ((True) ∧ (True)) := ⟨trivial, ⟨trivial, trivial⟩⟩
        refine TS.reg [] ?_ ?_
        · apply prop_of ?_ hq
          kernel_rfl
        refine XS.then ?_
        rcases bif_some h with ⟨c7, h⟩ | ⟨c8, h⟩
        · refine TS.cond (kind == (4 : Int)) ?_ (fun e => ?_) (fun e => by rw [c7] at e; cases e)
          · kernel_rfl
          refine TS.seq ?_
          have hq : ((True) ∧ ((True) ∧ ((True) ∧ ((True) ∧ ((True) ∧ (True)))))) ∧ ((True) ∧ ((True) ∧ (True))) := ⟨⟨trivial, ⟨trivial, ⟨trivial, ⟨trivial, ⟨trivial, trivial⟩⟩⟩⟩⟩, ⟨trivial, ⟨trivial, trivial⟩⟩⟩
          refine TS.reg [] ?_ ?_
          · apply prop_of ?_ hq
            kernel_rfl
          refine XS.then ?_
          refine TS.ret ?_
          refine XS.blockRet ?_
          refine XS.passR ?_
          obtain rfl : ((0 : Int), (5 : Int), (4 : Int), (0 : Int), (0 : Int), true) = r := Option.some.inj h
          exact XS.fin [] ((True) ∧ ((True) ∧ (True))) (by kernel_rfl) ⟨trivial, ⟨trivial, trivial⟩⟩
        · refine TS.cond (kind == (4 : Int)) ?_ (fun e => by rw [c8] at e; cases e) (fun e => ?_)
          · kernel_rfl
          refine TS.seq ?_
          have hq : (True) ∧ ((True) ∧ (True)) := ⟨trivial, ⟨trivial, trivial⟩⟩
          refine TS.reg [] ?_ ?_
          · apply prop_of ?_ hq
            kernel_rfl
          refine XS.then ?_
          rcases bif_some h with ⟨c9, h⟩ | ⟨c10, h⟩
          · refine TS.cond (kind == (5 : Int)) ?_ (fun e => ?_) (fun e => by rw [c9] at e; cases e)
            · kernel_rfl
            refine TS.seq ?_
            have hq : ((True) ∧ ((True) ∧ ((True) ∧ ((True) ∧ ((True) ∧ (True)))))) ∧ ((True) ∧ ((True) ∧ (True))) := ⟨⟨trivial, ⟨trivial, ⟨trivial, ⟨trivial, ⟨trivial, trivial⟩⟩⟩⟩⟩, ⟨trivial, ⟨trivial, trivial⟩⟩⟩
            refine TS.reg [] ?_ ?_
            · apply prop_of ?_ hq
              kernel_rfl
            refine XS.then ?_
            refine TS.ret ?_
            refine XS.blockRet ?_
            refine XS.passR ?_
            obtain rfl : ((128 : Int), (6 : Int), (1 : Int), (1 : Int), (-1 : Int), true) = r := Option.some.inj h
            exact XS.fin [] ((True) ∧ ((True) ∧ (True))) (by kernel_rfl) ⟨trivial, ⟨trivial, trivial⟩⟩
          · refine TS.cond (kind == (5 : Int)) ?_ (fun e => by rw [c10] at e; cases e) (fun e => ?_)
            · kernel_rfl
            refine TS.seq ?_
            have hq : (True) ∧ ((True) ∧ (True)) := ⟨trivial, ⟨trivial, trivial⟩⟩
            refine TS.reg [] ?_ ?_
            · apply prop_of ?_ hq
              kernel_rfl
            refine XS.then ?_
            rcases bif_some h with ⟨c11, h⟩ | ⟨c12, h⟩
            · refine TS.cond (kind == (6 : Int)) ?_ (fun e => ?_) (fun e => by rw [c11] at e; cases e)
              · kernel_rfl
              refine TS.seq ?_
              have hq : ((True) ∧ ((True) ∧ ((True) ∧ ((True) ∧ ((True) ∧ (True)))))) ∧ ((True) ∧ ((True) ∧ (True))) := ⟨⟨trivial, ⟨trivial, ⟨trivial, ⟨trivial, ⟨trivial, trivial⟩⟩⟩⟩⟩, ⟨trivial, ⟨trivial, trivial⟩⟩⟩
              refine TS.reg [] ?_ ?_
              · apply prop_of ?_ hq
                kernel_rfl
              refine XS.then ?_
              refine TS.ret ?_
              refine XS.blockRet ?_
              refine XS.passR ?_
              obtain rfl : ((0 : Int), (9 : Int), (2 : Int), (0 : Int), (0 : Int), true) = r := Option.some.inj h
              exact XS.fin [] ((True) ∧ ((True) ∧ (True))) (by kernel_rfl) ⟨trivial, ⟨trivial, trivial⟩⟩
            · refine TS.cond (kind == (6 : Int)) ?_ (fun e => by rw [c12] at e; cases e) (fun e => ?_)
              · kernel_rfl
              refine TS.seq ?_
              have hq : (True) ∧ ((True) ∧ (True)) := ⟨trivial, ⟨trivial, trivial⟩⟩
              refine TS.reg [] ?_ ?_
              · apply prop_of ?_ hq
                kernel_rfl
              refine XS.then ?_
              rcases bif_some h with ⟨c13, h⟩ | ⟨c14, h⟩
              · refine TS.cond (kind == (7 : Int)) ?_ (fun e => ?_) (fun e => by rw [c13] at e; cases e)
                · kernel_rfl
                refine TS.seq ?_
                have hq : ((True) ∧ ((True) ∧ ((True) ∧ ((True) ∧ ((True) ∧ (True)))))) ∧ ((True) ∧ ((True) ∧ (True))) := ⟨⟨trivial, ⟨trivial, ⟨trivial, ⟨trivial, ⟨trivial, trivial⟩⟩⟩⟩⟩, ⟨trivial, ⟨trivial, trivial⟩⟩⟩
                refine TS.reg [] ?_ ?_
                · apply prop_of ?_ hq
                  kernel_rfl
                refine XS.then ?_
                refine TS.ret ?_
                refine XS.blockRet ?_
                refine XS.passR ?_
                obtain rfl : ((128 : Int), (8 : Int), (0 : Int), (0 : Int), (1 : Int), true) = r := Option.some.inj h
                exact XS.fin [] ((True) ∧ ((True) ∧ (True))) (by kernel_rfl) ⟨trivial, ⟨trivial, trivial⟩⟩
              · refine TS.cond (kind == (7 : Int)) ?_ (fun e => by rw [c14] at e; cases e) (fun e => ?_)
                · kernel_rfl
                refine TS.seq ?_
                have hq : (True) ∧ ((True) ∧ (True)) := ⟨trivial, ⟨trivial, trivial⟩⟩
                refine TS.reg [] ?_ ?_
                · apply prop_of ?_ hq
                  kernel_rfl
                refine XS.then ?_
                rcases bif_some h with ⟨c15, h⟩ | ⟨c16, h⟩
                · refine TS.cond (kind == (8 : Int)) ?_ (fun e => ?_) (fun e => by rw [c15] at e; cases e)
                  · kernel_rfl
                  refine TS.seq ?_
                  have hq : ((True) ∧ ((True) ∧ ((True) ∧ ((True) ∧ ((True) ∧ (True)))))) ∧ ((True) ∧ ((True) ∧ (True))) := ⟨⟨trivial, ⟨trivial, ⟨trivial, ⟨trivial, ⟨trivial, trivial⟩⟩⟩⟩⟩, ⟨trivial, ⟨trivial, trivial⟩⟩⟩
                  refine TS.reg [] ?_ ?_
                  · apply prop_of ?_ hq
                    kernel_rfl
                  refine XS.then ?_
                  refine TS.ret ?_
                  refine XS.blockRet ?_
                  refine XS.passR ?_
                  obtain rfl : ((163 : Int), (0 : Int), (0 : Int), (5 : Int), (4 : Int), true) = r := Option.some.inj h
                  exact XS.fin [] ((True) ∧ ((True) ∧ (True))) (by kernel_rfl) ⟨trivial, ⟨trivial, trivial⟩⟩
                · refine TS.cond (kind == (8 : Int)) ?_ (fun e => by rw [c16] at e; cases e) (fun e => ?_)
                  · kernel_rfl
                  refine TS.seq ?_
                  have hq : (True) ∧ ((True) ∧ (True)) := ⟨trivial, ⟨trivial, trivial⟩⟩
                  refine TS.reg [] ?_ ?_
                  · apply prop_of ?_ hq
                    kernel_rfl
                  refine XS.then ?_
                  rcases bif_some h with ⟨c17, h⟩ | ⟨c18, h⟩
                  · refine TS.cond (kind == (9 : Int)) ?_ (fun e => ?_) (fun e => by rw [c17] at e; cases e)
                    · kernel_rfl
                    refine TS.seq ?_
                    have hq : ((True) ∧ ((True) ∧ ((True) ∧ ((True) ∧ ((True) ∧ (True)))))) ∧ ((True) ∧ ((True) ∧ (True))) := ⟨⟨trivial, ⟨trivial, ⟨trivial, ⟨trivial, ⟨trivial, trivial⟩⟩⟩⟩⟩, ⟨trivial, ⟨trivial, trivial⟩⟩⟩
                    refine TS.reg [] ?_ ?_
                    · apply prop_of ?_ hq
                      kernel_rfl
                    refine XS.then ?_
                    refine TS.ret ?_
                    refine XS.blockRet ?_
                    refine XS.passR ?_
                    obtain rfl : ((35 : Int), (3 : Int), (6 : Int), (5 : Int), (0 : Int), true) = r := Option.some.inj h
                    exact XS.fin [] ((True) ∧ ((True) ∧ (True))) (by kernel_rfl) ⟨trivial, ⟨trivial, trivial⟩⟩
                  · refine TS.cond (kind == (9 : Int)) ?_ (fun e => by rw [c18] at e; cases e) (fun e => ?_)
                    · kernel_rfl
                    refine TS.seq ?_
                    have hq : (True) ∧ ((True) ∧ (True)) := ⟨trivial, ⟨trivial, trivial⟩⟩
                    refine TS.reg [] ?_ ?_
                    · apply prop_of ?_ hq
                      kernel_rfl
                    refine XS.then ?_
                    rcases bif_some h with ⟨c19, h⟩ | ⟨c20, h⟩
                    · refine TS.cond (kind == (10 : Int)) ?_ (fun e => ?_) (fun e => by rw [c19] at e; cases e)
                      · kernel_rfl
                      refine TS.seq ?_
                      have hq : ((True) ∧ ((True) ∧ ((True) ∧ ((True) ∧ ((True) ∧ (True)))))) ∧ ((True) ∧ ((True) ∧ (True))) := ⟨⟨trivial, ⟨trivial, ⟨trivial, ⟨trivial, ⟨trivial, trivial⟩⟩⟩⟩⟩, ⟨trivial, ⟨trivial, trivial⟩⟩⟩
                      refine TS.reg [] ?_ ?_
                      · apply prop_of ?_ hq
                        kernel_rfl
                      refine XS.then ?_
                      refine TS.ret ?_
                      refine XS.blockRet ?_
                      refine XS.passR ?_
                      obtain rfl : ((35 : Int), (1 : Int), (6 : Int), (5 : Int), (0 : Int), true) = r := Option.some.inj h
                      exact XS.fin [] ((True) ∧ ((True) ∧ (True))) (by kernel_rfl) ⟨trivial, ⟨trivial, trivial⟩⟩
                    · refine TS.cond (kind == (10 : Int)) ?_ (fun e => by rw [c20] at e; cases e) (fun e => ?_)
                      · kernel_rfl
                      refine TS.seq ?_
                      have hq : (True) ∧ ((True) ∧ (True)) := ⟨trivial, ⟨trivial, trivial⟩⟩
                      refine TS.reg [] ?_ ?_
                      · apply prop_of ?_ hq
                        kernel_rfl
                      refine XS.then ?_
                      rcases bif_some h with ⟨c21, h⟩ | ⟨c22, h⟩
                      · refine TS.cond (kind == (11 : Int)) ?_ (fun e => ?_) (fun e => by rw [c21] at e; cases e)
                        · kernel_rfl
                        refine TS.seq ?_
                        have hq : ((True) ∧ ((True) ∧ ((True) ∧ ((True) ∧ ((True) ∧ (True)))))) ∧ ((True) ∧ ((True) ∧ (True))) := ⟨⟨trivial, ⟨trivial, ⟨trivial, ⟨trivial, ⟨trivial, trivial⟩⟩⟩⟩⟩, ⟨trivial, ⟨trivial, trivial⟩⟩⟩
                        refine TS.reg [] ?_ ?_
                        · apply prop_of ?_ hq
                          kernel_rfl
                        refine XS.then ?_
                        refine TS.ret ?_
                        refine XS.blockRet ?_
                        refine XS.passR ?_
                        obtain rfl : ((33 : Int), (255 : Int), (0 : Int), (2 : Int), (0 : Int), true) = r := Option.some.inj h
                        exact XS.fin [] ((True) ∧ ((True) ∧ (True))) (by kernel_rfl) ⟨trivial, ⟨trivial, trivial⟩⟩
                      · refine TS.cond (kind == (11 : Int)) ?_ (fun e => by rw [c22] at e; cases e) (fun e => ?_)
                        · kernel_rfl
                        refine TS.seq ?_
                        have hq : (True) ∧ ((True) ∧ (True)) := ⟨trivial, ⟨trivial, trivial⟩⟩
                        refine TS.reg [] ?_ ?_
                        · apply prop_of ?_ hq
                          kernel_rfl
                        refine XS.then ?_
                        rcases bif_some h with ⟨c23, h⟩ | ⟨c24, h⟩
                        · refine TS.cond (kind == (12 : Int)) ?_ (fun e => ?_) (fun e => by rw [c23] at e; cases e)
                          · kernel_rfl
                          refine TS.seq ?_
                          have hq : ((True) ∧ ((True) ∧ ((True) ∧ ((True) ∧ ((True) ∧ (True)))))) ∧ ((True) ∧ ((True) ∧ (True))) := ⟨⟨trivial, ⟨trivial, ⟨trivial, ⟨trivial, ⟨trivial, trivial⟩⟩⟩⟩⟩, ⟨trivial, ⟨trivial, trivial⟩⟩⟩
                          refine TS.reg [] ?_ ?_
                          · apply prop_of ?_ hq
                            kernel_rfl
                          refine XS.then ?_
                          refine TS.ret ?_
                          refine XS.blockRet ?_
                          refine XS.passR ?_
                          obtain rfl : ((161 : Int), (254 : Int), (0 : Int), (2 : Int), (1 : Int), true) = r := Option.some.inj h
                          exact XS.fin [] ((True) ∧ ((True) ∧ (True))) (by kernel_rfl) ⟨trivial, ⟨trivial, trivial⟩⟩
                        · refine TS.cond (kind == (12 : Int)) ?_ (fun e => by rw [c24] at e; cases e) (fun e => ?_)
                          · kernel_rfl
                          refine TS.seq ?_
                          have hq : (True) ∧ ((True) ∧ (True)) := ⟨trivial, ⟨trivial, trivial⟩⟩
                          refine TS.reg [] ?_ ?_
                          · apply prop_of ?_ hq
                            kernel_rfl
                          refine XS.then ?_
                          rcases bif_some h with ⟨c25, h⟩ | ⟨c26, h⟩
                          · refine TS.cond (kind == (13 : Int)) ?_ (fun e => ?_) (fun e => by rw [c25] at e; cases e)
                            · kernel_rfl
                            refine TS.seq ?_
                            have hq : ((True) ∧ ((True) ∧ ((True) ∧ ((True) ∧ ((True) ∧ (True)))))) ∧ ((True) ∧ ((True) ∧ (True))) := ⟨⟨trivial, ⟨trivial, ⟨trivial, ⟨trivial, ⟨trivial, trivial⟩⟩⟩⟩⟩, ⟨trivial, ⟨trivial, trivial⟩⟩⟩
                            refine TS.reg [] ?_ ?_
                            · apply prop_of ?_ hq
                              kernel_rfl
                            refine XS.then ?_
                            refine TS.ret ?_
                            refine XS.blockRet ?_
                            refine XS.passR ?_
                            obtain rfl : ((33 : Int), (10 : Int), (1 : Int), (2 : Int), (0 : Int), true) = r := Option.some.inj h
                            exact XS.fin [] ((True) ∧ ((True) ∧ (True))) (by kernel_rfl) ⟨trivial, ⟨trivial, trivial⟩⟩
                          · refine TS.cond (kind == (13 : Int)) ?_ (fun e => by rw [c26] at e; cases e) (fun e => ?_)
                            · kernel_rfl
                            refine TS.seq ?_
                            have hq : (True) ∧ ((True) ∧ (True)) := ⟨trivial, ⟨trivial, trivial⟩⟩
                            refine TS.reg [] ?_ ?_
                            · apply prop_of ?_ hq
                              kernel_rfl
                            refine XS.then ?_
                            rcases bif_some h with ⟨c27, h⟩ | ⟨c28, h⟩
                            · refine TS.cond (kind == (14 : Int)) ?_ (fun e => ?_) (fun e => by rw [c27] at e; cases e)
                              · kernel_rfl
                              refine TS.seq ?_
                              have hq : ((True) ∧ ((True) ∧ ((True) ∧ ((True) ∧ ((True) ∧ (True)))))) ∧ ((True) ∧ ((True) ∧ (True))) := ⟨⟨trivial, ⟨trivial, ⟨trivial, ⟨trivial, ⟨trivial, trivial⟩⟩⟩⟩⟩, ⟨trivial, ⟨trivial, trivial⟩⟩⟩
                              refine TS.reg [] ?_ ?_
                              · apply prop_of ?_ hq
                                kernel_rfl
                              refine XS.then ?_
                              refine TS.ret ?_
                              refine XS.blockRet ?_
                              refine XS.passR ?_
                              obtain rfl : ((33 : Int), (9 : Int), (7 : Int), (2 : Int), (1 : Int), true) = r := Option.some.inj h
                              exact XS.fin [] ((True) ∧ ((True) ∧ (True))) (by kernel_rfl) ⟨trivial, ⟨trivial, trivial⟩⟩
                            · refine TS.cond (kind == (14 : Int)) ?_ (fun e => by rw [c28] at e; cases e) (fun e => ?_)
                              · kernel_rfl
                              refine TS.skip ?_
                              refine XS.blockEnd ?_
                              refine XS.then ?_
                              refine TS.seq ?_
                              have hq : (True) ∧ ((True) ∧ ((True) ∧ (True))) := ⟨trivial, ⟨trivial, ⟨trivial, trivial⟩⟩⟩
                              refine TS.reg [] ?_ ?_
                              · apply prop_of ?_ hq
                                kernel_rfl
                              refine XS.then ?_
                              refine TS.ret ?_
                              obtain rfl : ((0 : Int), (0 : Int), (0 : Int), (0 : Int), (0 : Int), false) = r := Option.some.inj h
                              exact XS.fin [] ((True) ∧ ((True) ∧ (True))) (by kernel_rfl) ⟨trivial, ⟨trivial, trivial⟩⟩

/-! plugtree/setup.can$1 -/
def F172 (n : Nat) (low : Int) (high : Int) (x : Int) : Option Bool := (bif (decide (x ≥ low)) then (some (decide (x ≤ high))) else (some false))
theorem F172_ok (n : Nat) (low : Int) (high : Int) (x : Int) (r : Bool) (h : F172 n low high x = some r) : PureC Try.prog 172 [(.int .i64 low), (.int .i64 high), (.pv (.int .i64 x))] (.bool r) [] := by
  refine PureC.mkS Try.func172 rfl rfl ?_
  intro w0 fz0 hfz
  replace h : (bif (decide (x ≥ low)) then (some (decide (x ≤ high))) else (some false)) = some r := h
  refine TS.seq ?_
  have hq : (True) ∧ (True) := ⟨trivial, trivial⟩
  refine TS.reg [] ?_ ?_
  · apply prop_of ?_ hq
    kernel_rfl
  refine XS.then ?_
  refine TS.seq ?_
  rcases bif_some h with ⟨c1, h⟩ | ⟨c2, h⟩
  · have hq : (True) ∧ ((True) ∧ ((True) ∧ (((True) ∧ (decide (x ≥ low)) = true) ∧ ((True) ∧ ((True) ∧ ((True) ∧ ((True) ∧ ((True) ∧ (True))))))))) := ⟨trivial, ⟨trivial, ⟨trivial, ⟨⟨trivial, c1⟩, ⟨trivial, ⟨trivial, ⟨trivial, ⟨trivial, ⟨trivial, trivial⟩⟩⟩⟩⟩⟩⟩⟩⟩
    refine TS.reg [.none, .none, .none, .dec true] ?_ ?_
    · apply prop_of ?_ hq
      kernel_rfl
    refine XS.then ?_
    refine TS.ret ?_
    obtain rfl : (decide (x ≤ high)) = r := Option.some.inj h
    exact XS.fin [] ((True) ∧ (True)) (by kernel_rfl) ⟨trivial, trivial⟩
  · have hq : (True) ∧ ((True) ∧ ((True) ∧ (((True) ∧ (decide (x ≥ low)) = false) ∧ ((True) ∧ ((True) ∧ (True)))))) := ⟨trivial, ⟨trivial, ⟨trivial, ⟨⟨trivial, c2⟩, ⟨trivial, ⟨trivial, trivial⟩⟩⟩⟩⟩⟩
    refine TS.reg [.none, .none, .none, .dec false] ?_ ?_
    · apply prop_of ?_ hq
      kernel_rfl
    refine XS.then ?_
    refine TS.ret ?_
    obtain rfl : false = r := Option.some.inj h
    exact XS.fin [] ((True) ∧ (True)) (by kernel_rfl) ⟨trivial, trivial⟩

/-! plugtree/setup.can -/
def F132 (n : Nat) (what : Int) (vn : Int) : Option Bool := (bif (what == (1 : Int)) then ((F172 n (0 : Int) (65535 : Int) vn).bind fun y_2 => (some y_2)) else (bif (what == (2 : Int)) then ((F172 n (0 : Int) (255 : Int) vn).bind fun y_3 => (some y_3)) else (bif (what == (3 : Int)) then ((F172 n (0 : Int) (15 : Int) vn).bind fun y_4 => (bif y_4 then (some true) else ((F172 n (128 : Int) (143 : Int) vn).bind fun y_5 => (some y_5)))) else (bif (what == (4 : Int)) then ((F172 n (0 : Int) (127 : Int) vn).bind fun y_6 => (some y_6)) else (bif (what == (5 : Int)) then ((F172 n (1 : Int) (15 : Int) vn).bind fun y_7 => (some y_7)) else (bif (what == (6 : Int)) then ((F172 n (0 : Int) (31 : Int) vn).bind fun y_8 => (some y_8)) else (bif (what == (7 : Int)) then (some (vn == (512 : Int))) else (some (vn == (0 : Int))))))))))
theorem F132_ok (n : Nat) (what : Int) (vn : Int) (r : Bool) (h : F132 n what vn = some r) : PureC Try.prog 132 [(.int .i64 what), (.int .i64 vn)] (.bool r) [] := by
  refine PureC.mkS Try.func132 rfl rfl ?_
  intro w0 fz0 hfz
  replace h : (bif (what == (1 : Int)) then ((F172 n (0 : Int) (65535 : Int) vn).bind fun y_2 => (some y_2)) else (bif (what == (2 : Int)) then ((F172 n (0 : Int) (255 : Int) vn).bind fun y_3 => (some y_3)) else (bif (what == (3 : Int)) then ((F172 n (0 : Int) (15 : Int) vn).bind fun y_4 => (bif y_4 then (some true) else ((F172 n (128 : Int) (143 : Int) vn).bind fun y_5 => (some y_5)))) else (bif (what == (4 : Int)) then ((F172 n (0 : Int) (127 : Int) vn).bind fun y_6 => (some y_6)) else (bif (what == (5 : Int)) then ((F172 n (1 : Int) (15 : Int) vn).bind fun y_7 => (some y_7)) else (bif (what == (6 : Int)) then ((F172 n (0 : Int) (31 : Int) vn).bind fun y_8 => (some y_8)) else (bif (what == (7 : Int)) then (some (vn == (512 : Int))) else (some (vn == (0 : Int)))))))))) = some r := h
  refine TS.seq ?_
  have hq : (True) ∧ ((True) ∧ (True)) := ⟨trivial, ⟨trivial, trivial⟩⟩
  refine TS.reg [] ?_ ?_
  · apply prop_of ?_ hq
    kernel_rfl
  refine XS.then ?_
  refine TS.seq ?_
  have hq : (True) ∧ ((True) ∧ (True)) := ⟨trivial, ⟨trivial, trivial⟩⟩
  refine TS.reg [] ?_ ?_
  · apply prop_of ?_ hq
    kernel_rfl
  refine XS.then ?_
  refine TS.seq ?_
  refine TS.seq ?_
  have hq : (True) ∧ (True) := ⟨trivial, trivial⟩
  refine TS.reg [] ?_ ?_
  · apply prop_of ?_ hq
    kernel_rfl
  refine XS.then ?_
  refine TS.block ?_
  refine TS.seq ?_
  have hq : (True) ∧ ((True) ∧ (True)) := ⟨trivial, ⟨trivial, trivial⟩⟩
  refine TS.reg [] ?_ ?_
  · apply prop_of ?_ hq
    kernel_rfl
  refine XS.then ?_
  rcases bif_some h with ⟨c1, h⟩ | ⟨c2, h⟩
  · refine TS.cond (what == (1 : Int)) ?_ (fun e => ?_) (fun e => by rw [c1] at e; cases e)
    · kernel_rfl
    refine TS.seq ?_
    obtain ⟨y_2, hx3, h⟩ := bind_some' h
    have hq : (True) ∧ ((((True) ∧ ((True) ∧ ((True) ∧ (True)))) ∧ PureC Try.prog 172 [(.int .i64 (0 : Int)), (.int .i64 (65535 : Int)), (.pv (.int .i64 vn))] (.bool y_2) []) ∧ ((True) ∧ (True))) := ⟨trivial, ⟨⟨⟨trivial, ⟨trivial, ⟨trivial, trivial⟩⟩⟩, F172_ok n (0 : Int) (65535 : Int) vn y_2 hx3⟩, ⟨trivial, trivial⟩⟩⟩
    refine TS.reg [.none, (.call (.bool y_2) [])] ?_ ?_
    · apply prop_of ?_ hq
      kernel_rfl
    refine XS.then ?_
    refine TS.ret ?_
    refine XS.blockRet ?_
    refine XS.passR ?_
    obtain rfl : y_2 = r := Option.some.inj h
    exact XS.fin [] ((True) ∧ (True)) (by kernel_rfl) ⟨trivial, trivial⟩
  · refine TS.cond (what == (1 : Int)) ?_ (fun e => by rw [c2] at e; cases e) (fun e => ?_)
    · kernel_rfl
    refine TS.seq ?_
    have hq : (True) ∧ ((True) ∧ (True)) := ⟨trivial, ⟨trivial, trivial⟩⟩
    refine TS.reg [] ?_ ?_
    · apply prop_of ?_ hq
      kernel_rfl
    refine XS.then ?_
    rcases bif_some h with ⟨c4, h⟩ | ⟨c5, h⟩
    · refine TS.cond (what == (2 : Int)) ?_ (fun e => ?_) (fun e => by rw [c4] at e; cases e)
      · kernel_rfl
      refine TS.seq ?_
      obtain ⟨y_3, hx6, h⟩ := bind_some' h
      have hq : (True) ∧ ((((True) ∧ ((True) ∧ ((True) ∧ (True)))) ∧ PureC Try.prog 172 [(.int .i64 (0 : Int)), (.int .i64 (255 : Int)), (.pv (.int .i64 vn))] (.bool y_3) []) ∧ ((True) ∧ (True))) := ⟨trivial, ⟨⟨⟨trivial, ⟨trivial, ⟨trivial, trivial⟩⟩⟩, F172_ok n (0 : Int) (255 : Int) vn y_3 hx6⟩, ⟨trivial, trivial⟩⟩⟩
      refine TS.reg [.none, (.call (.bool y_3) [])] ?_ ?_
      · apply prop_of ?_ hq
        kernel_rfl
      refine XS.then ?_
      refine TS.ret ?_
      refine XS.blockRet ?_
      refine XS.passR ?_
      obtain rfl : y_3 = r := Option.some.inj h
      exact XS.fin [] ((True) ∧ (True)) (by kernel_rfl) ⟨trivial, trivial⟩
    · refine TS.cond (what == (2 : Int)) ?_ (fun e => by rw [c5] at e; cases e) (fun e => ?_)
      · kernel_rfl
      refine TS.seq ?_
      have hq : (True) ∧ ((True) ∧ (True)) := ⟨trivial, ⟨trivial, trivial⟩⟩
      refine TS.reg [] ?_ ?_
      · apply prop_of ?_ hq
        kernel_rfl
      refine XS.then ?_
      rcases bif_some h with ⟨c7, h⟩ | ⟨c8, h⟩
      · refine TS.cond (what == (3 : Int)) ?_ (fun e => ?_) (fun e => by rw [c7] at e; cases e)
        · kernel_rfl
        refine TS.seq ?_
        obtain ⟨y_4, hx9, h⟩ := bind_some' h
        rcases bif_some h with ⟨c10, h⟩ | ⟨c11, h⟩
        · have hq : (True) ∧ ((((True) ∧ ((True) ∧ ((True) ∧ (True)))) ∧ PureC Try.prog 172 [(.int .i64 (0 : Int)), (.int .i64 (15 : Int)), (.pv (.int .i64 vn))] (.bool y_4) []) ∧ (((True) ∧ y_4 = true) ∧ ((True) ∧ ((True) ∧ (True))))) := ⟨trivial, ⟨⟨⟨trivial, ⟨trivial, ⟨trivial, trivial⟩⟩⟩, F172_ok n (0 : Int) (15 : Int) vn y_4 hx9⟩, ⟨⟨trivial, c10⟩, ⟨trivial, ⟨trivial, trivial⟩⟩⟩⟩⟩
          refine TS.reg [.none, (.call (.bool y_4) []), .dec true] ?_ ?_
          · apply prop_of ?_ hq
            kernel_rfl
          refine XS.then ?_
          refine TS.ret ?_
          refine XS.blockRet ?_
          refine XS.passR ?_
          obtain rfl : true = r := Option.some.inj h
          exact XS.fin [] ((True) ∧ (True)) (by kernel_rfl) ⟨trivial, trivial⟩
        · obtain ⟨y_5, hx12, h⟩ := bind_some' h
          have hq : (True) ∧ ((((True) ∧ ((True) ∧ ((True) ∧ (True)))) ∧ PureC Try.prog 172 [(.int .i64 (0 : Int)), (.int .i64 (15 : Int)), (.pv (.int .i64 vn))] (.bool y_4) []) ∧ (((True) ∧ y_4 = false) ∧ ((True) ∧ ((((True) ∧ ((True) ∧ ((True) ∧ (True)))) ∧ PureC Try.prog 172 [(.int .i64 (128 : Int)), (.int .i64 (143 : Int)), (.pv (.int .i64 vn))] (.bool y_5) []) ∧ ((True) ∧ ((True) ∧ (True))))))) := ⟨trivial, ⟨⟨⟨trivial, ⟨trivial, ⟨trivial, trivial⟩⟩⟩, F172_ok n (0 : Int) (15 : Int) vn y_4 hx9⟩, ⟨⟨trivial, c11⟩, ⟨trivial, ⟨⟨⟨trivial, ⟨trivial, ⟨trivial, trivial⟩⟩⟩, F172_ok n (128 : Int) (143 : Int) vn y_5 hx12⟩, ⟨trivial, ⟨trivial, trivial⟩⟩⟩⟩⟩⟩⟩
          refine TS.reg [.none, (.call (.bool y_4) []), .dec false, .none, (.call (.bool y_5) [])] ?_ ?_
          · apply prop_of ?_ hq
            kernel_rfl
          refine XS.then ?_
          refine TS.ret ?_
          refine XS.blockRet ?_
          refine XS.passR ?_
          obtain rfl : y_5 = r := Option.some.inj h
          exact XS.fin [] ((True) ∧ (True)) (by kernel_rfl) ⟨trivial, trivial⟩
      · refine TS.cond (what == (3 : Int)) ?_ (fun e => by rw [c8] at e; cases e) (fun e => ?_)
        · kernel_rfl
        refine TS.seq ?_
        have hq : (True) ∧ ((True) ∧ (True)) := ⟨trivial, ⟨trivial, trivial⟩⟩
        refine TS.reg [] ?_ ?_
        · apply prop_of ?_ hq
          kernel_rfl
        refine XS.then ?_
        rcases bif_some h with ⟨c13, h⟩ | ⟨c14, h⟩
        · refine TS.cond (what == (4 : Int)) ?_ (fun e => ?_) (fun e => by rw [c13] at e; cases e)
          · kernel_rfl
          refine TS.seq ?_
          obtain ⟨y_6, hx15, h⟩ := bind_some' h
          have hq : (True) ∧ ((((True) ∧ ((True) ∧ ((True) ∧ (True)))) ∧ PureC Try.prog 172 [(.int .i64 (0 : Int)), (.int .i64 (127 : Int)), (.pv (.int .i64 vn))] (.bool y_6) []) ∧ ((True) ∧ (True))) := ⟨trivial, ⟨⟨⟨trivial, ⟨trivial, ⟨trivial, trivial⟩⟩⟩, F172_ok n (0 : Int) (127 : Int) vn y_6 hx15⟩, ⟨trivial, trivial⟩⟩⟩
          refine TS.reg [.none, (.call (.bool y_6) [])] ?_ ?_
          · apply prop_of ?_ hq
            kernel_rfl
          refine XS.then ?_
          refine TS.ret ?_
          refine XS.blockRet ?_
          refine XS.passR ?_
          obtain rfl : y_6 = r := Option.some.inj h
          exact XS.fin [] ((True) ∧ (True)) (by kernel_rfl) ⟨trivial, trivial⟩
        · refine TS.cond (what == (4 : Int)) ?_ (fun e => by rw [c14] at e; cases e) (fun e => ?_)
          · kernel_rfl
          refine TS.seq ?_
          have hq : (True) ∧ ((True) ∧ (True)) := ⟨trivial, ⟨trivial, trivial⟩⟩
          refine TS.reg [] ?_ ?_
          · apply prop_of ?_ hq
            kernel_rfl
          refine XS.then ?_
          rcases bif_some h with ⟨c16, h⟩ | ⟨c17, h⟩
          · refine TS.cond (what == (5 : Int)) ?_ (fun e => ?_) (fun e => by rw [c16] at e; cases e)
            · kernel_rfl
            refine TS.seq ?_
            obtain ⟨y_7, hx18, h⟩ := bind_some' h
            have hq : (True) ∧ ((((True) ∧ ((True) ∧ ((True) ∧ (True)))) ∧ PureC Try.prog 172 [(.int .i64 (1 : Int)), (.int .i64 (15 : Int)), (.pv (.int .i64 vn))] (.bool y_7) []) ∧ ((True) ∧ (True))) := ⟨trivial, ⟨⟨⟨trivial, ⟨trivial, ⟨trivial, trivial⟩⟩⟩, F172_ok n (1 : Int) (15 : Int) vn y_7 hx18⟩, ⟨trivial, trivial⟩⟩⟩
            refine TS.reg [.none, (.call (.bool y_7) [])] ?_ ?_
            · apply prop_of ?_ hq
              kernel_rfl
            refine XS.then ?_
            refine TS.ret ?_
            refine XS.blockRet ?_
            refine XS.passR ?_
            obtain rfl : y_7 = r := Option.some.inj h
            exact XS.fin [] ((True) ∧ (True)) (by kernel_rfl) ⟨trivial, trivial⟩
          · refine TS.cond (what == (5 : Int)) ?_ (fun e => by rw [c17] at e; cases e) (fun e => ?_)
            · kernel_rfl
            refine TS.seq ?_
            have hq : (True) ∧ ((True) ∧ (True)) := ⟨trivial, ⟨trivial, trivial⟩⟩
            refine TS.reg [] ?_ ?_
            · apply prop_of ?_ hq
              kernel_rfl
            refine XS.then ?_
            rcases bif_some h with ⟨c19, h⟩ | ⟨c20, h⟩
            · refine TS.cond (what == (6 : Int)) ?_ (fun e => ?_) (fun e => by rw [c19] at e; cases e)
              · kernel_rfl
              refine TS.seq ?_
              obtain ⟨y_8, hx21, h⟩ := bind_some' h
              have hq : (True) ∧ ((((True) ∧ ((True) ∧ ((True) ∧ (True)))) ∧ PureC Try.prog 172 [(.int .i64 (0 : Int)), (.int .i64 (31 : Int)), (.pv (.int .i64 vn))] (.bool y_8) []) ∧ ((True) ∧ (True))) := ⟨trivial, ⟨⟨⟨trivial, ⟨trivial, ⟨trivial, trivial⟩⟩⟩, F172_ok n (0 : Int) (31 : Int) vn y_8 hx21⟩, ⟨trivial, trivial⟩⟩⟩
              refine TS.reg [.none, (.call (.bool y_8) [])] ?_ ?_
              · apply prop_of ?_ hq
                kernel_rfl
              refine XS.then ?_
              refine TS.ret ?_
              refine XS.blockRet ?_
              refine XS.passR ?_
              obtain rfl : y_8 = r := Option.some.inj h
              exact XS.fin [] ((True) ∧ (True)) (by kernel_rfl) ⟨trivial, trivial⟩
            · refine TS.cond (what == (6 : Int)) ?_ (fun e => by rw [c20] at e; cases e) (fun e => ?_)
              · kernel_rfl
              refine TS.seq ?_
              have hq : (True) ∧ ((True) ∧ (True)) := ⟨trivial, ⟨trivial, trivial⟩⟩
              refine TS.reg [] ?_ ?_
              · apply prop_of ?_ hq
                kernel_rfl
              refine XS.then ?_
              rcases bif_some h with ⟨c22, h⟩ | ⟨c23, h⟩
              · refine TS.cond (what == (7 : Int)) ?_ (fun e => ?_) (fun e => by rw [c22] at e; cases e)
                · kernel_rfl
                refine TS.seq ?_
                have hq : (True) ∧ ((True) ∧ ((True) ∧ (True))) := ⟨trivial, ⟨trivial, ⟨trivial, trivial⟩⟩⟩
                refine TS.reg [] ?_ ?_
                · apply prop_of ?_ hq
                  kernel_rfl
                refine XS.then ?_
                refine TS.ret ?_
                refine XS.blockRet ?_
                refine XS.passR ?_
                obtain rfl : (vn == (512 : Int)) = r := Option.some.inj h
                exact XS.fin [] ((True) ∧ (True)) (by kernel_rfl) ⟨trivial, trivial⟩
              · refine TS.cond (what == (7 : Int)) ?_ (fun e => by rw [c23] at e; cases e) (fun e => ?_)
                · kernel_rfl
                refine TS.skip ?_
                refine XS.blockEnd ?_
                refine XS.then ?_
                refine TS.seq ?_
                have hq : (True) ∧ ((True) ∧ ((True) ∧ (True))) := ⟨trivial, ⟨trivial, ⟨trivial, trivial⟩⟩⟩
                refine TS.reg [] ?_ ?_
                · apply prop_of ?_ hq
                  kernel_rfl
                refine XS.then ?_
                refine TS.ret ?_
                obtain rfl : (vn == (0 : Int)) = r := Option.some.inj h
                exact XS.fin [] ((True) ∧ (True)) (by kernel_rfl) ⟨trivial, trivial⟩

/-! plugtree/setup.Write -/
def F56_l6 (n : Nat) (a_Value : Int) (a_Index : Int) (a_Length : Int) (length : Bool) (k56_6 : (Int × (List Int)) → Option ((List UInt8) × Int)) : (Int × (List Int)) → Option ((List UInt8) × Int)
  | (x_2, m0) => (bif (decide (x_2 < (([a_Value, a_Index, a_Length].length : Nat) : Int))) then (bif inb x_2 ([a_Value, a_Index, a_Length].length) then (bif (decide (m0.length + ([(IntKind.wrap .u8 (([a_Value, a_Index, a_Length].getD x_2.toNat (0 : Int)))), (IntKind.wrap .u8 ((shrI .i64 ([a_Value, a_Index, a_Length].getD x_2.toNat (0 : Int)) (8 : Int))))]).length ≤ 17179869184)) then (k56_6 ((IntKind.wrap .i64 (x_2 + (1 : Int))), (m0 ++ [(IntKind.wrap .u8 (([a_Value, a_Index, a_Length].getD x_2.toNat (0 : Int)))), (IntKind.wrap .u8 ((shrI .i64 ([a_Value, a_Index, a_Length].getD x_2.toNat (0 : Int)) (8 : Int))))]))) else none) else none) else (some ((strOf m0), (0 : Int))))
def F56_j5 (n : Nat) (a_Value : Int) (a_Index : Int) (a_Length : Int) (y_3 : Int × Int × Int × Int × Int × Bool) (length : Bool) : Bool → Option ((List UInt8) × Int)
  | x => (bif x then (some (([] : List UInt8), (1 : Int))) else (loopF (F56_l6 n a_Value a_Index a_Length length) n ((0 : Int), [y_3.1, y_3.2.1])))
def F56_j4 (n : Nat) (a_Value : Int) (a_Index : Int) (a_Length : Int) (y_3 : Int × Int × Int × Int × Int × Bool) : Bool → Option ((List UInt8) × Int)
  | length => (bif (!y_3.2.2.2.2.2) then (F56_j5 n a_Value a_Index a_Length y_3 length true) else ((F132 n y_3.2.2.1 a_Value).bind fun y_4 => (bif (!y_4) then (F56_j5 n a_Value a_Index a_Length y_3 length true) else ((F132 n y_3.2.2.2.1 a_Index).bind fun y_5 => (bif (!y_5) then (F56_j5 n a_Value a_Index a_Length y_3 length true) else (F56_j5 n a_Value a_Index a_Length y_3 length (!length)))))))
def F56 (n : Nat) (a_Kind : Int) (a_Value : Int) (a_Index : Int) (a_Length : Int) : Option ((List UInt8) × Int) := ((F131 n a_Kind).bind fun y_3 => (bif (a_Length == y_3.2.2.2.2.1) then (F56_j4 n a_Value a_Index a_Length y_3 true) else (bif (decide (y_3.2.2.2.2.1 < (0 : Int))) then ((F132 n (1 : Int) a_Length).bind fun y_6 => (F56_j4 n a_Value a_Index a_Length y_3 y_6)) else (F56_j4 n a_Value a_Index a_Length y_3 false))))
theorem F56_ok (n : Nat) (a_Kind : Int) (a_Value : Int) (a_Index : Int) (a_Length : Int) (r : (List UInt8) × Int) (h : F56 n a_Kind a_Value a_Index a_Length = some r) : PureC Try.prog 56 [(.st (.cons (.int .i64 a_Kind) (.cons (.int .i64 a_Value) (.cons (.int .i64 a_Index) (.int .i64 a_Length)))))] (.tup (.cons (.str r.1) (.cons (.int .i64 r.2) .nil))) [] := by
  refine PureC.mkS Try.func56 rfl rfl ?_
  intro w0 fz0 hfz
  replace h : ((F131 n a_Kind).bind fun y_3 => (bif (a_Length == y_3.2.2.2.2.1) then (F56_j4 n a_Value a_Index a_Length y_3 true) else (bif (decide (y_3.2.2.2.2.1 < (0 : Int))) then ((F132 n (1 : Int) a_Length).bind fun y_6 => (F56_j4 n a_Value a_Index a_Length y_3 y_6)) else (F56_j4 n a_Value a_Index a_Length y_3 false)))) = some r := h
  refine TS.seq ?_
  have hq : (True) ∧ ((True) ∧ ((True) ∧ (True))) := ⟨trivial, ⟨trivial, ⟨trivial, trivial⟩⟩⟩
  refine TS.reg [] ?_ ?_
  · apply prop_of ?_ hq
    kernel_rfl
  refine XS.then ?_
  refine TS.seq ?_
  obtain ⟨y_3, hx1, h⟩ := bind_some' h
  have hq : (True) ∧ ((True) ∧ ((PureC Try.prog 131 [(.int .i64 a_Kind)] (.tup (.cons (.st (.cons (.int .u8 y_3.1) (.cons (.int .u8 y_3.2.1) (.cons (.int .i64 y_3.2.2.1) (.cons (.int .i64 y_3.2.2.2.1) (.int .i64 y_3.2.2.2.2.1)))))) (.cons (.bool y_3.2.2.2.2.2) .nil))) []) ∧ ((True) ∧ ((True) ∧ ((True) ∧ ((True) ∧ ((True) ∧ ((True) ∧ (True))))))))) := ⟨trivial, ⟨trivial, ⟨F131_ok n a_Kind y_3 hx1, ⟨trivial, ⟨trivial, ⟨trivial, ⟨trivial, ⟨trivial, ⟨trivial, trivial⟩⟩⟩⟩⟩⟩⟩⟩⟩
  refine TS.reg [.none, .none, (.call (.tup (.cons (.st (.cons (.int .u8 y_3.1) (.cons (.int .u8 y_3.2.1) (.cons (.int .i64 y_3.2.2.1) (.cons (.int .i64 y_3.2.2.2.1) (.int .i64 y_3.2.2.2.2.1)))))) (.cons (.bool y_3.2.2.2.2.2) .nil))) [])] ?_ ?_
  · apply prop_of ?_ hq
    kernel_rfl
  refine XS.then ?_
  refine TS.seq ?_
  refine TS.cut (D := Bool) (fun d => match d with | length => (mkTs 81 [(1, (.ptr 0 [])), (4, (.ptr 1 [])), (5, (.bool y_3.2.2.2.2.2)), (6, (.bool length))], [(.box 101 (.st (.cons (.int .i64 a_Kind) (.cons (.int .i64 a_Value) (.cons (.int .i64 a_Index) (.int .i64 a_Length)))))), (.box 179 (.st (.cons (.int .u8 y_3.1) (.cons (.int .u8 y_3.2.1) (.cons (.int .i64 y_3.2.2.1) (.cons (.int .i64 y_3.2.2.2.1) (.int .i64 y_3.2.2.2.2.1)))))))])) (fun d => F56_j4 n a_Value a_Index a_Length y_3 d = some r) ?_ ?_
  · rintro length h
    replace h : (bif (!y_3.2.2.2.2.2) then (F56_j5 n a_Value a_Index a_Length y_3 length true) else ((F132 n y_3.2.2.1 a_Value).bind fun y_4 => (bif (!y_4) then (F56_j5 n a_Value a_Index a_Length y_3 length true) else ((F132 n y_3.2.2.2.1 a_Index).bind fun y_5 => (bif (!y_5) then (F56_j5 n a_Value a_Index a_Length y_3 length true) else (F56_j5 n a_Value a_Index a_Length y_3 length (!length))))))) = some r := h
    refine XS.then ?_
    refine TS.seq ?_
    refine TS.seq ?_
    refine TS.cut (D := Bool) (fun d => match d with | x => (mkTs 81 [(1, (.ptr 0 [])), (4, (.ptr 1 [])), (52, (.bool x))], [(.box 101 (.st (.cons (.int .i64 a_Kind) (.cons (.int .i64 a_Value) (.cons (.int .i64 a_Index) (.int .i64 a_Length)))))), (.box 179 (.st (.cons (.int .u8 y_3.1) (.cons (.int .u8 y_3.2.1) (.cons (.int .i64 y_3.2.2.1) (.cons (.int .i64 y_3.2.2.2.1) (.int .i64 y_3.2.2.2.2.1)))))))])) (fun d => F56_j5 n a_Value a_Index a_Length y_3 length d = some r) ?_ ?_
    · rintro x h
      replace h : (bif x then (some (([] : List UInt8), (1 : Int))) else (loopF (F56_l6 n a_Value a_Index a_Length length) n ((0 : Int), [y_3.1, y_3.2.1]))) = some r := h
      refine XS.then ?_
      rcases bif_some h with ⟨c2, h⟩ | ⟨c3, h⟩
      · refine TS.cond x ?_ (fun e => ?_) (fun e => by rw [c2] at e; cases e)
        · kernel_rfl
        refine TS.seq ?_
        have hq : (True) ∧ ((True) ∧ (True)) := ⟨trivial, ⟨trivial, trivial⟩⟩
        refine TS.reg [] ?_ ?_
        · apply prop_of ?_ hq
          kernel_rfl
        refine XS.then ?_
        refine TS.ret ?_
        refine XS.passR ?_
        obtain rfl : (([] : List UInt8), (1 : Int)) = r := Option.some.inj h
        exact XS.fin [] ((True) ∧ ((True) ∧ (True))) (by kernel_rfl) ⟨trivial, ⟨trivial, trivial⟩⟩
      · refine TS.cond x ?_ (fun e => by rw [c3] at e; cases e) (fun e => ?_)
        · kernel_rfl
        refine TS.skip ?_
        refine XS.then ?_
        refine TS.seq ?_
        have hq : (True) ∧ ((True) ∧ ((True) ∧ ((True) ∧ (((0 < 2 ∧ True) ∧ ((1 < 2 ∧ True) ∧ (True))) ∧ ((True) ∧ (True)))))) := ⟨trivial, ⟨trivial, ⟨trivial, ⟨trivial, ⟨⟨⟨by decide, trivial⟩, ⟨⟨by decide, trivial⟩, trivial⟩⟩, ⟨trivial, trivial⟩⟩⟩⟩⟩⟩
        refine TS.reg [] ?_ ?_
        · apply prop_of ?_ hq
          kernel_rfl
        refine XS.then ?_
        refine TS.seq ?_
        refine TS.seq ?_
        have hq : (True) ∧ ((True) ∧ ((True) ∧ ((True) ∧ ((True) ∧ ((True) ∧ (((0 < 3 ∧ True) ∧ ((1 < 3 ∧ True) ∧ ((2 < 3 ∧ True) ∧ (True)))) ∧ ((True) ∧ ((True) ∧ (True))))))))) := ⟨trivial, ⟨trivial, ⟨trivial, ⟨trivial, ⟨trivial, ⟨trivial, ⟨⟨⟨by decide, trivial⟩, ⟨⟨by decide, trivial⟩, ⟨⟨by decide, trivial⟩, trivial⟩⟩⟩, ⟨trivial, ⟨trivial, trivial⟩⟩⟩⟩⟩⟩⟩⟩⟩
        refine TS.reg [] ?_ ?_
        · apply prop_of ?_ hq
          kernel_rfl
        refine XS.then ?_
        refine TS.block ?_
        refine TS.reLoop [2, 3] (mkMask 81 [7, 64, 65, 66]) (D := Int × (List Int)) (fun d => match d with | (x_2, m0) => (mkTs 81 [(7, (.row 0)), (64, (.row 1)), (65, (.int .i64 (([a_Value, a_Index, a_Length].length : Nat) : Int))), (66, (.int .i64 x_2))], [(.row 5 (.int .u8) m0), (.row 3 (.int .i64) [a_Value, a_Index, a_Length])])) (fun n' d => loopF (F56_l6 n a_Value a_Index a_Length length) n' d = some r) n ((0 : Int), [y_3.1, y_3.2.1]) h ?_ (fun d => loopF_zero _ d r) ?_
        · kernel_rfl
        · rintro n6 ⟨x_2, m0⟩ h
          replace h : (bif (decide (x_2 < (([a_Value, a_Index, a_Length].length : Nat) : Int))) then (bif inb x_2 ([a_Value, a_Index, a_Length].length) then (bif (decide (m0.length + ([(IntKind.wrap .u8 (([a_Value, a_Index, a_Length].getD x_2.toNat (0 : Int)))), (IntKind.wrap .u8 ((shrI .i64 ([a_Value, a_Index, a_Length].getD x_2.toNat (0 : Int)) (8 : Int))))]).length ≤ 17179869184)) then ((loopF (F56_l6 n a_Value a_Index a_Length length) n6) ((IntKind.wrap .i64 (x_2 + (1 : Int))), (m0 ++ [(IntKind.wrap .u8 (([a_Value, a_Index, a_Length].getD x_2.toNat (0 : Int)))), (IntKind.wrap .u8 ((shrI .i64 ([a_Value, a_Index, a_Length].getD x_2.toNat (0 : Int)) (8 : Int))))]))) else none) else none) else (some ((strOf m0), (0 : Int)))) = some r := h
          refine TS.seq ?_
          have hq : (True) ∧ (True) := ⟨trivial, trivial⟩
          refine TS.reg [] ?_ ?_
          · apply prop_of ?_ hq
            kernel_rfl
          refine XS.then ?_
          refine TS.seq ?_
          rcases bif_some h with ⟨c4, h⟩ | ⟨c5, h⟩
          · refine TS.cond (decide (x_2 < (([a_Value, a_Index, a_Length].length : Nat) : Int))) ?_ (fun e => ?_) (fun e => by rw [c4] at e; cases e)
            · kernel_rfl
            refine TS.skip ?_
            refine XS.then ?_
            refine TS.seq ?_
            refine TS.block ?_
            refine TS.seq ?_
            obtain ⟨t6, h⟩ := test_some h
            have hq : (inR x_2 ([a_Value, a_Index, a_Length].length)) ∧ ((x_2.toNat < [a_Value, a_Index, a_Length].length ∧ (True)) ∧ ((True) ∧ (True))) := ⟨inb_ok t6, ⟨⟨inR_lt (inb_ok t6), trivial⟩, ⟨trivial, trivial⟩⟩⟩
            refine TS.reg [] ?_ ?_
            · apply prop_of ?_ hq
              kernel_rfl
            refine XS.then ?_
            obtain ⟨t7, h⟩ := test_some h
            have hq : (True) ∧ ((True) ∧ ((True) ∧ ((True) ∧ ((0 ≤ (8 : Int)) ∧ ((True) ∧ (((0 < 2 ∧ True) ∧ ((1 < 2 ∧ True) ∧ (True))) ∧ ((m0.length + ([(IntKind.wrap .u8 (([a_Value, a_Index, a_Length].getD x_2.toNat (0 : Int)))), (IntKind.wrap .u8 ((shrI .i64 ([a_Value, a_Index, a_Length].getD x_2.toNat (0 : Int)) (8 : Int))))]).length ≤ 17179869184) ∧ ((True) ∧ (True))))))))) := ⟨trivial, ⟨trivial, ⟨trivial, ⟨trivial, ⟨by decide, ⟨trivial, ⟨⟨⟨by decide, trivial⟩, ⟨⟨by decide, trivial⟩, trivial⟩⟩, ⟨of_decide_eq_true t7, ⟨trivial, trivial⟩⟩⟩⟩⟩⟩⟩⟩⟩
            refine TS.reg [] ?_ ?_
            · apply prop_of ?_ hq
              kernel_rfl
            refine XS.blockEnd ?_
            refine XS.then ?_
            have hq : (True) ∧ ((True) ∧ (True)) := ⟨trivial, ⟨trivial, trivial⟩⟩
            refine TS.reg [] ?_ ?_
            · apply prop_of ?_ hq
              kernel_rfl
            refine XS.reAny [3, 1] (mkMask 81 [7, 64, 65, 66]) ((IntKind.wrap .i64 (x_2 + (1 : Int))), (m0 ++ [(IntKind.wrap .u8 (([a_Value, a_Index, a_Length].getD x_2.toNat (0 : Int)))), (IntKind.wrap .u8 ((shrI .i64 ([a_Value, a_Index, a_Length].getD x_2.toNat (0 : Int)) (8 : Int))))])) h ?_
            kernel_rfl
          · refine TS.cond (decide (x_2 < (([a_Value, a_Index, a_Length].length : Nat) : Int))) ?_ (fun e => by rw [c5] at e; cases e) (fun e => ?_)
            · kernel_rfl
            refine TS.exit ?_
            refine XS.passE ?_
            refine XS.passE ?_
            refine XS.out ?_
            refine XS.then ?_
            refine TS.seq ?_
            have hq : (True) ∧ ((True) ∧ ((True) ∧ ((True) ∧ (True)))) := ⟨trivial, ⟨trivial, ⟨trivial, ⟨trivial, trivial⟩⟩⟩⟩
            refine TS.reg [] ?_ ?_
            · apply prop_of ?_ hq
              kernel_rfl
            refine XS.then ?_
            refine TS.ret ?_
            obtain rfl : ((strOf m0), (0 : Int)) = r := Option.some.inj h
            exact XS.fin [] ((True) ∧ ((True) ∧ (True))) (by kernel_rfl) ⟨trivial, ⟨trivial, trivial⟩⟩
    · rcases bif_some h with ⟨c8, h⟩ | ⟨c9, h⟩
      · have hq : (True) ∧ ((True) ∧ (((True) ∧ (!y_3.2.2.2.2.2) = true) ∧ ((True) ∧ ((True) ∧ ((True) ∧ ((True) ∧ ((True) ∧ (True)))))))) := ⟨trivial, ⟨trivial, ⟨⟨trivial, c8⟩, ⟨trivial, ⟨trivial, ⟨trivial, ⟨trivial, ⟨trivial, trivial⟩⟩⟩⟩⟩⟩⟩⟩
        refine TS.reg [.none, .none, .dec true] ?_ ?_
        · apply prop_of ?_ hq
          kernel_rfl
        refine XS.reAny [0, 1] (mkMask 81 [1, 4, 52]) true h ?_
        kernel_rfl
      · obtain ⟨y_4, hx10, h⟩ := bind_some' h
        rcases bif_some h with ⟨c11, h⟩ | ⟨c12, h⟩
        · have hq : (True) ∧ ((True) ∧ (((True) ∧ (!y_3.2.2.2.2.2) = false) ∧ ((True) ∧ ((True) ∧ ((True) ∧ ((True) ∧ ((PureC Try.prog 132 [(.int .i64 y_3.2.2.1), (.int .i64 a_Value)] (.bool y_4) []) ∧ ((True) ∧ ((True) ∧ (((True) ∧ (!y_4) = true) ∧ ((True) ∧ ((True) ∧ ((True) ∧ (True)))))))))))))) := ⟨trivial, ⟨trivial, ⟨⟨trivial, c9⟩, ⟨trivial, ⟨trivial, ⟨trivial, ⟨trivial, ⟨F132_ok n y_3.2.2.1 a_Value y_4 hx10, ⟨trivial, ⟨trivial, ⟨⟨trivial, c11⟩, ⟨trivial, ⟨trivial, ⟨trivial, trivial⟩⟩⟩⟩⟩⟩⟩⟩⟩⟩⟩⟩⟩⟩
          refine TS.reg [.none, .none, .dec false, .none, .none, .none, .none, (.call (.bool y_4) []), .none, .none, .dec true] ?_ ?_
          · apply prop_of ?_ hq
            kernel_rfl
          refine XS.reAny [0, 1] (mkMask 81 [1, 4, 52]) true h ?_
          kernel_rfl
        · obtain ⟨y_5, hx13, h⟩ := bind_some' h
          rcases bif_some h with ⟨c14, h⟩ | ⟨c15, h⟩
          · have hq : (True) ∧ ((True) ∧ (((True) ∧ (!y_3.2.2.2.2.2) = false) ∧ ((True) ∧ ((True) ∧ ((True) ∧ ((True) ∧ ((PureC Try.prog 132 [(.int .i64 y_3.2.2.1), (.int .i64 a_Value)] (.bool y_4) []) ∧ ((True) ∧ ((True) ∧ (((True) ∧ (!y_4) = false) ∧ ((True) ∧ ((True) ∧ ((True) ∧ ((True) ∧ ((PureC Try.prog 132 [(.int .i64 y_3.2.2.2.1), (.int .i64 a_Index)] (.bool y_5) []) ∧ ((True) ∧ ((True) ∧ (((True) ∧ (!y_5) = true) ∧ ((True) ∧ (True)))))))))))))))))))) := ⟨trivial, ⟨trivial, ⟨⟨trivial, c9⟩, ⟨trivial, ⟨trivial, ⟨trivial, ⟨trivial, ⟨F132_ok n y_3.2.2.1 a_Value y_4 hx10, ⟨trivial, ⟨trivial, ⟨⟨trivial, c12⟩, ⟨trivial, ⟨trivial, ⟨trivial, ⟨trivial, ⟨F132_ok n y_3.2.2.2.1 a_Index y_5 hx13, ⟨trivial, ⟨trivial, ⟨⟨trivial, c14⟩, ⟨trivial, trivial⟩⟩⟩⟩⟩⟩⟩⟩⟩⟩⟩⟩⟩⟩⟩⟩⟩⟩⟩⟩
            refine TS.reg [.none, .none, .dec false, .none, .none, .none, .none, (.call (.bool y_4) []), .none, .none, .dec false, .none, .none, .none, .none, (.call (.bool y_5) []), .none, .none, .dec true] ?_ ?_
            · apply prop_of ?_ hq
              kernel_rfl
            refine XS.reAny [0, 1] (mkMask 81 [1, 4, 52]) true h ?_
            kernel_rfl
          · have hq : (True) ∧ ((True) ∧ (((True) ∧ (!y_3.2.2.2.2.2) = false) ∧ ((True) ∧ ((True) ∧ ((True) ∧ ((True) ∧ ((PureC Try.prog 132 [(.int .i64 y_3.2.2.1), (.int .i64 a_Value)] (.bool y_4) []) ∧ ((True) ∧ ((True) ∧ (((True) ∧ (!y_4) = false) ∧ ((True) ∧ ((True) ∧ ((True) ∧ ((True) ∧ ((PureC Try.prog 132 [(.int .i64 y_3.2.2.2.1), (.int .i64 a_Index)] (.bool y_5) []) ∧ ((True) ∧ ((True) ∧ (((True) ∧ (!y_5) = false) ∧ ((True) ∧ ((True) ∧ ((True) ∧ (True)))))))))))))))))))))) := ⟨trivial, ⟨trivial, ⟨⟨trivial, c9⟩, ⟨trivial, ⟨trivial, ⟨trivial, ⟨trivial, ⟨F132_ok n y_3.2.2.1 a_Value y_4 hx10, ⟨trivial, ⟨trivial, ⟨⟨trivial, c12⟩, ⟨trivial, ⟨trivial, ⟨trivial, ⟨trivial, ⟨F132_ok n y_3.2.2.2.1 a_Index y_5 hx13, ⟨trivial, ⟨trivial, ⟨⟨trivial, c15⟩, ⟨trivial, ⟨trivial, ⟨trivial, trivial⟩⟩⟩⟩⟩⟩⟩⟩⟩⟩⟩⟩⟩⟩⟩⟩⟩⟩⟩⟩⟩⟩
            refine TS.reg [.none, .none, .dec false, .none, .none, .none, .none, (.call (.bool y_4) []), .none, .none, .dec false, .none, .none, .none, .none, (.call (.bool y_5) []), .none, .none, .dec false] ?_ ?_
            · apply prop_of ?_ hq
              kernel_rfl
            refine XS.reAny [0, 1] (mkMask 81 [1, 4, 52]) (!length) h ?_
            kernel_rfl
  · rcases bif_some h with ⟨c16, h⟩ | ⟨c17, h⟩
    · have hq : (True) ∧ ((True) ∧ ((True) ∧ ((True) ∧ ((True) ∧ (((True) ∧ (a_Length == y_3.2.2.2.2.1) = true) ∧ ((True) ∧ ((True) ∧ (True)))))))) := ⟨trivial, ⟨trivial, ⟨trivial, ⟨trivial, ⟨trivial, ⟨⟨trivial, c16⟩, ⟨trivial, ⟨trivial, trivial⟩⟩⟩⟩⟩⟩⟩⟩
      refine TS.reg [.none, .none, .none, .none, .none, .dec true] ?_ ?_
      · apply prop_of ?_ hq
        kernel_rfl
      refine XS.reAny [0, 1] (mkMask 81 [1, 4, 5, 6]) true h ?_
      kernel_rfl
    · rcases bif_some h with ⟨c18, h⟩ | ⟨c19, h⟩
      · obtain ⟨y_6, hx20, h⟩ := bind_some' h
        have hq : (True) ∧ ((True) ∧ ((True) ∧ ((True) ∧ ((True) ∧ (((True) ∧ (a_Length == y_3.2.2.2.2.1) = false) ∧ ((True) ∧ ((True) ∧ ((True) ∧ (((True) ∧ (decide (y_3.2.2.2.2.1 < (0 : Int))) = true) ∧ ((True) ∧ ((True) ∧ ((PureC Try.prog 132 [(.int .i64 (1 : Int)), (.int .i64 a_Length)] (.bool y_6) []) ∧ ((True) ∧ ((True) ∧ ((True) ∧ (True)))))))))))))))) := ⟨trivial, ⟨trivial, ⟨trivial, ⟨trivial, ⟨trivial, ⟨⟨trivial, c17⟩, ⟨trivial, ⟨trivial, ⟨trivial, ⟨⟨trivial, c18⟩, ⟨trivial, ⟨trivial, ⟨F132_ok n (1 : Int) a_Length y_6 hx20, ⟨trivial, ⟨trivial, ⟨trivial, trivial⟩⟩⟩⟩⟩⟩⟩⟩⟩⟩⟩⟩⟩⟩⟩⟩
        refine TS.reg [.none, .none, .none, .none, .none, .dec false, .none, .none, .none, .dec true, .none, .none, (.call (.bool y_6) [])] ?_ ?_
        · apply prop_of ?_ hq
          kernel_rfl
        refine XS.reAny [0, 1] (mkMask 81 [1, 4, 5, 6]) y_6 h ?_
        kernel_rfl
      · have hq : (True) ∧ ((True) ∧ ((True) ∧ ((True) ∧ ((True) ∧ (((True) ∧ (a_Length == y_3.2.2.2.2.1) = false) ∧ ((True) ∧ ((True) ∧ ((True) ∧ (((True) ∧ (decide (y_3.2.2.2.2.1 < (0 : Int))) = false) ∧ ((True) ∧ ((True) ∧ ((True) ∧ (True))))))))))))) := ⟨trivial, ⟨trivial, ⟨trivial, ⟨trivial, ⟨trivial, ⟨⟨trivial, c17⟩, ⟨trivial, ⟨trivial, ⟨trivial, ⟨⟨trivial, c19⟩, ⟨trivial, ⟨trivial, ⟨trivial, trivial⟩⟩⟩⟩⟩⟩⟩⟩⟩⟩⟩⟩⟩
        refine TS.reg [.none, .none, .none, .none, .none, .dec false, .none, .none, .none, .dec false] ?_ ?_
        · apply prop_of ?_ hq
          kernel_rfl
        refine XS.reAny [0, 1] (mkMask 81 [1, 4, 5, 6]) false h ?_
        kernel_rfl

/-! plugtree/greet.Next -/
def F16_j2 (n : Nat) : (Int × Int × Int) → Option ((List UInt8) × Int)
  | (m0, m0_2, m0_3) => ((F56 n m0 m0_2 (0 : Int) m0_3).bind fun y_4 => (some (y_4.1, y_4.2)))
def F16 (n : Nat) (g_Step : Int) (g_Tries : Int) (g_Addr : Int) (g_Max0 : Int) (g_Total : Int) (g_Device_Usb : Int) (g_Device_Class : Int) (g_Device_Sub : Int) (g_Device_Proto : Int) (g_Device_Max0 : Int) (g_Device_Vendor : Int) (g_Device_Product : Int) (g_Device_Release : Int) (g_Device_Maker : Int) (g_Device_Name : Int) (g_Device_Serial : Int) (g_Device_Configs : Int) (g_Config_Value : Int) (g_Config_Name : Int) (g_Config_Attr : Int) (g_Config_Power : Int) (g_Config_Faces : List (Int × Int × Int × Int × (List (List UInt8)) × List (Int × Bool × Int × Int × Int))) (g_Serial : List UInt8) (g_Err : Int) : Option ((List UInt8) × Int) := ((F55 n g_Step g_Tries g_Addr g_Max0 g_Total g_Device_Usb g_Device_Class g_Device_Sub g_Device_Proto g_Device_Max0 g_Device_Vendor g_Device_Product g_Device_Release g_Device_Maker g_Device_Name g_Device_Serial g_Device_Configs g_Config_Value g_Config_Name g_Config_Attr g_Config_Power g_Config_Faces g_Serial g_Err).bind fun y_3 => (bif (y_3 != (0 : Int)) then (some (([] : List UInt8), y_3)) else (bif (g_Step == (1 : Int)) then (F16_j2 n ((5 : Int), (256 : Int), (8 : Int))) else (bif (g_Step == (2 : Int)) then (F16_j2 n ((4 : Int), g_Addr, (0 : Int))) else (bif (g_Step == (3 : Int)) then (F16_j2 n ((5 : Int), (256 : Int), (18 : Int))) else (bif (g_Step == (4 : Int)) then (F16_j2 n ((5 : Int), (512 : Int), (9 : Int))) else (bif (g_Step == (5 : Int)) then (F16_j2 n ((5 : Int), (512 : Int), g_Total)) else (bif (g_Step == (6 : Int)) then (F16_j2 n ((5 : Int), (IntKind.wrap .i64 ((768 : Int) + g_Device_Serial)), (255 : Int))) else (F16_j2 n ((6 : Int), g_Config_Value, (0 : Int)))))))))))
theorem F16_ok (n : Nat) (g_Step : Int) (g_Tries : Int) (g_Addr : Int) (g_Max0 : Int) (g_Total : Int) (g_Device_Usb : Int) (g_Device_Class : Int) (g_Device_Sub : Int) (g_Device_Proto : Int) (g_Device_Max0 : Int) (g_Device_Vendor : Int) (g_Device_Product : Int) (g_Device_Release : Int) (g_Device_Maker : Int) (g_Device_Name : Int) (g_Device_Serial : Int) (g_Device_Configs : Int) (g_Config_Value : Int) (g_Config_Name : Int) (g_Config_Attr : Int) (g_Config_Power : Int) (g_Config_Faces : List (Int × Int × Int × Int × (List (List UInt8)) × List (Int × Bool × Int × Int × Int))) (g_Serial : List UInt8) (g_Err : Int) (r : (List UInt8) × Int) (h : F16 n g_Step g_Tries g_Addr g_Max0 g_Total g_Device_Usb g_Device_Class g_Device_Sub g_Device_Proto g_Device_Max0 g_Device_Vendor g_Device_Product g_Device_Release g_Device_Maker g_Device_Name g_Device_Serial g_Device_Configs g_Config_Value g_Config_Name g_Config_Attr g_Config_Power g_Config_Faces g_Serial g_Err = some r) : PureC Try.prog 16 [(.st (.cons (.int .i64 g_Step) (.cons (.int .i64 g_Tries) (.cons (.int .i64 g_Addr) (.cons (.int .i64 g_Max0) (.cons (.int .i64 g_Total) (.cons (.st (.cons (.int .i64 g_Device_Usb) (.cons (.int .i64 g_Device_Class) (.cons (.int .i64 g_Device_Sub) (.cons (.int .i64 g_Device_Proto) (.cons (.int .i64 g_Device_Max0) (.cons (.int .i64 g_Device_Vendor) (.cons (.int .i64 g_Device_Product) (.cons (.int .i64 g_Device_Release) (.cons (.int .i64 g_Device_Maker) (.cons (.int .i64 g_Device_Name) (.cons (.int .i64 g_Device_Serial) (.int .i64 g_Device_Configs))))))))))))) (.cons (.st (.cons (.int .i64 g_Config_Value) (.cons (.int .i64 g_Config_Name) (.cons (.int .i64 g_Config_Attr) (.cons (.int .i64 g_Config_Power) (.sl (.st (.pair (.int .i64) (.pair (.int .i64) (.pair (.int .i64) (.pair (.int .i64) (.pair (.sl .str) (.sl (.st (.pair (.int .i64) (.pair .bool (.pair (.int .i64) (.pair (.int .i64) (.int .i64))))))))))))) g_Config_Faces)))))) (.cons (.str g_Serial) (.int .i64 g_Err))))))))))] (.tup (.cons (.str r.1) (.cons (.int .i64 r.2) .nil))) [] := by
  refine PureC.mkS Try.func16 rfl rfl ?_
  intro w0 fz0 hfz
  replace h : ((F55 n g_Step g_Tries g_Addr g_Max0 g_Total g_Device_Usb g_Device_Class g_Device_Sub g_Device_Proto g_Device_Max0 g_Device_Vendor g_Device_Product g_Device_Release g_Device_Maker g_Device_Name g_Device_Serial g_Device_Configs g_Config_Value g_Config_Name g_Config_Attr g_Config_Power g_Config_Faces g_Serial g_Err).bind fun y_3 => (bif (y_3 != (0 : Int)) then (some (([] : List UInt8), y_3)) else (bif (g_Step == (1 : Int)) then (F16_j2 n ((5 : Int), (256 : Int), (8 : Int))) else (bif (g_Step == (2 : Int)) then (F16_j2 n ((4 : Int), g_Addr, (0 : Int))) else (bif (g_Step == (3 : Int)) then (F16_j2 n ((5 : Int), (256 : Int), (18 : Int))) else (bif (g_Step == (4 : Int)) then (F16_j2 n ((5 : Int), (512 : Int), (9 : Int))) else (bif (g_Step == (5 : Int)) then (F16_j2 n ((5 : Int), (512 : Int), g_Total)) else (bif (g_Step == (6 : Int)) then (F16_j2 n ((5 : Int), (IntKind.wrap .i64 ((768 : Int) + g_Device_Serial)), (255 : Int))) else (F16_j2 n ((6 : Int), g_Config_Value, (0 : Int))))))))))) = some r := h
  refine TS.seq ?_
  have hq : (True) ∧ ((True) ∧ ((True) ∧ (True))) := ⟨trivial, ⟨trivial, ⟨trivial, trivial⟩⟩⟩
  refine TS.reg [] ?_ ?_
  · apply prop_of ?_ hq
    kernel_rfl
  refine XS.then ?_
  refine TS.seq ?_
  refine TS.seq ?_
  obtain ⟨y_3, hx1, h⟩ := bind_some' h
  have hq : (True) ∧ ((PureC Try.prog 55 [(.st (.cons (.int .i64 g_Step) (.cons (.int .i64 g_Tries) (.cons (.int .i64 g_Addr) (.cons (.int .i64 g_Max0) (.cons (.int .i64 g_Total) (.cons (.st (.cons (.int .i64 g_Device_Usb) (.cons (.int .i64 g_Device_Class) (.cons (.int .i64 g_Device_Sub) (.cons (.int .i64 g_Device_Proto) (.cons (.int .i64 g_Device_Max0) (.cons (.int .i64 g_Device_Vendor) (.cons (.int .i64 g_Device_Product) (.cons (.int .i64 g_Device_Release) (.cons (.int .i64 g_Device_Maker) (.cons (.int .i64 g_Device_Name) (.cons (.int .i64 g_Device_Serial) (.int .i64 g_Device_Configs))))))))))))) (.cons (.st (.cons (.int .i64 g_Config_Value) (.cons (.int .i64 g_Config_Name) (.cons (.int .i64 g_Config_Attr) (.cons (.int .i64 g_Config_Power) (.sl (.st (.pair (.int .i64) (.pair (.int .i64) (.pair (.int .i64) (.pair (.int .i64) (.pair (.sl .str) (.sl (.st (.pair (.int .i64) (.pair .bool (.pair (.int .i64) (.pair (.int .i64) (.int .i64))))))))))))) g_Config_Faces)))))) (.cons (.str g_Serial) (.int .i64 g_Err))))))))))] (.int .i64 y_3) []) ∧ ((True) ∧ (True))) := ⟨trivial, ⟨F55_ok n g_Step g_Tries g_Addr g_Max0 g_Total g_Device_Usb g_Device_Class g_Device_Sub g_Device_Proto g_Device_Max0 g_Device_Vendor g_Device_Product g_Device_Release g_Device_Maker g_Device_Name g_Device_Serial g_Device_Configs g_Config_Value g_Config_Name g_Config_Attr g_Config_Power g_Config_Faces g_Serial g_Err y_3 hx1, ⟨trivial, trivial⟩⟩⟩
  refine TS.reg [.none, (.call (.int .i64 y_3) [])] ?_ ?_
  · apply prop_of ?_ hq
    kernel_rfl
  refine XS.then ?_
  refine TS.seq ?_
  have hq : (True) ∧ ((True) ∧ (True)) := ⟨trivial, ⟨trivial, trivial⟩⟩
  refine TS.reg [] ?_ ?_
  · apply prop_of ?_ hq
    kernel_rfl
  refine XS.then ?_
  rcases bif_some h with ⟨c2, h⟩ | ⟨c3, h⟩
  · refine TS.cond (y_3 != (0 : Int)) ?_ (fun e => ?_) (fun e => by rw [c2] at e; cases e)
    · kernel_rfl
    refine TS.seq ?_
    have hq : (True) ∧ ((True) ∧ ((True) ∧ (True))) := ⟨trivial, ⟨trivial, ⟨trivial, trivial⟩⟩⟩
    refine TS.reg [] ?_ ?_
    · apply prop_of ?_ hq
      kernel_rfl
    refine XS.then ?_
    refine TS.ret ?_
    refine XS.passR ?_
    obtain rfl : (([] : List UInt8), y_3) = r := Option.some.inj h
    exact XS.fin [] ((True) ∧ ((True) ∧ (True))) (by kernel_rfl) ⟨trivial, ⟨trivial, trivial⟩⟩
  · refine TS.cond (y_3 != (0 : Int)) ?_ (fun e => by rw [c3] at e; cases e) (fun e => ?_)
    · kernel_rfl
    refine TS.skip ?_
    refine XS.then ?_
    refine TS.seq ?_
    have hq : ((True) ∧ ((True) ∧ (True))) ∧ ((True) ∧ ((True) ∧ (True))) := ⟨⟨trivial, ⟨trivial, trivial⟩⟩, ⟨trivial, ⟨trivial, trivial⟩⟩⟩
    refine TS.reg [] ?_ ?_
    · apply prop_of ?_ hq
      kernel_rfl
    refine XS.then ?_
    refine TS.seq ?_
    refine TS.seq ?_
    have hq : (True) ∧ ((True) ∧ (True)) := ⟨trivial, ⟨trivial, trivial⟩⟩
    refine TS.reg [] ?_ ?_
    · apply prop_of ?_ hq
      kernel_rfl
    refine XS.then ?_
    refine TS.cut (D := Int × Int × Int) (fun d => match d with | (m0, m0_2, m0_3) => (mkTs 53 [(5, (.ptr 0 []))], [(.box 101 (.st (.cons (.int .i64 m0) (.cons (.int .i64 m0_2) (.cons (.int .i64 (0 : Int)) (.int .i64 m0_3))))))])) (fun d => F16_j2 n d = some r) ?_ ?_
    · rintro ⟨m0, m0_2, m0_3⟩ h
      replace h : ((F56 n m0 m0_2 (0 : Int) m0_3).bind fun y_4 => (some (y_4.1, y_4.2))) = some r := h
      refine XS.then ?_
      refine TS.seq ?_
      obtain ⟨y_4, hx4, h⟩ := bind_some' h
      have hq : (True) ∧ ((PureC Try.prog 56 [(.st (.cons (.int .i64 m0) (.cons (.int .i64 m0_2) (.cons (.int .i64 (0 : Int)) (.int .i64 m0_3)))))] (.tup (.cons (.str y_4.1) (.cons (.int .i64 y_4.2) .nil))) []) ∧ ((True) ∧ ((True) ∧ ((True) ∧ ((True) ∧ (True)))))) := ⟨trivial, ⟨F56_ok n m0 m0_2 (0 : Int) m0_3 y_4 hx4, ⟨trivial, ⟨trivial, ⟨trivial, ⟨trivial, trivial⟩⟩⟩⟩⟩⟩
      refine TS.reg [.none, (.call (.tup (.cons (.str y_4.1) (.cons (.int .i64 y_4.2) .nil))) [])] ?_ ?_
      · apply prop_of ?_ hq
        kernel_rfl
      refine XS.then ?_
      refine TS.ret ?_
      obtain rfl : (y_4.1, y_4.2) = r := Option.some.inj h
      exact XS.fin [] ((True) ∧ ((True) ∧ (True))) (by kernel_rfl) ⟨trivial, ⟨trivial, trivial⟩⟩
    · refine TS.block ?_
      refine TS.seq ?_
      have hq : (True) ∧ ((True) ∧ (True)) := ⟨trivial, ⟨trivial, trivial⟩⟩
      refine TS.reg [] ?_ ?_
      · apply prop_of ?_ hq
        kernel_rfl
      refine XS.then ?_
      rcases bif_some h with ⟨c5, h⟩ | ⟨c6, h⟩
      · refine TS.cond (g_Step == (1 : Int)) ?_ (fun e => ?_) (fun e => by rw [c5] at e; cases e)
        · kernel_rfl
        have hq : (True) ∧ ((True) ∧ ((True) ∧ ((True) ∧ (True)))) := ⟨trivial, ⟨trivial, ⟨trivial, ⟨trivial, trivial⟩⟩⟩⟩
        refine TS.reg [] ?_ ?_
        · apply prop_of ?_ hq
          kernel_rfl
        refine XS.blockEnd ?_
        refine XS.reAny [1] (mkMask 53 [5]) ((5 : Int), (256 : Int), (8 : Int)) h ?_
        kernel_rfl
      · refine TS.cond (g_Step == (1 : Int)) ?_ (fun e => by rw [c6] at e; cases e) (fun e => ?_)
        · kernel_rfl
        refine TS.seq ?_
        have hq : (True) ∧ ((True) ∧ (True)) := ⟨trivial, ⟨trivial, trivial⟩⟩
        refine TS.reg [] ?_ ?_
        · apply prop_of ?_ hq
          kernel_rfl
        refine XS.then ?_
        rcases bif_some h with ⟨c7, h⟩ | ⟨c8, h⟩
        · refine TS.cond (g_Step == (2 : Int)) ?_ (fun e => ?_) (fun e => by rw [c7] at e; cases e)
          · kernel_rfl
          have hq : ((True) ∧ ((True) ∧ ((True) ∧ ((True) ∧ ((True) ∧ (True)))))) ∧ ((True) ∧ (True)) := ⟨⟨trivial, ⟨trivial, ⟨trivial, ⟨trivial, ⟨trivial, trivial⟩⟩⟩⟩⟩, ⟨trivial, trivial⟩⟩
          refine TS.draw 5 [(3, 1)] [] (by kernel_rfl) ?_ ?_
          · apply prop_of ?_ hq
            kernel_rfl
          refine XS.blockEnd ?_
          refine XS.reAny [1] (mkMask 53 [5]) ((4 : Int), g_Addr, (0 : Int)) h ?_
          kernel_rfl
        · refine TS.cond (g_Step == (2 : Int)) ?_ (fun e => by rw [c8] at e; cases e) (fun e => ?_)
          · kernel_rfl
          refine TS.seq ?_
          have hq : (True) ∧ ((True) ∧ (True)) := ⟨trivial, ⟨trivial, trivial⟩⟩
          refine TS.reg [] ?_ ?_
          · apply prop_of ?_ hq
            kernel_rfl
          refine XS.then ?_
          rcases bif_some h with ⟨c9, h⟩ | ⟨c10, h⟩
          · refine TS.cond (g_Step == (3 : Int)) ?_ (fun e => ?_) (fun e => by rw [c9] at e; cases e)
            · kernel_rfl
            have hq : (True) ∧ ((True) ∧ ((True) ∧ ((True) ∧ (True)))) := ⟨trivial, ⟨trivial, ⟨trivial, ⟨trivial, trivial⟩⟩⟩⟩
            refine TS.reg [] ?_ ?_
            · apply prop_of ?_ hq
              kernel_rfl
            refine XS.blockEnd ?_
            refine XS.reAny [1] (mkMask 53 [5]) ((5 : Int), (256 : Int), (18 : Int)) h ?_
            kernel_rfl
          · refine TS.cond (g_Step == (3 : Int)) ?_ (fun e => by rw [c10] at e; cases e) (fun e => ?_)
            · kernel_rfl
            refine TS.seq ?_
            have hq : (True) ∧ ((True) ∧ (True)) := ⟨trivial, ⟨trivial, trivial⟩⟩
            refine TS.reg [] ?_ ?_
            · apply prop_of ?_ hq
              kernel_rfl
            refine XS.then ?_
            rcases bif_some h with ⟨c11, h⟩ | ⟨c12, h⟩
            · refine TS.cond (g_Step == (4 : Int)) ?_ (fun e => ?_) (fun e => by rw [c11] at e; cases e)
              · kernel_rfl
              have hq : (True) ∧ ((True) ∧ (True)) := ⟨trivial, ⟨trivial, trivial⟩⟩
              refine TS.reg [] ?_ ?_
              · apply prop_of ?_ hq
                kernel_rfl
              refine XS.blockEnd ?_
              refine XS.reAny [1] (mkMask 53 [5]) ((5 : Int), (512 : Int), (9 : Int)) h ?_
              kernel_rfl
            · refine TS.cond (g_Step == (4 : Int)) ?_ (fun e => by rw [c12] at e; cases e) (fun e => ?_)
              · kernel_rfl
              refine TS.seq ?_
              have hq : (True) ∧ ((True) ∧ (True)) := ⟨trivial, ⟨trivial, trivial⟩⟩
              refine TS.reg [] ?_ ?_
              · apply prop_of ?_ hq
                kernel_rfl
              refine XS.then ?_
              rcases bif_some h with ⟨c13, h⟩ | ⟨c14, h⟩
              · refine TS.cond (g_Step == (5 : Int)) ?_ (fun e => ?_) (fun e => by rw [c13] at e; cases e)
                · kernel_rfl
                have hq : (True) ∧ ((True) ∧ ((True) ∧ ((True) ∧ (True)))) := ⟨trivial, ⟨trivial, ⟨trivial, ⟨trivial, trivial⟩⟩⟩⟩
                refine TS.reg [] ?_ ?_
                · apply prop_of ?_ hq
                  kernel_rfl
                refine XS.blockEnd ?_
                refine XS.reAny [1] (mkMask 53 [5]) ((5 : Int), (512 : Int), g_Total) h ?_
                kernel_rfl
              · refine TS.cond (g_Step == (5 : Int)) ?_ (fun e => by rw [c14] at e; cases e) (fun e => ?_)
                · kernel_rfl
                refine TS.seq ?_
                have hq : (True) ∧ ((True) ∧ (True)) := ⟨trivial, ⟨trivial, trivial⟩⟩
                refine TS.reg [] ?_ ?_
                · apply prop_of ?_ hq
                  kernel_rfl
                refine XS.then ?_
                rcases bif_some h with ⟨c15, h⟩ | ⟨c16, h⟩
                · refine TS.cond (g_Step == (6 : Int)) ?_ (fun e => ?_) (fun e => by rw [c15] at e; cases e)
                  · kernel_rfl
                  have hq : (True) ∧ ((True) ∧ ((True) ∧ ((True) ∧ ((True) ∧ ((True) ∧ ((True) ∧ ((True) ∧ (True)))))))) := ⟨trivial, ⟨trivial, ⟨trivial, ⟨trivial, ⟨trivial, ⟨trivial, ⟨trivial, ⟨trivial, trivial⟩⟩⟩⟩⟩⟩⟩⟩
                  refine TS.reg [] ?_ ?_
                  · apply prop_of ?_ hq
                    kernel_rfl
                  refine XS.blockEnd ?_
                  refine XS.reAny [1] (mkMask 53 [5]) ((5 : Int), (IntKind.wrap .i64 ((768 : Int) + g_Device_Serial)), (255 : Int)) h ?_
                  kernel_rfl
                · refine TS.cond (g_Step == (6 : Int)) ?_ (fun e => by rw [c16] at e; cases e) (fun e => ?_)
                  · kernel_rfl
                  have hq : ((True) ∧ ((True) ∧ ((True) ∧ ((True) ∧ ((True) ∧ ((True) ∧ (True))))))) ∧ ((True) ∧ (True)) := ⟨⟨trivial, ⟨trivial, ⟨trivial, ⟨trivial, ⟨trivial, ⟨trivial, trivial⟩⟩⟩⟩⟩⟩, ⟨trivial, trivial⟩⟩
                  refine TS.draw 6 [(4, 1)] [] (by kernel_rfl) ?_ ?_
                  · apply prop_of ?_ hq
                    kernel_rfl
                  refine XS.blockEnd ?_
                  refine XS.reAny [1] (mkMask 53 [5]) ((6 : Int), g_Config_Value, (0 : Int)) h ?_
                  kernel_rfl

/-! plugtree/plugref.Greeting -/
def F17 (n : Nat) (g_Step : Int) (g_Tries : Int) (g_Addr : Int) (g_Max0 : Int) (g_Total : Int) (g_Device_Usb : Int) (g_Device_Class : Int) (g_Device_Sub : Int) (g_Device_Proto : Int) (g_Device_Max0 : Int) (g_Device_Vendor : Int) (g_Device_Product : Int) (g_Device_Release : Int) (g_Device_Maker : Int) (g_Device_Name : Int) (g_Device_Serial : Int) (g_Device_Configs : Int) (g_Config_Value : Int) (g_Config_Name : Int) (g_Config_Attr : Int) (g_Config_Power : Int) (g_Config_Faces : List (Int × Int × Int × Int × (List (List UInt8)) × List (Int × Bool × Int × Int × Int))) (g_Serial : List UInt8) (g_Err : Int) : Option Bool := ((F15 n g_Step (1 : Int) (9 : Int)).bind fun y_2 => (bif y_2 then ((F15 n g_Tries (0 : Int) (2 : Int)).bind fun y_3 => (bif y_3 then ((F15 n g_Addr (1 : Int) (127 : Int)).bind fun y_4 => (bif y_4 then ((F15 n g_Total (0 : Int) (512 : Int)).bind fun y_5 => (bif y_5 then ((F15 n g_Device_Serial (0 : Int) (255 : Int)).bind fun y_6 => (bif y_6 then ((F15 n g_Config_Value (0 : Int) (255 : Int)).bind fun y_7 => (some y_7)) else (some false))) else (some false))) else (some false))) else (some false))) else (some false)))
theorem F17_ok (n : Nat) (g_Step : Int) (g_Tries : Int) (g_Addr : Int) (g_Max0 : Int) (g_Total : Int) (g_Device_Usb : Int) (g_Device_Class : Int) (g_Device_Sub : Int) (g_Device_Proto : Int) (g_Device_Max0 : Int) (g_Device_Vendor : Int) (g_Device_Product : Int) (g_Device_Release : Int) (g_Device_Maker : Int) (g_Device_Name : Int) (g_Device_Serial : Int) (g_Device_Configs : Int) (g_Config_Value : Int) (g_Config_Name : Int) (g_Config_Attr : Int) (g_Config_Power : Int) (g_Config_Faces : List (Int × Int × Int × Int × (List (List UInt8)) × List (Int × Bool × Int × Int × Int))) (g_Serial : List UInt8) (g_Err : Int) (r : Bool) (h : F17 n g_Step g_Tries g_Addr g_Max0 g_Total g_Device_Usb g_Device_Class g_Device_Sub g_Device_Proto g_Device_Max0 g_Device_Vendor g_Device_Product g_Device_Release g_Device_Maker g_Device_Name g_Device_Serial g_Device_Configs g_Config_Value g_Config_Name g_Config_Attr g_Config_Power g_Config_Faces g_Serial g_Err = some r) : PureC Try.prog 17 [(.st (.cons (.int .i64 g_Step) (.cons (.int .i64 g_Tries) (.cons (.int .i64 g_Addr) (.cons (.int .i64 g_Max0) (.cons (.int .i64 g_Total) (.cons (.st (.cons (.int .i64 g_Device_Usb) (.cons (.int .i64 g_Device_Class) (.cons (.int .i64 g_Device_Sub) (.cons (.int .i64 g_Device_Proto) (.cons (.int .i64 g_Device_Max0) (.cons (.int .i64 g_Device_Vendor) (.cons (.int .i64 g_Device_Product) (.cons (.int .i64 g_Device_Release) (.cons (.int .i64 g_Device_Maker) (.cons (.int .i64 g_Device_Name) (.cons (.int .i64 g_Device_Serial) (.int .i64 g_Device_Configs))))))))))))) (.cons (.st (.cons (.int .i64 g_Config_Value) (.cons (.int .i64 g_Config_Name) (.cons (.int .i64 g_Config_Attr) (.cons (.int .i64 g_Config_Power) (.sl (.st (.pair (.int .i64) (.pair (.int .i64) (.pair (.int .i64) (.pair (.int .i64) (.pair (.sl .str) (.sl (.st (.pair (.int .i64) (.pair .bool (.pair (.int .i64) (.pair (.int .i64) (.int .i64))))))))))))) g_Config_Faces)))))) (.cons (.str g_Serial) (.int .i64 g_Err))))))))))] (.bool r) [] := by
  refine PureC.mkS Try.func17 rfl rfl ?_
  intro w0 fz0 hfz
  replace h : ((F15 n g_Step (1 : Int) (9 : Int)).bind fun y_2 => (bif y_2 then ((F15 n g_Tries (0 : Int) (2 : Int)).bind fun y_3 => (bif y_3 then ((F15 n g_Addr (1 : Int) (127 : Int)).bind fun y_4 => (bif y_4 then ((F15 n g_Total (0 : Int) (512 : Int)).bind fun y_5 => (bif y_5 then ((F15 n g_Device_Serial (0 : Int) (255 : Int)).bind fun y_6 => (bif y_6 then ((F15 n g_Config_Value (0 : Int) (255 : Int)).bind fun y_7 => (some y_7)) else (some false))) else (some false))) else (some false))) else (some false))) else (some false))) = some r := h
  refine TS.seq ?_
  have hq : (True) ∧ ((True) ∧ (True)) := ⟨trivial, ⟨trivial, trivial⟩⟩
  refine TS.reg [] ?_ ?_
  · apply prop_of ?_ hq
    kernel_rfl
  refine XS.then ?_
  refine TS.seq ?_
  obtain ⟨y_2, hx1, h⟩ := bind_some' h
  rcases bif_some h with ⟨c2, h⟩ | ⟨c3, h⟩
  · obtain ⟨y_3, hx4, h⟩ := bind_some' h
    rcases bif_some h with ⟨c5, h⟩ | ⟨c6, h⟩
    · obtain ⟨y_4, hx7, h⟩ := bind_some' h
      rcases bif_some h with ⟨c8, h⟩ | ⟨c9, h⟩
      · obtain ⟨y_5, hx10, h⟩ := bind_some' h
        rcases bif_some h with ⟨c11, h⟩ | ⟨c12, h⟩
        · obtain ⟨y_6, hx13, h⟩ := bind_some' h
          rcases bif_some h with ⟨c14, h⟩ | ⟨c15, h⟩
          · obtain ⟨y_7, hx16, h⟩ := bind_some' h
            have hq : (True) ∧ ((True) ∧ ((PureC Try.prog 15 [(.int .i64 g_Step), (.int .i64 (1 : Int)), (.int .i64 (9 : Int))] (.bool y_2) []) ∧ (((True) ∧ y_2 = true) ∧ ((True) ∧ ((True) ∧ ((PureC Try.prog 15 [(.int .i64 g_Tries), (.int .i64 (0 : Int)), (.int .i64 (2 : Int))] (.bool y_3) []) ∧ ((True) ∧ (((True) ∧ y_3 = true) ∧ ((True) ∧ ((True) ∧ ((PureC Try.prog 15 [(.int .i64 g_Addr), (.int .i64 (1 : Int)), (.int .i64 (127 : Int))] (.bool y_4) []) ∧ ((True) ∧ (((True) ∧ y_4 = true) ∧ ((True) ∧ ((True) ∧ ((PureC Try.prog 15 [(.int .i64 g_Total), (.int .i64 (0 : Int)), (.int .i64 (512 : Int))] (.bool y_5) []) ∧ ((True) ∧ (((True) ∧ y_5 = true) ∧ ((True) ∧ ((True) ∧ ((True) ∧ ((PureC Try.prog 15 [(.int .i64 g_Device_Serial), (.int .i64 (0 : Int)), (.int .i64 (255 : Int))] (.bool y_6) []) ∧ ((True) ∧ (((True) ∧ y_6 = true) ∧ ((True) ∧ ((True) ∧ ((True) ∧ ((PureC Try.prog 15 [(.int .i64 g_Config_Value), (.int .i64 (0 : Int)), (.int .i64 (255 : Int))] (.bool y_7) []) ∧ ((True) ∧ ((True) ∧ (True))))))))))))))))))))))))))))))) := ⟨trivial, ⟨trivial, ⟨F15_ok n g_Step (1 : Int) (9 : Int) y_2 hx1, ⟨⟨trivial, c2⟩, ⟨trivial, ⟨trivial, ⟨F15_ok n g_Tries (0 : Int) (2 : Int) y_3 hx4, ⟨trivial, ⟨⟨trivial, c5⟩, ⟨trivial, ⟨trivial, ⟨F15_ok n g_Addr (1 : Int) (127 : Int) y_4 hx7, ⟨trivial, ⟨⟨trivial, c8⟩, ⟨trivial, ⟨trivial, ⟨F15_ok n g_Total (0 : Int) (512 : Int) y_5 hx10, ⟨trivial, ⟨⟨trivial, c11⟩, ⟨trivial, ⟨trivial, ⟨trivial, ⟨F15_ok n g_Device_Serial (0 : Int) (255 : Int) y_6 hx13, ⟨trivial, ⟨⟨trivial, c14⟩, ⟨trivial, ⟨trivial, ⟨trivial, ⟨F15_ok n g_Config_Value (0 : Int) (255 : Int) y_7 hx16, ⟨trivial, ⟨trivial, trivial⟩⟩⟩⟩⟩⟩⟩⟩⟩⟩⟩⟩⟩⟩⟩⟩⟩⟩⟩⟩⟩⟩⟩⟩⟩⟩⟩⟩⟩⟩⟩
            refine TS.reg [.none, .none, (.call (.bool y_2) []), .dec true, .none, .none, (.call (.bool y_3) []), .none, .dec true, .none, .none, (.call (.bool y_4) []), .none, .dec true, .none, .none, (.call (.bool y_5) []), .none, .dec true, .none, .none, .none, (.call (.bool y_6) []), .none, .dec true, .none, .none, .none, (.call (.bool y_7) [])] ?_ ?_
            · apply prop_of ?_ hq
              kernel_rfl
            refine XS.then ?_
            refine TS.ret ?_
            obtain rfl : y_7 = r := Option.some.inj h
            exact XS.fin [] ((True) ∧ (True)) (by kernel_rfl) ⟨trivial, trivial⟩
          · have hq : (True) ∧ ((True) ∧ ((PureC Try.prog 15 [(.int .i64 g_Step), (.int .i64 (1 : Int)), (.int .i64 (9 : Int))] (.bool y_2) []) ∧ (((True) ∧ y_2 = true) ∧ ((True) ∧ ((True) ∧ ((PureC Try.prog 15 [(.int .i64 g_Tries), (.int .i64 (0 : Int)), (.int .i64 (2 : Int))] (.bool y_3) []) ∧ ((True) ∧ (((True) ∧ y_3 = true) ∧ ((True) ∧ ((True) ∧ ((PureC Try.prog 15 [(.int .i64 g_Addr), (.int .i64 (1 : Int)), (.int .i64 (127 : Int))] (.bool y_4) []) ∧ ((True) ∧ (((True) ∧ y_4 = true) ∧ ((True) ∧ ((True) ∧ ((PureC Try.prog 15 [(.int .i64 g_Total), (.int .i64 (0 : Int)), (.int .i64 (512 : Int))] (.bool y_5) []) ∧ ((True) ∧ (((True) ∧ y_5 = true) ∧ ((True) ∧ ((True) ∧ ((True) ∧ ((PureC Try.prog 15 [(.int .i64 g_Device_Serial), (.int .i64 (0 : Int)), (.int .i64 (255 : Int))] (.bool y_6) []) ∧ ((True) ∧ (((True) ∧ y_6 = false) ∧ ((True) ∧ ((True) ∧ (True))))))))))))))))))))))))))) := ⟨trivial, ⟨trivial, ⟨F15_ok n g_Step (1 : Int) (9 : Int) y_2 hx1, ⟨⟨trivial, c2⟩, ⟨trivial, ⟨trivial, ⟨F15_ok n g_Tries (0 : Int) (2 : Int) y_3 hx4, ⟨trivial, ⟨⟨trivial, c5⟩, ⟨trivial, ⟨trivial, ⟨F15_ok n g_Addr (1 : Int) (127 : Int) y_4 hx7, ⟨trivial, ⟨⟨trivial, c8⟩, ⟨trivial, ⟨trivial, ⟨F15_ok n g_Total (0 : Int) (512 : Int) y_5 hx10, ⟨trivial, ⟨⟨trivial, c11⟩, ⟨trivial, ⟨trivial, ⟨trivial, ⟨F15_ok n g_Device_Serial (0 : Int) (255 : Int) y_6 hx13, ⟨trivial, ⟨⟨trivial, c15⟩, ⟨trivial, ⟨trivial, trivial⟩⟩⟩⟩⟩⟩⟩⟩⟩⟩⟩⟩⟩⟩⟩⟩⟩⟩⟩⟩⟩⟩⟩⟩⟩⟩⟩
            refine TS.reg [.none, .none, (.call (.bool y_2) []), .dec true, .none, .none, (.call (.bool y_3) []), .none, .dec true, .none, .none, (.call (.bool y_4) []), .none, .dec true, .none, .none, (.call (.bool y_5) []), .none, .dec true, .none, .none, .none, (.call (.bool y_6) []), .none, .dec false] ?_ ?_
            · apply prop_of ?_ hq
              kernel_rfl
            refine XS.then ?_
            refine TS.ret ?_
            obtain rfl : false = r := Option.some.inj h
            exact XS.fin [] ((True) ∧ (True)) (by kernel_rfl) ⟨trivial, trivial⟩
        · have hq : (True) ∧ ((True) ∧ ((PureC Try.prog 15 [(.int .i64 g_Step), (.int .i64 (1 : Int)), (.int .i64 (9 : Int))] (.bool y_2) []) ∧ (((True) ∧ y_2 = true) ∧ ((True) ∧ ((True) ∧ ((PureC Try.prog 15 [(.int .i64 g_Tries), (.int .i64 (0 : Int)), (.int .i64 (2 : Int))] (.bool y_3) []) ∧ ((True) ∧ (((True) ∧ y_3 = true) ∧ ((True) ∧ ((True) ∧ ((PureC Try.prog 15 [(.int .i64 g_Addr), (.int .i64 (1 : Int)), (.int .i64 (127 : Int))] (.bool y_4) []) ∧ ((True) ∧ (((True) ∧ y_4 = true) ∧ ((True) ∧ ((True) ∧ ((PureC Try.prog 15 [(.int .i64 g_Total), (.int .i64 (0 : Int)), (.int .i64 (512 : Int))] (.bool y_5) []) ∧ ((True) ∧ (((True) ∧ y_5 = false) ∧ ((True) ∧ ((True) ∧ ((True) ∧ ((True) ∧ (True))))))))))))))))))))))) := ⟨trivial, ⟨trivial, ⟨F15_ok n g_Step (1 : Int) (9 : Int) y_2 hx1, ⟨⟨trivial, c2⟩, ⟨trivial, ⟨trivial, ⟨F15_ok n g_Tries (0 : Int) (2 : Int) y_3 hx4, ⟨trivial, ⟨⟨trivial, c5⟩, ⟨trivial, ⟨trivial, ⟨F15_ok n g_Addr (1 : Int) (127 : Int) y_4 hx7, ⟨trivial, ⟨⟨trivial, c8⟩, ⟨trivial, ⟨trivial, ⟨F15_ok n g_Total (0 : Int) (512 : Int) y_5 hx10, ⟨trivial, ⟨⟨trivial, c12⟩, ⟨trivial, ⟨trivial, ⟨trivial, ⟨trivial, trivial⟩⟩⟩⟩⟩⟩⟩⟩⟩⟩⟩⟩⟩⟩⟩⟩⟩⟩⟩⟩⟩⟩⟩
          refine TS.reg [.none, .none, (.call (.bool y_2) []), .dec true, .none, .none, (.call (.bool y_3) []), .none, .dec true, .none, .none, (.call (.bool y_4) []), .none, .dec true, .none, .none, (.call (.bool y_5) []), .none, .dec false] ?_ ?_
          · apply prop_of ?_ hq
            kernel_rfl
          refine XS.then ?_
          refine TS.ret ?_
          obtain rfl : false = r := Option.some.inj h
          exact XS.fin [] ((True) ∧ (True)) (by kernel_rfl) ⟨trivial, trivial⟩
      · have hq : (True) ∧ ((True) ∧ ((PureC Try.prog 15 [(.int .i64 g_Step), (.int .i64 (1 : Int)), (.int .i64 (9 : Int))] (.bool y_2) []) ∧ (((True) ∧ y_2 = true) ∧ ((True) ∧ ((True) ∧ ((PureC Try.prog 15 [(.int .i64 g_Tries), (.int .i64 (0 : Int)), (.int .i64 (2 : Int))] (.bool y_3) []) ∧ ((True) ∧ (((True) ∧ y_3 = true) ∧ ((True) ∧ ((True) ∧ ((PureC Try.prog 15 [(.int .i64 g_Addr), (.int .i64 (1 : Int)), (.int .i64 (127 : Int))] (.bool y_4) []) ∧ ((True) ∧ (((True) ∧ y_4 = false) ∧ ((True) ∧ ((True) ∧ ((True) ∧ ((True) ∧ ((True) ∧ ((True) ∧ (True)))))))))))))))))))) := ⟨trivial, ⟨trivial, ⟨F15_ok n g_Step (1 : Int) (9 : Int) y_2 hx1, ⟨⟨trivial, c2⟩, ⟨trivial, ⟨trivial, ⟨F15_ok n g_Tries (0 : Int) (2 : Int) y_3 hx4, ⟨trivial, ⟨⟨trivial, c5⟩, ⟨trivial, ⟨trivial, ⟨F15_ok n g_Addr (1 : Int) (127 : Int) y_4 hx7, ⟨trivial, ⟨⟨trivial, c9⟩, ⟨trivial, ⟨trivial, ⟨trivial, ⟨trivial, ⟨trivial, ⟨trivial, trivial⟩⟩⟩⟩⟩⟩⟩⟩⟩⟩⟩⟩⟩⟩⟩⟩⟩⟩⟩⟩
        refine TS.reg [.none, .none, (.call (.bool y_2) []), .dec true, .none, .none, (.call (.bool y_3) []), .none, .dec true, .none, .none, (.call (.bool y_4) []), .none, .dec false] ?_ ?_
        · apply prop_of ?_ hq
          kernel_rfl
        refine XS.then ?_
        refine TS.ret ?_
        obtain rfl : false = r := Option.some.inj h
        exact XS.fin [] ((True) ∧ (True)) (by kernel_rfl) ⟨trivial, trivial⟩
    · have hq : (True) ∧ ((True) ∧ ((PureC Try.prog 15 [(.int .i64 g_Step), (.int .i64 (1 : Int)), (.int .i64 (9 : Int))] (.bool y_2) []) ∧ (((True) ∧ y_2 = true) ∧ ((True) ∧ ((True) ∧ ((PureC Try.prog 15 [(.int .i64 g_Tries), (.int .i64 (0 : Int)), (.int .i64 (2 : Int))] (.bool y_3) []) ∧ ((True) ∧ (((True) ∧ y_3 = false) ∧ ((True) ∧ ((True) ∧ ((True) ∧ ((True) ∧ ((True) ∧ ((True) ∧ ((True) ∧ ((True) ∧ (True))))))))))))))))) := ⟨trivial, ⟨trivial, ⟨F15_ok n g_Step (1 : Int) (9 : Int) y_2 hx1, ⟨⟨trivial, c2⟩, ⟨trivial, ⟨trivial, ⟨F15_ok n g_Tries (0 : Int) (2 : Int) y_3 hx4, ⟨trivial, ⟨⟨trivial, c6⟩, ⟨trivial, ⟨trivial, ⟨trivial, ⟨trivial, ⟨trivial, ⟨trivial, ⟨trivial, ⟨trivial, trivial⟩⟩⟩⟩⟩⟩⟩⟩⟩⟩⟩⟩⟩⟩⟩⟩⟩
      refine TS.reg [.none, .none, (.call (.bool y_2) []), .dec true, .none, .none, (.call (.bool y_3) []), .none, .dec false] ?_ ?_
      · apply prop_of ?_ hq
        kernel_rfl
      refine XS.then ?_
      refine TS.ret ?_
      obtain rfl : false = r := Option.some.inj h
      exact XS.fin [] ((True) ∧ (True)) (by kernel_rfl) ⟨trivial, trivial⟩
  · have hq : (True) ∧ ((True) ∧ ((PureC Try.prog 15 [(.int .i64 g_Step), (.int .i64 (1 : Int)), (.int .i64 (9 : Int))] (.bool y_2) []) ∧ (((True) ∧ y_2 = false) ∧ ((True) ∧ ((True) ∧ ((True) ∧ ((True) ∧ ((True) ∧ ((True) ∧ ((True) ∧ ((True) ∧ ((True) ∧ ((True) ∧ (True)))))))))))))) := ⟨trivial, ⟨trivial, ⟨F15_ok n g_Step (1 : Int) (9 : Int) y_2 hx1, ⟨⟨trivial, c3⟩, ⟨trivial, ⟨trivial, ⟨trivial, ⟨trivial, ⟨trivial, ⟨trivial, ⟨trivial, ⟨trivial, ⟨trivial, ⟨trivial, trivial⟩⟩⟩⟩⟩⟩⟩⟩⟩⟩⟩⟩⟩⟩
    refine TS.reg [.none, .none, (.call (.bool y_2) []), .dec false] ?_ ?_
    · apply prop_of ?_ hq
      kernel_rfl
    refine XS.then ?_
    refine TS.ret ?_
    obtain rfl : false = r := Option.some.inj h
    exact XS.fin [] ((True) ∧ (True)) (by kernel_rfl) ⟨trivial, trivial⟩

/-! plugtree/plugref.askValue -/
def F133_j4 (n : Nat) (kind : Int) (vn : Int) : Bool → Option Bool
  | x_2 => (bif x_2 then ((F15 n vn (0 : Int) (31 : Int)).bind fun y_5 => (some y_5)) else (bif (kind == (14 : Int)) then (some (vn == (512 : Int))) else (some (vn == (0 : Int)))))
def F133_j3 (n : Nat) (kind : Int) (vn : Int) : Bool → Option Bool
  | x => (bif x then ((F15 n vn (0 : Int) (65535 : Int)).bind fun y_3 => (some y_3)) else (bif (kind == (6 : Int)) then ((F15 n vn (0 : Int) (255 : Int)).bind fun y_4 => (some y_4)) else (bif (kind == (9 : Int)) then (F133_j4 n kind vn (kind == (9 : Int))) else (F133_j4 n kind vn (kind == (10 : Int))))))
def F133 (n : Nat) (kind : Int) (vn : Int) : Option Bool := (bif (kind == (4 : Int)) then ((F15 n vn (0 : Int) (127 : Int)).bind fun y_2 => (some y_2)) else (bif (kind == (5 : Int)) then (F133_j3 n kind vn (kind == (5 : Int))) else (F133_j3 n kind vn (kind == (13 : Int)))))
theorem F133_ok (n : Nat) (kind : Int) (vn : Int) (r : Bool) (h : F133 n kind vn = some r) : PureC Try.prog 133 [(.int .i64 kind), (.int .i64 vn)] (.bool r) [] := by
  refine PureC.mkS Try.func133 rfl rfl ?_
  intro w0 fz0 hfz
  replace h : (bif (kind == (4 : Int)) then ((F15 n vn (0 : Int) (127 : Int)).bind fun y_2 => (some y_2)) else (bif (kind == (5 : Int)) then (F133_j3 n kind vn (kind == (5 : Int))) else (F133_j3 n kind vn (kind == (13 : Int))))) = some r := h
  refine TS.seq ?_
  have hq : (True) ∧ (True) := ⟨trivial, trivial⟩
  refine TS.reg [] ?_ ?_
  · apply prop_of ?_ hq
    kernel_rfl
  refine XS.then ?_
  refine TS.seq ?_
  refine TS.seq ?_
  have hq : (True) ∧ (True) := ⟨trivial, trivial⟩
  refine TS.reg [] ?_ ?_
  · apply prop_of ?_ hq
    kernel_rfl
  refine XS.then ?_
  refine TS.block ?_
  refine TS.seq ?_
  have hq : (True) ∧ ((True) ∧ (True)) := ⟨trivial, ⟨trivial, trivial⟩⟩
  refine TS.reg [] ?_ ?_
  · apply prop_of ?_ hq
    kernel_rfl
  refine XS.then ?_
  rcases bif_some h with ⟨c1, h⟩ | ⟨c2, h⟩
  · refine TS.cond (kind == (4 : Int)) ?_ (fun e => ?_) (fun e => by rw [c1] at e; cases e)
    · kernel_rfl
    refine TS.seq ?_
    obtain ⟨y_2, hx3, h⟩ := bind_some' h
    have hq : (True) ∧ ((PureC Try.prog 15 [(.int .i64 vn), (.int .i64 (0 : Int)), (.int .i64 (127 : Int))] (.bool y_2) []) ∧ ((True) ∧ (True))) := ⟨trivial, ⟨F15_ok n vn (0 : Int) (127 : Int) y_2 hx3, ⟨trivial, trivial⟩⟩⟩
    refine TS.reg [.none, (.call (.bool y_2) [])] ?_ ?_
    · apply prop_of ?_ hq
      kernel_rfl
    refine XS.then ?_
    refine TS.ret ?_
    refine XS.blockRet ?_
    refine XS.passR ?_
    obtain rfl : y_2 = r := Option.some.inj h
    exact XS.fin [] ((True) ∧ (True)) (by kernel_rfl) ⟨trivial, trivial⟩
  · refine TS.cond (kind == (4 : Int)) ?_ (fun e => by rw [c2] at e; cases e) (fun e => ?_)
    · kernel_rfl
    refine TS.seq ?_
    refine TS.seq ?_
    have hq : (True) ∧ ((True) ∧ (True)) := ⟨trivial, ⟨trivial, trivial⟩⟩
    refine TS.reg [] ?_ ?_
    · apply prop_of ?_ hq
      kernel_rfl
    refine XS.then ?_
    refine TS.cut (D := Bool) (fun d => match d with | x => (mkTs 30 [(1, (.int .i64 vn)), (5, (.int .i64 kind)), (10, (.bool x))], [])) (fun d => F133_j3 n kind vn d = some r) ?_ ?_
    · rintro x h
      replace h : (bif x then ((F15 n vn (0 : Int) (65535 : Int)).bind fun y_3 => (some y_3)) else (bif (kind == (6 : Int)) then ((F15 n vn (0 : Int) (255 : Int)).bind fun y_4 => (some y_4)) else (bif (kind == (9 : Int)) then (F133_j4 n kind vn (kind == (9 : Int))) else (F133_j4 n kind vn (kind == (10 : Int)))))) = some r := h
      refine XS.then ?_
      rcases bif_some h with ⟨c4, h⟩ | ⟨c5, h⟩
      · refine TS.cond x ?_ (fun e => ?_) (fun e => by rw [c4] at e; cases e)
        · kernel_rfl
        refine TS.seq ?_
        obtain ⟨y_3, hx6, h⟩ := bind_some' h
        have hq : (True) ∧ ((PureC Try.prog 15 [(.int .i64 vn), (.int .i64 (0 : Int)), (.int .i64 (65535 : Int))] (.bool y_3) []) ∧ ((True) ∧ (True))) := ⟨trivial, ⟨F15_ok n vn (0 : Int) (65535 : Int) y_3 hx6, ⟨trivial, trivial⟩⟩⟩
        refine TS.reg [.none, (.call (.bool y_3) [])] ?_ ?_
        · apply prop_of ?_ hq
          kernel_rfl
        refine XS.then ?_
        refine TS.ret ?_
        refine XS.blockRet ?_
        refine XS.passR ?_
        obtain rfl : y_3 = r := Option.some.inj h
        exact XS.fin [] ((True) ∧ (True)) (by kernel_rfl) ⟨trivial, trivial⟩
      · refine TS.cond x ?_ (fun e => by rw [c5] at e; cases e) (fun e => ?_)
        · kernel_rfl
        refine TS.seq ?_
        have hq : (True) ∧ ((True) ∧ (True)) := ⟨trivial, ⟨trivial, trivial⟩⟩
        refine TS.reg [] ?_ ?_
        · apply prop_of ?_ hq
          kernel_rfl
        refine XS.then ?_
        rcases bif_some h with ⟨c7, h⟩ | ⟨c8, h⟩
        · refine TS.cond (kind == (6 : Int)) ?_ (fun e => ?_) (fun e => by rw [c7] at e; cases e)
          · kernel_rfl
          refine TS.seq ?_
          obtain ⟨y_4, hx9, h⟩ := bind_some' h
          have hq : (True) ∧ ((PureC Try.prog 15 [(.int .i64 vn), (.int .i64 (0 : Int)), (.int .i64 (255 : Int))] (.bool y_4) []) ∧ ((True) ∧ (True))) := ⟨trivial, ⟨F15_ok n vn (0 : Int) (255 : Int) y_4 hx9, ⟨trivial, trivial⟩⟩⟩
          refine TS.reg [.none, (.call (.bool y_4) [])] ?_ ?_
          · apply prop_of ?_ hq
            kernel_rfl
          refine XS.then ?_
          refine TS.ret ?_
          refine XS.blockRet ?_
          refine XS.passR ?_
          obtain rfl : y_4 = r := Option.some.inj h
          exact XS.fin [] ((True) ∧ (True)) (by kernel_rfl) ⟨trivial, trivial⟩
        · refine TS.cond (kind == (6 : Int)) ?_ (fun e => by rw [c8] at e; cases e) (fun e => ?_)
          · kernel_rfl
          refine TS.seq ?_
          refine TS.seq ?_
          have hq : (True) ∧ ((True) ∧ (True)) := ⟨trivial, ⟨trivial, trivial⟩⟩
          refine TS.reg [] ?_ ?_
          · apply prop_of ?_ hq
            kernel_rfl
          refine XS.then ?_
          refine TS.cut (D := Bool) (fun d => match d with | x_2 => (mkTs 30 [(1, (.int .i64 vn)), (5, (.int .i64 kind)), (19, (.bool x_2))], [])) (fun d => F133_j4 n kind vn d = some r) ?_ ?_
          · rintro x_2 h
            replace h : (bif x_2 then ((F15 n vn (0 : Int) (31 : Int)).bind fun y_5 => (some y_5)) else (bif (kind == (14 : Int)) then (some (vn == (512 : Int))) else (some (vn == (0 : Int))))) = some r := h
            refine XS.then ?_
            rcases bif_some h with ⟨c10, h⟩ | ⟨c11, h⟩
            · refine TS.cond x_2 ?_ (fun e => ?_) (fun e => by rw [c10] at e; cases e)
              · kernel_rfl
              refine TS.seq ?_
              obtain ⟨y_5, hx12, h⟩ := bind_some' h
              have hq : (True) ∧ ((PureC Try.prog 15 [(.int .i64 vn), (.int .i64 (0 : Int)), (.int .i64 (31 : Int))] (.bool y_5) []) ∧ ((True) ∧ (True))) := ⟨trivial, ⟨F15_ok n vn (0 : Int) (31 : Int) y_5 hx12, ⟨trivial, trivial⟩⟩⟩
              refine TS.reg [.none, (.call (.bool y_5) [])] ?_ ?_
              · apply prop_of ?_ hq
                kernel_rfl
              refine XS.then ?_
              refine TS.ret ?_
              refine XS.blockRet ?_
              refine XS.passR ?_
              obtain rfl : y_5 = r := Option.some.inj h
              exact XS.fin [] ((True) ∧ (True)) (by kernel_rfl) ⟨trivial, trivial⟩
            · refine TS.cond x_2 ?_ (fun e => by rw [c11] at e; cases e) (fun e => ?_)
              · kernel_rfl
              refine TS.seq ?_
              have hq : (True) ∧ ((True) ∧ (True)) := ⟨trivial, ⟨trivial, trivial⟩⟩
              refine TS.reg [] ?_ ?_
              · apply prop_of ?_ hq
                kernel_rfl
              refine XS.then ?_
              rcases bif_some h with ⟨c13, h⟩ | ⟨c14, h⟩
              · refine TS.cond (kind == (14 : Int)) ?_ (fun e => ?_) (fun e => by rw [c13] at e; cases e)
                · kernel_rfl
                refine TS.seq ?_
                have hq : (True) ∧ ((True) ∧ ((True) ∧ (True))) := ⟨trivial, ⟨trivial, ⟨trivial, trivial⟩⟩⟩
                refine TS.reg [] ?_ ?_
                · apply prop_of ?_ hq
                  kernel_rfl
                refine XS.then ?_
                refine TS.ret ?_
                refine XS.blockRet ?_
                refine XS.passR ?_
                obtain rfl : (vn == (512 : Int)) = r := Option.some.inj h
                exact XS.fin [] ((True) ∧ (True)) (by kernel_rfl) ⟨trivial, trivial⟩
              · refine TS.cond (kind == (14 : Int)) ?_ (fun e => by rw [c14] at e; cases e) (fun e => ?_)
                · kernel_rfl
                refine TS.skip ?_
                refine XS.blockEnd ?_
                refine XS.then ?_
                refine TS.seq ?_
                have hq : (True) ∧ ((True) ∧ ((True) ∧ (True))) := ⟨trivial, ⟨trivial, ⟨trivial, trivial⟩⟩⟩
                refine TS.reg [] ?_ ?_
                · apply prop_of ?_ hq
                  kernel_rfl
                refine XS.then ?_
                refine TS.ret ?_
                obtain rfl : (vn == (0 : Int)) = r := Option.some.inj h
                exact XS.fin [] ((True) ∧ (True)) (by kernel_rfl) ⟨trivial, trivial⟩
          · rcases bif_some h with ⟨c15, h⟩ | ⟨c16, h⟩
            · refine TS.cond (kind == (9 : Int)) ?_ (fun e => ?_) (fun e => by rw [c15] at e; cases e)
              · kernel_rfl
              refine TS.skip ?_
              refine XS.reAny [] (mkMask 30 [1, 5, 19]) (kind == (9 : Int)) h ?_
              kernel_rfl
            · refine TS.cond (kind == (9 : Int)) ?_ (fun e => by rw [c16] at e; cases e) (fun e => ?_)
              · kernel_rfl
              have hq : (True) ∧ ((True) ∧ (True)) := ⟨trivial, ⟨trivial, trivial⟩⟩
              refine TS.reg [] ?_ ?_
              · apply prop_of ?_ hq
                kernel_rfl
              refine XS.reAny [] (mkMask 30 [1, 5, 19]) (kind == (10 : Int)) h ?_
              kernel_rfl
    · rcases bif_some h with ⟨c17, h⟩ | ⟨c18, h⟩
      · refine TS.cond (kind == (5 : Int)) ?_ (fun e => ?_) (fun e => by rw [c17] at e; cases e)
        · kernel_rfl
        refine TS.skip ?_
        refine XS.reAny [] (mkMask 30 [1, 5, 10]) (kind == (5 : Int)) h ?_
        kernel_rfl
      · refine TS.cond (kind == (5 : Int)) ?_ (fun e => by rw [c18] at e; cases e) (fun e => ?_)
        · kernel_rfl
        have hq : (True) ∧ ((True) ∧ (True)) := ⟨trivial, ⟨trivial, trivial⟩⟩
        refine TS.reg [] ?_ ?_
        · apply prop_of ?_ hq
          kernel_rfl
        refine XS.reAny [] (mkMask 30 [1, 5, 10]) (kind == (13 : Int)) h ?_
        kernel_rfl

/-! plugtree/plugref.askIndex -/
def F134 (n : Nat) (kind : Int) (vn : Int) : Option Bool := (bif (kind == (2 : Int)) then ((F15 n vn (0 : Int) (15 : Int)).bind fun y_2 => (bif y_2 then (some true) else ((F15 n vn (128 : Int) (143 : Int)).bind fun y_3 => (some y_3)))) else (bif (kind == (3 : Int)) then ((F15 n vn (0 : Int) (15 : Int)).bind fun y_4 => (bif y_4 then (some true) else ((F15 n vn (128 : Int) (143 : Int)).bind fun y_5 => (some y_5)))) else (bif (kind == (5 : Int)) then ((F15 n vn (0 : Int) (65535 : Int)).bind fun y_6 => (some y_6)) else ((F15 n kind (8 : Int) (10 : Int)).bind fun y_7 => (bif y_7 then ((F15 n vn (1 : Int) (15 : Int)).bind fun y_8 => (some y_8)) else ((F15 n kind (11 : Int) (14 : Int)).bind fun y_9 => (bif y_9 then ((F15 n vn (0 : Int) (255 : Int)).bind fun y_10 => (some y_10)) else (some (vn == (0 : Int))))))))))
theorem F134_ok (n : Nat) (kind : Int) (vn : Int) (r : Bool) (h : F134 n kind vn = some r) : PureC Try.prog 134 [(.int .i64 kind), (.int .i64 vn)] (.bool r) [] := by
  refine PureC.mkS Try.func134 rfl rfl ?_
  intro w0 fz0 hfz
  replace h : (bif (kind == (2 : Int)) then ((F15 n vn (0 : Int) (15 : Int)).bind fun y_2 => (bif y_2 then (some true) else ((F15 n vn (128 : Int) (143 : Int)).bind fun y_3 => (some y_3)))) else (bif (kind == (3 : Int)) then ((F15 n vn (0 : Int) (15 : Int)).bind fun y_4 => (bif y_4 then (some true) else ((F15 n vn (128 : Int) (143 : Int)).bind fun y_5 => (some y_5)))) else (bif (kind == (5 : Int)) then ((F15 n vn (0 : Int) (65535 : Int)).bind fun y_6 => (some y_6)) else ((F15 n kind (8 : Int) (10 : Int)).bind fun y_7 => (bif y_7 then ((F15 n vn (1 : Int) (15 : Int)).bind fun y_8 => (some y_8)) else ((F15 n kind (11 : Int) (14 : Int)).bind fun y_9 => (bif y_9 then ((F15 n vn (0 : Int) (255 : Int)).bind fun y_10 => (some y_10)) else (some (vn == (0 : Int)))))))))) = some r := h
  refine TS.seq ?_
  have hq : (True) ∧ (True) := ⟨trivial, trivial⟩
  refine TS.reg [] ?_ ?_
  · apply prop_of ?_ hq
    kernel_rfl
  refine XS.then ?_
  refine TS.seq ?_
  refine TS.block ?_
  refine TS.seq ?_
  rcases bif_some h with ⟨c1, h⟩ | ⟨c2, h⟩
  · have hq : (True) ∧ ((True) ∧ (((True) ∧ (kind == (2 : Int)) = true) ∧ ((True) ∧ ((True) ∧ (True))))) := ⟨trivial, ⟨trivial, ⟨⟨trivial, c1⟩, ⟨trivial, ⟨trivial, trivial⟩⟩⟩⟩⟩
    refine TS.reg [.none, .none, .dec true] ?_ ?_
    · apply prop_of ?_ hq
      kernel_rfl
    refine XS.then ?_
    refine TS.yes ?_ ?_
    · kernel_rfl
    refine TS.seq ?_
    obtain ⟨y_2, hx3, h⟩ := bind_some' h
    rcases bif_some h with ⟨c4, h⟩ | ⟨c5, h⟩
    · have hq : (True) ∧ ((PureC Try.prog 15 [(.int .i64 vn), (.int .i64 (0 : Int)), (.int .i64 (15 : Int))] (.bool y_2) []) ∧ (((True) ∧ y_2 = true) ∧ ((True) ∧ ((True) ∧ (True))))) := ⟨trivial, ⟨F15_ok n vn (0 : Int) (15 : Int) y_2 hx3, ⟨⟨trivial, c4⟩, ⟨trivial, ⟨trivial, trivial⟩⟩⟩⟩⟩
      refine TS.reg [.none, (.call (.bool y_2) []), .dec true] ?_ ?_
      · apply prop_of ?_ hq
        kernel_rfl
      refine XS.then ?_
      refine TS.ret ?_
      refine XS.blockRet ?_
      refine XS.passR ?_
      obtain rfl : true = r := Option.some.inj h
      exact XS.fin [] ((True) ∧ (True)) (by kernel_rfl) ⟨trivial, trivial⟩
    · obtain ⟨y_3, hx6, h⟩ := bind_some' h
      have hq : (True) ∧ ((PureC Try.prog 15 [(.int .i64 vn), (.int .i64 (0 : Int)), (.int .i64 (15 : Int))] (.bool y_2) []) ∧ (((True) ∧ y_2 = false) ∧ ((True) ∧ ((PureC Try.prog 15 [(.int .i64 vn), (.int .i64 (128 : Int)), (.int .i64 (143 : Int))] (.bool y_3) []) ∧ ((True) ∧ ((True) ∧ (True))))))) := ⟨trivial, ⟨F15_ok n vn (0 : Int) (15 : Int) y_2 hx3, ⟨⟨trivial, c5⟩, ⟨trivial, ⟨F15_ok n vn (128 : Int) (143 : Int) y_3 hx6, ⟨trivial, ⟨trivial, trivial⟩⟩⟩⟩⟩⟩⟩
      refine TS.reg [.none, (.call (.bool y_2) []), .dec false, .none, (.call (.bool y_3) [])] ?_ ?_
      · apply prop_of ?_ hq
        kernel_rfl
      refine XS.then ?_
      refine TS.ret ?_
      refine XS.blockRet ?_
      refine XS.passR ?_
      obtain rfl : y_3 = r := Option.some.inj h
      exact XS.fin [] ((True) ∧ (True)) (by kernel_rfl) ⟨trivial, trivial⟩
  · have hq : (True) ∧ ((True) ∧ (((True) ∧ (kind == (2 : Int)) = false) ∧ ((True) ∧ ((True) ∧ ((True) ∧ ((True) ∧ (True))))))) := ⟨trivial, ⟨trivial, ⟨⟨trivial, c2⟩, ⟨trivial, ⟨trivial, ⟨trivial, ⟨trivial, trivial⟩⟩⟩⟩⟩⟩⟩
    refine TS.reg [.none, .none, .dec false] ?_ ?_
    · apply prop_of ?_ hq
      kernel_rfl
    refine XS.then ?_
    rcases bif_some h with ⟨c7, h⟩ | ⟨c8, h⟩
    · refine TS.cond (kind == (3 : Int)) ?_ (fun e => ?_) (fun e => by rw [c7] at e; cases e)
      · kernel_rfl
      refine TS.seq ?_
      obtain ⟨y_4, hx9, h⟩ := bind_some' h
      rcases bif_some h with ⟨c10, h⟩ | ⟨c11, h⟩
      · have hq : (True) ∧ ((PureC Try.prog 15 [(.int .i64 vn), (.int .i64 (0 : Int)), (.int .i64 (15 : Int))] (.bool y_4) []) ∧ (((True) ∧ y_4 = true) ∧ ((True) ∧ ((True) ∧ (True))))) := ⟨trivial, ⟨F15_ok n vn (0 : Int) (15 : Int) y_4 hx9, ⟨⟨trivial, c10⟩, ⟨trivial, ⟨trivial, trivial⟩⟩⟩⟩⟩
        refine TS.reg [.none, (.call (.bool y_4) []), .dec true] ?_ ?_
        · apply prop_of ?_ hq
          kernel_rfl
        refine XS.then ?_
        refine TS.ret ?_
        refine XS.blockRet ?_
        refine XS.passR ?_
        obtain rfl : true = r := Option.some.inj h
        exact XS.fin [] ((True) ∧ (True)) (by kernel_rfl) ⟨trivial, trivial⟩
      · obtain ⟨y_5, hx12, h⟩ := bind_some' h
        have hq : (True) ∧ ((PureC Try.prog 15 [(.int .i64 vn), (.int .i64 (0 : Int)), (.int .i64 (15 : Int))] (.bool y_4) []) ∧ (((True) ∧ y_4 = false) ∧ ((True) ∧ ((PureC Try.prog 15 [(.int .i64 vn), (.int .i64 (128 : Int)), (.int .i64 (143 : Int))] (.bool y_5) []) ∧ ((True) ∧ ((True) ∧ (True))))))) := ⟨trivial, ⟨F15_ok n vn (0 : Int) (15 : Int) y_4 hx9, ⟨⟨trivial, c11⟩, ⟨trivial, ⟨F15_ok n vn (128 : Int) (143 : Int) y_5 hx12, ⟨trivial, ⟨trivial, trivial⟩⟩⟩⟩⟩⟩⟩
        refine TS.reg [.none, (.call (.bool y_4) []), .dec false, .none, (.call (.bool y_5) [])] ?_ ?_
        · apply prop_of ?_ hq
          kernel_rfl
        refine XS.then ?_
        refine TS.ret ?_
        refine XS.blockRet ?_
        refine XS.passR ?_
        obtain rfl : y_5 = r := Option.some.inj h
        exact XS.fin [] ((True) ∧ (True)) (by kernel_rfl) ⟨trivial, trivial⟩
    · refine TS.cond (kind == (3 : Int)) ?_ (fun e => by rw [c8] at e; cases e) (fun e => ?_)
      · kernel_rfl
      refine TS.seq ?_
      have hq : (True) ∧ ((True) ∧ ((True) ∧ (True))) := ⟨trivial, ⟨trivial, ⟨trivial, trivial⟩⟩⟩
      refine TS.reg [] ?_ ?_
      · apply prop_of ?_ hq
        kernel_rfl
      refine XS.then ?_
      rcases bif_some h with ⟨c13, h⟩ | ⟨c14, h⟩
      · refine TS.cond (kind == (5 : Int)) ?_ (fun e => ?_) (fun e => by rw [c13] at e; cases e)
        · kernel_rfl
        refine TS.seq ?_
        obtain ⟨y_6, hx15, h⟩ := bind_some' h
        have hq : (True) ∧ ((PureC Try.prog 15 [(.int .i64 vn), (.int .i64 (0 : Int)), (.int .i64 (65535 : Int))] (.bool y_6) []) ∧ ((True) ∧ (True))) := ⟨trivial, ⟨F15_ok n vn (0 : Int) (65535 : Int) y_6 hx15, ⟨trivial, trivial⟩⟩⟩
        refine TS.reg [.none, (.call (.bool y_6) [])] ?_ ?_
        · apply prop_of ?_ hq
          kernel_rfl
        refine XS.then ?_
        refine TS.ret ?_
        refine XS.blockRet ?_
        refine XS.passR ?_
        obtain rfl : y_6 = r := Option.some.inj h
        exact XS.fin [] ((True) ∧ (True)) (by kernel_rfl) ⟨trivial, trivial⟩
      · refine TS.cond (kind == (5 : Int)) ?_ (fun e => by rw [c14] at e; cases e) (fun e => ?_)
        · kernel_rfl
        refine TS.seq ?_
        obtain ⟨y_7, hx16, h⟩ := bind_some' h
        have hq : (True) ∧ ((PureC Try.prog 15 [(.int .i64 kind), (.int .i64 (8 : Int)), (.int .i64 (10 : Int))] (.bool y_7) []) ∧ ((True) ∧ (True))) := ⟨trivial, ⟨F15_ok n kind (8 : Int) (10 : Int) y_7 hx16, ⟨trivial, trivial⟩⟩⟩
        refine TS.reg [.none, (.call (.bool y_7) [])] ?_ ?_
        · apply prop_of ?_ hq
          kernel_rfl
        refine XS.then ?_
        rcases bif_some h with ⟨c17, h⟩ | ⟨c18, h⟩
        · refine TS.cond y_7 ?_ (fun e => ?_) (fun e => by rw [c17] at e; cases e)
          · kernel_rfl
          refine TS.seq ?_
          obtain ⟨y_8, hx19, h⟩ := bind_some' h
          have hq : (True) ∧ ((PureC Try.prog 15 [(.int .i64 vn), (.int .i64 (1 : Int)), (.int .i64 (15 : Int))] (.bool y_8) []) ∧ ((True) ∧ (True))) := ⟨trivial, ⟨F15_ok n vn (1 : Int) (15 : Int) y_8 hx19, ⟨trivial, trivial⟩⟩⟩
          refine TS.reg [.none, (.call (.bool y_8) [])] ?_ ?_
          · apply prop_of ?_ hq
            kernel_rfl
          refine XS.then ?_
          refine TS.ret ?_
          refine XS.blockRet ?_
          refine XS.passR ?_
          obtain rfl : y_8 = r := Option.some.inj h
          exact XS.fin [] ((True) ∧ (True)) (by kernel_rfl) ⟨trivial, trivial⟩
        · refine TS.cond y_7 ?_ (fun e => by rw [c18] at e; cases e) (fun e => ?_)
          · kernel_rfl
          refine TS.seq ?_
          obtain ⟨y_9, hx20, h⟩ := bind_some' h
          have hq : (True) ∧ ((PureC Try.prog 15 [(.int .i64 kind), (.int .i64 (11 : Int)), (.int .i64 (14 : Int))] (.bool y_9) []) ∧ ((True) ∧ (True))) := ⟨trivial, ⟨F15_ok n kind (11 : Int) (14 : Int) y_9 hx20, ⟨trivial, trivial⟩⟩⟩
          refine TS.reg [.none, (.call (.bool y_9) [])] ?_ ?_
          · apply prop_of ?_ hq
            kernel_rfl
          refine XS.then ?_
          rcases bif_some h with ⟨c21, h⟩ | ⟨c22, h⟩
          · refine TS.cond y_9 ?_ (fun e => ?_) (fun e => by rw [c21] at e; cases e)
            · kernel_rfl
            refine TS.seq ?_
            obtain ⟨y_10, hx23, h⟩ := bind_some' h
            have hq : (True) ∧ ((PureC Try.prog 15 [(.int .i64 vn), (.int .i64 (0 : Int)), (.int .i64 (255 : Int))] (.bool y_10) []) ∧ ((True) ∧ (True))) := ⟨trivial, ⟨F15_ok n vn (0 : Int) (255 : Int) y_10 hx23, ⟨trivial, trivial⟩⟩⟩
            refine TS.reg [.none, (.call (.bool y_10) [])] ?_ ?_
            · apply prop_of ?_ hq
              kernel_rfl
            refine XS.then ?_
            refine TS.ret ?_
            refine XS.blockRet ?_
            refine XS.passR ?_
            obtain rfl : y_10 = r := Option.some.inj h
            exact XS.fin [] ((True) ∧ (True)) (by kernel_rfl) ⟨trivial, trivial⟩
          · refine TS.cond y_9 ?_ (fun e => by rw [c22] at e; cases e) (fun e => ?_)
            · kernel_rfl
            refine TS.skip ?_
            refine XS.blockEnd ?_
            refine XS.then ?_
            refine TS.seq ?_
            have hq : (True) ∧ ((True) ∧ ((True) ∧ (True))) := ⟨trivial, ⟨trivial, ⟨trivial, trivial⟩⟩⟩
            refine TS.reg [] ?_ ?_
            · apply prop_of ?_ hq
              kernel_rfl
            refine XS.then ?_
            refine TS.ret ?_
            obtain rfl : (vn == (0 : Int)) = r := Option.some.inj h
            exact XS.fin [] ((True) ∧ (True)) (by kernel_rfl) ⟨trivial, trivial⟩

/-! plugtree/plugref.askLength -/
def F135 (n : Nat) (kind : Int) (vn : Int) : Option Bool := (bif (kind == (5 : Int)) then ((F15 n vn (0 : Int) (65535 : Int)).bind fun y_2 => (some y_2)) else ((F15 n kind (1 : Int) (14 : Int)).bind fun y_3 => (bif y_3 then (bif inb (IntKind.wrap .i64 (kind - (1 : Int))) (([2, 0, 0, 0, 0, 0, 1, 4, 0, 0, 0, 1, 0, 1] : List UInt8).length) then (some (vn == (IntKind.wrap .i64 ((((([2, 0, 0, 0, 0, 0, 1, 4, 0, 0, 0, 1, 0, 1] : List UInt8).getD ((IntKind.wrap .i64 (kind - (1 : Int))).toNat) 0).toNat : Nat) : Int))))) else none) else (some false))))
theorem F135_ok (n : Nat) (kind : Int) (vn : Int) (r : Bool) (h : F135 n kind vn = some r) : PureC Try.prog 135 [(.int .i64 kind), (.int .i64 vn)] (.bool r) [] := by
  refine PureC.mkS Try.func135 rfl rfl ?_
  intro w0 fz0 hfz
  replace h : (bif (kind == (5 : Int)) then ((F15 n vn (0 : Int) (65535 : Int)).bind fun y_2 => (some y_2)) else ((F15 n kind (1 : Int) (14 : Int)).bind fun y_3 => (bif y_3 then (bif inb (IntKind.wrap .i64 (kind - (1 : Int))) (([2, 0, 0, 0, 0, 0, 1, 4, 0, 0, 0, 1, 0, 1] : List UInt8).length) then (some (vn == (IntKind.wrap .i64 ((((([2, 0, 0, 0, 0, 0, 1, 4, 0, 0, 0, 1, 0, 1] : List UInt8).getD ((IntKind.wrap .i64 (kind - (1 : Int))).toNat) 0).toNat : Nat) : Int))))) else none) else (some false)))) = some r := h
  refine TS.seq ?_
  have hq : (True) ∧ (True) := ⟨trivial, trivial⟩
  refine TS.reg [] ?_ ?_
  · apply prop_of ?_ hq
    kernel_rfl
  refine XS.then ?_
  refine TS.seq ?_
  refine TS.seq ?_
  have hq : (True) ∧ ((True) ∧ (True)) := ⟨trivial, ⟨trivial, trivial⟩⟩
  refine TS.reg [] ?_ ?_
  · apply prop_of ?_ hq
    kernel_rfl
  refine XS.then ?_
  rcases bif_some h with ⟨c1, h⟩ | ⟨c2, h⟩
  · refine TS.cond (kind == (5 : Int)) ?_ (fun e => ?_) (fun e => by rw [c1] at e; cases e)
    · kernel_rfl
    refine TS.seq ?_
    obtain ⟨y_2, hx3, h⟩ := bind_some' h
    have hq : (True) ∧ ((PureC Try.prog 15 [(.int .i64 vn), (.int .i64 (0 : Int)), (.int .i64 (65535 : Int))] (.bool y_2) []) ∧ ((True) ∧ (True))) := ⟨trivial, ⟨F15_ok n vn (0 : Int) (65535 : Int) y_2 hx3, ⟨trivial, trivial⟩⟩⟩
    refine TS.reg [.none, (.call (.bool y_2) [])] ?_ ?_
    · apply prop_of ?_ hq
      kernel_rfl
    refine XS.then ?_
    refine TS.ret ?_
    refine XS.passR ?_
    obtain rfl : y_2 = r := Option.some.inj h
    exact XS.fin [] ((True) ∧ (True)) (by kernel_rfl) ⟨trivial, trivial⟩
  · refine TS.cond (kind == (5 : Int)) ?_ (fun e => by rw [c2] at e; cases e) (fun e => ?_)
    · kernel_rfl
    refine TS.skip ?_
    refine XS.then ?_
    refine TS.seq ?_
    obtain ⟨y_3, hx4, h⟩ := bind_some' h
    rcases bif_some h with ⟨c5, h⟩ | ⟨c6, h⟩
    · obtain ⟨t7, h⟩ := test_some h
      have hq : (True) ∧ ((PureC Try.prog 15 [(.int .i64 kind), (.int .i64 (1 : Int)), (.int .i64 (14 : Int))] (.bool y_3) []) ∧ (((True) ∧ y_3 = true) ∧ ((True) ∧ ((True) ∧ ((True) ∧ ((inR (IntKind.wrap .i64 (kind - (1 : Int))) (([2, 0, 0, 0, 0, 0, 1, 4, 0, 0, 0, 1, 0, 1] : List UInt8).length)) ∧ ((True) ∧ ((True) ∧ ((True) ∧ ((True) ∧ (True))))))))))) := ⟨trivial, ⟨F15_ok n kind (1 : Int) (14 : Int) y_3 hx4, ⟨⟨trivial, c5⟩, ⟨trivial, ⟨trivial, ⟨trivial, ⟨inb_ok t7, ⟨trivial, ⟨trivial, ⟨trivial, ⟨trivial, trivial⟩⟩⟩⟩⟩⟩⟩⟩⟩⟩⟩
      refine TS.reg [.none, (.call (.bool y_3) []), .dec true] ?_ ?_
      · apply prop_of ?_ hq
        kernel_rfl
      refine XS.then ?_
      refine TS.ret ?_
      obtain rfl : (vn == (IntKind.wrap .i64 ((((([2, 0, 0, 0, 0, 0, 1, 4, 0, 0, 0, 1, 0, 1] : List UInt8).getD ((IntKind.wrap .i64 (kind - (1 : Int))).toNat) 0).toNat : Nat) : Int)))) = r := Option.some.inj h
      exact XS.fin [] ((True) ∧ (True)) (by kernel_rfl) ⟨trivial, trivial⟩
    · have hq : (True) ∧ ((PureC Try.prog 15 [(.int .i64 kind), (.int .i64 (1 : Int)), (.int .i64 (14 : Int))] (.bool y_3) []) ∧ (((True) ∧ y_3 = false) ∧ ((True) ∧ ((True) ∧ (True))))) := ⟨trivial, ⟨F15_ok n kind (1 : Int) (14 : Int) y_3 hx4, ⟨⟨trivial, c6⟩, ⟨trivial, ⟨trivial, trivial⟩⟩⟩⟩⟩
      refine TS.reg [.none, (.call (.bool y_3) []), .dec false] ?_ ?_
      · apply prop_of ?_ hq
        kernel_rfl
      refine XS.then ?_
      refine TS.ret ?_
      obtain rfl : false = r := Option.some.inj h
      exact XS.fin [] ((True) ∧ (True)) (by kernel_rfl) ⟨trivial, trivial⟩

/-! plugtree/plugref.TwoBytes -/
def F65 (n : Nat) (vn : Int) : Option (List UInt8) := (some (strOf [(IntKind.wrap .u8 ((vn.tmod (256 : Int)))), (IntKind.wrap .u8 (((IntKind.wrap .i64 (vn.tdiv (256 : Int))).tmod (256 : Int))))]))
theorem F65_ok (n : Nat) (vn : Int) (r : List UInt8) (h : F65 n vn = some r) : PureC Try.prog 65 [(.int .i64 vn)] (.str r) [] := by
  refine PureC.mkS Try.func65 rfl rfl ?_
  intro w0 fz0 hfz
  replace h : (some (strOf [(IntKind.wrap .u8 ((vn.tmod (256 : Int)))), (IntKind.wrap .u8 (((IntKind.wrap .i64 (vn.tdiv (256 : Int))).tmod (256 : Int))))])) = some r := h
  refine TS.seq ?_
  have hq : (True) ∧ (True) := ⟨trivial, trivial⟩
  refine TS.reg [] ?_ ?_
  · apply prop_of ?_ hq
    kernel_rfl
  refine XS.then ?_
  refine TS.seq ?_
  have hq : (True) ∧ (((256 : Int) ≠ 0) ∧ ((True) ∧ ((True) ∧ (((256 : Int) ≠ 0) ∧ (((256 : Int) ≠ 0) ∧ ((True) ∧ (((0 < 2 ∧ True) ∧ ((1 < 2 ∧ True) ∧ (True))) ∧ ((True) ∧ ((True) ∧ (True)))))))))) := ⟨trivial, ⟨by decide, ⟨trivial, ⟨trivial, ⟨by decide, ⟨by decide, ⟨trivial, ⟨⟨⟨by decide, trivial⟩, ⟨⟨by decide, trivial⟩, trivial⟩⟩, ⟨trivial, ⟨trivial, trivial⟩⟩⟩⟩⟩⟩⟩⟩⟩⟩
  refine TS.reg [] ?_ ?_
  · apply prop_of ?_ hq
    kernel_rfl
  refine XS.then ?_
  refine TS.ret ?_
  obtain rfl : (strOf [(IntKind.wrap .u8 ((vn.tmod (256 : Int)))), (IntKind.wrap .u8 (((IntKind.wrap .i64 (vn.tdiv (256 : Int))).tmod (256 : Int))))]) = r := Option.some.inj h
  exact XS.fin [] ((True) ∧ (True)) (by kernel_rfl) ⟨trivial, trivial⟩

/-! plugtree/plugref.AskText -/
def F57_j2 (n : Nat) (a_Kind : Int) (a_Value : Int) (a_Index : Int) (a_Length : Int) : Bool → Option ((List UInt8) × Int)
  | x => (bif x then (some (([] : List UInt8), (1 : Int))) else (bif subB (([128, 0, 2, 1, 2, 3, 0, 5, 128, 6, 0, 9, 128, 8, 163, 0, 35, 3, 35, 1, 33, 255, 161, 254, 33, 10, 33, 9] : List UInt8).length) (some (IntKind.wrap .i64 ((IntKind.wrap .i64 ((2 : Int) * a_Kind)) - (2 : Int)))) (some (IntKind.wrap .i64 ((2 : Int) * a_Kind))) then ((F65 n a_Value).bind fun y_3 => (bif (decide (((([128, 0, 2, 1, 2, 3, 0, 5, 128, 6, 0, 9, 128, 8, 163, 0, 35, 3, 35, 1, 33, 255, 161, 254, 33, 10, 33, 9] : List UInt8).take (IntKind.wrap .i64 ((2 : Int) * a_Kind)).toNat).drop (IntKind.wrap .i64 ((IntKind.wrap .i64 ((2 : Int) * a_Kind)) - (2 : Int))).toNat).length + y_3.length ≤ 9223372036854775807)) then ((F65 n a_Index).bind fun y_4 => (bif (decide ((((([128, 0, 2, 1, 2, 3, 0, 5, 128, 6, 0, 9, 128, 8, 163, 0, 35, 3, 35, 1, 33, 255, 161, 254, 33, 10, 33, 9] : List UInt8).take (IntKind.wrap .i64 ((2 : Int) * a_Kind)).toNat).drop (IntKind.wrap .i64 ((IntKind.wrap .i64 ((2 : Int) * a_Kind)) - (2 : Int))).toNat) ++ y_3).length + y_4.length ≤ 9223372036854775807)) then ((F65 n a_Length).bind fun y_5 => (bif (decide (((((([128, 0, 2, 1, 2, 3, 0, 5, 128, 6, 0, 9, 128, 8, 163, 0, 35, 3, 35, 1, 33, 255, 161, 254, 33, 10, 33, 9] : List UInt8).take (IntKind.wrap .i64 ((2 : Int) * a_Kind)).toNat).drop (IntKind.wrap .i64 ((IntKind.wrap .i64 ((2 : Int) * a_Kind)) - (2 : Int))).toNat) ++ y_3) ++ y_4).length + y_5.length ≤ 9223372036854775807)) then (some ((((((([128, 0, 2, 1, 2, 3, 0, 5, 128, 6, 0, 9, 128, 8, 163, 0, 35, 3, 35, 1, 33, 255, 161, 254, 33, 10, 33, 9] : List UInt8).take (IntKind.wrap .i64 ((2 : Int) * a_Kind)).toNat).drop (IntKind.wrap .i64 ((IntKind.wrap .i64 ((2 : Int) * a_Kind)) - (2 : Int))).toNat) ++ y_3) ++ y_4) ++ y_5), (0 : Int))) else none)) else none)) else none)) else none))
def F57 (n : Nat) (a_Kind : Int) (a_Value : Int) (a_Index : Int) (a_Length : Int) : Option ((List UInt8) × Int) := ((F15 n a_Kind (1 : Int) (14 : Int)).bind fun y_6 => (bif (!y_6) then (F57_j2 n a_Kind a_Value a_Index a_Length true) else ((F133 n a_Kind a_Value).bind fun y_7 => (bif (!y_7) then (F57_j2 n a_Kind a_Value a_Index a_Length true) else ((F134 n a_Kind a_Index).bind fun y_8 => (bif (!y_8) then (F57_j2 n a_Kind a_Value a_Index a_Length true) else ((F135 n a_Kind a_Length).bind fun y_9 => (F57_j2 n a_Kind a_Value a_Index a_Length (!y_9)))))))))
theorem F57_ok (n : Nat) (a_Kind : Int) (a_Value : Int) (a_Index : Int) (a_Length : Int) (r : (List UInt8) × Int) (h : F57 n a_Kind a_Value a_Index a_Length = some r) : PureC Try.prog 57 [(.st (.cons (.int .i64 a_Kind) (.cons (.int .i64 a_Value) (.cons (.int .i64 a_Index) (.int .i64 a_Length)))))] (.tup (.cons (.str r.1) (.cons (.int .i64 r.2) .nil))) [] := by
  refine PureC.mkS Try.func57 rfl rfl ?_
  intro w0 fz0 hfz
  replace h : ((F15 n a_Kind (1 : Int) (14 : Int)).bind fun y_6 => (bif (!y_6) then (F57_j2 n a_Kind a_Value a_Index a_Length true) else ((F133 n a_Kind a_Value).bind fun y_7 => (bif (!y_7) then (F57_j2 n a_Kind a_Value a_Index a_Length true) else ((F134 n a_Kind a_Index).bind fun y_8 => (bif (!y_8) then (F57_j2 n a_Kind a_Value a_Index a_Length true) else ((F135 n a_Kind a_Length).bind fun y_9 => (F57_j2 n a_Kind a_Value a_Index a_Length (!y_9))))))))) = some r := h
  refine TS.seq ?_
  have hq : (True) ∧ ((True) ∧ ((True) ∧ (True))) := ⟨trivial, ⟨trivial, ⟨trivial, trivial⟩⟩⟩
  refine TS.reg [] ?_ ?_
  · apply prop_of ?_ hq
    kernel_rfl
  refine XS.then ?_
  refine TS.seq ?_
  refine TS.seq ?_
  refine TS.cut (D := Bool) (fun d => match d with | x => (mkTs 52 [(1, (.ptr 0 [])), (31, (.bool x))], [(.box 101 (.st (.cons (.int .i64 a_Kind) (.cons (.int .i64 a_Value) (.cons (.int .i64 a_Index) (.int .i64 a_Length))))))])) (fun d => F57_j2 n a_Kind a_Value a_Index a_Length d = some r) ?_ ?_
  · rintro x h
    replace h : (bif x then (some (([] : List UInt8), (1 : Int))) else (bif subB (([128, 0, 2, 1, 2, 3, 0, 5, 128, 6, 0, 9, 128, 8, 163, 0, 35, 3, 35, 1, 33, 255, 161, 254, 33, 10, 33, 9] : List UInt8).length) (some (IntKind.wrap .i64 ((IntKind.wrap .i64 ((2 : Int) * a_Kind)) - (2 : Int)))) (some (IntKind.wrap .i64 ((2 : Int) * a_Kind))) then ((F65 n a_Value).bind fun y_3 => (bif (decide (((([128, 0, 2, 1, 2, 3, 0, 5, 128, 6, 0, 9, 128, 8, 163, 0, 35, 3, 35, 1, 33, 255, 161, 254, 33, 10, 33, 9] : List UInt8).take (IntKind.wrap .i64 ((2 : Int) * a_Kind)).toNat).drop (IntKind.wrap .i64 ((IntKind.wrap .i64 ((2 : Int) * a_Kind)) - (2 : Int))).toNat).length + y_3.length ≤ 9223372036854775807)) then ((F65 n a_Index).bind fun y_4 => (bif (decide ((((([128, 0, 2, 1, 2, 3, 0, 5, 128, 6, 0, 9, 128, 8, 163, 0, 35, 3, 35, 1, 33, 255, 161, 254, 33, 10, 33, 9] : List UInt8).take (IntKind.wrap .i64 ((2 : Int) * a_Kind)).toNat).drop (IntKind.wrap .i64 ((IntKind.wrap .i64 ((2 : Int) * a_Kind)) - (2 : Int))).toNat) ++ y_3).length + y_4.length ≤ 9223372036854775807)) then ((F65 n a_Length).bind fun y_5 => (bif (decide (((((([128, 0, 2, 1, 2, 3, 0, 5, 128, 6, 0, 9, 128, 8, 163, 0, 35, 3, 35, 1, 33, 255, 161, 254, 33, 10, 33, 9] : List UInt8).take (IntKind.wrap .i64 ((2 : Int) * a_Kind)).toNat).drop (IntKind.wrap .i64 ((IntKind.wrap .i64 ((2 : Int) * a_Kind)) - (2 : Int))).toNat) ++ y_3) ++ y_4).length + y_5.length ≤ 9223372036854775807)) then (some ((((((([128, 0, 2, 1, 2, 3, 0, 5, 128, 6, 0, 9, 128, 8, 163, 0, 35, 3, 35, 1, 33, 255, 161, 254, 33, 10, 33, 9] : List UInt8).take (IntKind.wrap .i64 ((2 : Int) * a_Kind)).toNat).drop (IntKind.wrap .i64 ((IntKind.wrap .i64 ((2 : Int) * a_Kind)) - (2 : Int))).toNat) ++ y_3) ++ y_4) ++ y_5), (0 : Int))) else none)) else none)) else none)) else none)) = some r := h
    refine XS.then ?_
    rcases bif_some h with ⟨c1, h⟩ | ⟨c2, h⟩
    · refine TS.cond x ?_ (fun e => ?_) (fun e => by rw [c1] at e; cases e)
      · kernel_rfl
      refine TS.seq ?_
      have hq : (True) ∧ ((True) ∧ (True)) := ⟨trivial, ⟨trivial, trivial⟩⟩
      refine TS.reg [] ?_ ?_
      · apply prop_of ?_ hq
        kernel_rfl
      refine XS.then ?_
      refine TS.ret ?_
      refine XS.passR ?_
      obtain rfl : (([] : List UInt8), (1 : Int)) = r := Option.some.inj h
      exact XS.fin [] ((True) ∧ ((True) ∧ (True))) (by kernel_rfl) ⟨trivial, ⟨trivial, trivial⟩⟩
    · refine TS.cond x ?_ (fun e => by rw [c2] at e; cases e) (fun e => ?_)
      · kernel_rfl
      refine TS.skip ?_
      refine XS.then ?_
      refine TS.seq ?_
      obtain ⟨t3, h⟩ := test_some h
      obtain ⟨y_3, hx4, h⟩ := bind_some' h
      obtain ⟨t5, h⟩ := test_some h
      obtain ⟨y_4, hx6, h⟩ := bind_some' h
      obtain ⟨t7, h⟩ := test_some h
      obtain ⟨y_5, hx8, h⟩ := bind_some' h
      obtain ⟨t9, h⟩ := test_some h
      have hq : ((True) ∧ ((True) ∧ ((True) ∧ ((True) ∧ ((True) ∧ ((True) ∧ ((True) ∧ ((subC ([128, 0, 2, 1, 2, 3, 0, 5, 128, 6, 0, 9, 128, 8, 163, 0, 35, 3, 35, 1, 33, 255, 161, 254, 33, 10, 33, 9] : List UInt8).length (some (IntKind.wrap .i64 ((IntKind.wrap .i64 ((2 : Int) * a_Kind)) - (2 : Int)))) (some (IntKind.wrap .i64 ((2 : Int) * a_Kind)))) ∧ ((True) ∧ ((True) ∧ ((PureC Try.prog 65 [(.int .i64 a_Value)] (.str y_3) []) ∧ ((((([128, 0, 2, 1, 2, 3, 0, 5, 128, 6, 0, 9, 128, 8, 163, 0, 35, 3, 35, 1, 33, 255, 161, 254, 33, 10, 33, 9] : List UInt8).take (IntKind.wrap .i64 ((2 : Int) * a_Kind)).toNat).drop (IntKind.wrap .i64 ((IntKind.wrap .i64 ((2 : Int) * a_Kind)) - (2 : Int))).toNat).length + y_3.length ≤ 9223372036854775807) ∧ ((True) ∧ ((True) ∧ ((PureC Try.prog 65 [(.int .i64 a_Index)] (.str y_4) []) ∧ (((((([128, 0, 2, 1, 2, 3, 0, 5, 128, 6, 0, 9, 128, 8, 163, 0, 35, 3, 35, 1, 33, 255, 161, 254, 33, 10, 33, 9] : List UInt8).take (IntKind.wrap .i64 ((2 : Int) * a_Kind)).toNat).drop (IntKind.wrap .i64 ((IntKind.wrap .i64 ((2 : Int) * a_Kind)) - (2 : Int))).toNat) ++ y_3).length + y_4.length ≤ 9223372036854775807) ∧ ((True) ∧ ((True) ∧ ((PureC Try.prog 65 [(.int .i64 a_Length)] (.str y_5) []) ∧ ((((((([128, 0, 2, 1, 2, 3, 0, 5, 128, 6, 0, 9, 128, 8, 163, 0, 35, 3, 35, 1, 33, 255, 161, 254, 33, 10, 33, 9] : List UInt8).take (IntKind.wrap .i64 ((2 : Int) * a_Kind)).toNat).drop (IntKind.wrap .i64 ((IntKind.wrap .i64 ((2 : Int) * a_Kind)) - (2 : Int))).toNat) ++ y_3) ++ y_4).length + y_5.length ≤ 9223372036854775807) ∧ (True))))))))))))))))))))) ∧ ((True) ∧ ((True) ∧ (True))) := ⟨⟨trivial, ⟨trivial, ⟨trivial, ⟨trivial, ⟨trivial, ⟨trivial, ⟨trivial, ⟨subB_ok t3, ⟨trivial, ⟨trivial, ⟨F65_ok n a_Value y_3 hx4, ⟨of_decide_eq_true t5, ⟨trivial, ⟨trivial, ⟨F65_ok n a_Index y_4 hx6, ⟨of_decide_eq_true t7, ⟨trivial, ⟨trivial, ⟨F65_ok n a_Length y_5 hx8, ⟨of_decide_eq_true t9, trivial⟩⟩⟩⟩⟩⟩⟩⟩⟩⟩⟩⟩⟩⟩⟩⟩⟩⟩⟩⟩, ⟨trivial, ⟨trivial, trivial⟩⟩⟩
      refine TS.draw 20 [] [.none, .none, .none, .none, .none, .none, .none, .none, .none, .none, (.call (.str y_3) []), .none, .none, .none, (.call (.str y_4) []), .none, .none, .none, (.call (.str y_5) [])] (by kernel_rfl) ?_ ?_
      · apply prop_of ?_ hq
        kernel_rfl
      refine XS.then ?_
      refine TS.ret ?_
      obtain rfl : ((((((([128, 0, 2, 1, 2, 3, 0, 5, 128, 6, 0, 9, 128, 8, 163, 0, 35, 3, 35, 1, 33, 255, 161, 254, 33, 10, 33, 9] : List UInt8).take (IntKind.wrap .i64 ((2 : Int) * a_Kind)).toNat).drop (IntKind.wrap .i64 ((IntKind.wrap .i64 ((2 : Int) * a_Kind)) - (2 : Int))).toNat) ++ y_3) ++ y_4) ++ y_5), (0 : Int)) = r := Option.some.inj h
      exact XS.fin [] ((True) ∧ ((True) ∧ (True))) (by kernel_rfl) ⟨trivial, ⟨trivial, trivial⟩⟩
  · obtain ⟨y_6, hx10, h⟩ := bind_some' h
    rcases bif_some h with ⟨c11, h⟩ | ⟨c12, h⟩
    · have hq : (True) ∧ ((True) ∧ ((PureC Try.prog 15 [(.int .i64 a_Kind), (.int .i64 (1 : Int)), (.int .i64 (14 : Int))] (.bool y_6) []) ∧ ((True) ∧ (((True) ∧ (!y_6) = true) ∧ ((True) ∧ ((True) ∧ ((True) ∧ ((True) ∧ ((True) ∧ (True)))))))))) := ⟨trivial, ⟨trivial, ⟨F15_ok n a_Kind (1 : Int) (14 : Int) y_6 hx10, ⟨trivial, ⟨⟨trivial, c11⟩, ⟨trivial, ⟨trivial, ⟨trivial, ⟨trivial, ⟨trivial, trivial⟩⟩⟩⟩⟩⟩⟩⟩⟩⟩
      refine TS.reg [.none, .none, (.call (.bool y_6) []), .none, .dec true] ?_ ?_
      · apply prop_of ?_ hq
        kernel_rfl
      refine XS.reAny [0] (mkMask 52 [1, 31]) true h ?_
      kernel_rfl
    · obtain ⟨y_7, hx13, h⟩ := bind_some' h
      rcases bif_some h with ⟨c14, h⟩ | ⟨c15, h⟩
      · have hq : (True) ∧ ((True) ∧ ((PureC Try.prog 15 [(.int .i64 a_Kind), (.int .i64 (1 : Int)), (.int .i64 (14 : Int))] (.bool y_6) []) ∧ ((True) ∧ (((True) ∧ (!y_6) = false) ∧ ((True) ∧ ((True) ∧ ((True) ∧ ((True) ∧ ((PureC Try.prog 133 [(.int .i64 a_Kind), (.int .i64 a_Value)] (.bool y_7) []) ∧ ((True) ∧ ((True) ∧ (((True) ∧ (!y_7) = true) ∧ ((True) ∧ ((True) ∧ ((True) ∧ (True)))))))))))))))) := ⟨trivial, ⟨trivial, ⟨F15_ok n a_Kind (1 : Int) (14 : Int) y_6 hx10, ⟨trivial, ⟨⟨trivial, c12⟩, ⟨trivial, ⟨trivial, ⟨trivial, ⟨trivial, ⟨F133_ok n a_Kind a_Value y_7 hx13, ⟨trivial, ⟨trivial, ⟨⟨trivial, c14⟩, ⟨trivial, ⟨trivial, ⟨trivial, trivial⟩⟩⟩⟩⟩⟩⟩⟩⟩⟩⟩⟩⟩⟩⟩⟩
        refine TS.reg [.none, .none, (.call (.bool y_6) []), .none, .dec false, .none, .none, .none, .none, (.call (.bool y_7) []), .none, .none, .dec true] ?_ ?_
        · apply prop_of ?_ hq
          kernel_rfl
        refine XS.reAny [0] (mkMask 52 [1, 31]) true h ?_
        kernel_rfl
      · obtain ⟨y_8, hx16, h⟩ := bind_some' h
        rcases bif_some h with ⟨c17, h⟩ | ⟨c18, h⟩
        · have hq : (True) ∧ ((True) ∧ ((PureC Try.prog 15 [(.int .i64 a_Kind), (.int .i64 (1 : Int)), (.int .i64 (14 : Int))] (.bool y_6) []) ∧ ((True) ∧ (((True) ∧ (!y_6) = false) ∧ ((True) ∧ ((True) ∧ ((True) ∧ ((True) ∧ ((PureC Try.prog 133 [(.int .i64 a_Kind), (.int .i64 a_Value)] (.bool y_7) []) ∧ ((True) ∧ ((True) ∧ (((True) ∧ (!y_7) = false) ∧ ((True) ∧ ((True) ∧ ((True) ∧ ((True) ∧ ((PureC Try.prog 134 [(.int .i64 a_Kind), (.int .i64 a_Index)] (.bool y_8) []) ∧ ((True) ∧ ((True) ∧ (((True) ∧ (!y_8) = true) ∧ ((True) ∧ (True)))))))))))))))))))))) := ⟨trivial, ⟨trivial, ⟨F15_ok n a_Kind (1 : Int) (14 : Int) y_6 hx10, ⟨trivial, ⟨⟨trivial, c12⟩, ⟨trivial, ⟨trivial, ⟨trivial, ⟨trivial, ⟨F133_ok n a_Kind a_Value y_7 hx13, ⟨trivial, ⟨trivial, ⟨⟨trivial, c15⟩, ⟨trivial, ⟨trivial, ⟨trivial, ⟨trivial, ⟨F134_ok n a_Kind a_Index y_8 hx16, ⟨trivial, ⟨trivial, ⟨⟨trivial, c17⟩, ⟨trivial, trivial⟩⟩⟩⟩⟩⟩⟩⟩⟩⟩⟩⟩⟩⟩⟩⟩⟩⟩⟩⟩⟩⟩
          refine TS.reg [.none, .none, (.call (.bool y_6) []), .none, .dec false, .none, .none, .none, .none, (.call (.bool y_7) []), .none, .none, .dec false, .none, .none, .none, .none, (.call (.bool y_8) []), .none, .none, .dec true] ?_ ?_
          · apply prop_of ?_ hq
            kernel_rfl
          refine XS.reAny [0] (mkMask 52 [1, 31]) true h ?_
          kernel_rfl
        · obtain ⟨y_9, hx19, h⟩ := bind_some' h
          have hq : (True) ∧ ((True) ∧ ((PureC Try.prog 15 [(.int .i64 a_Kind), (.int .i64 (1 : Int)), (.int .i64 (14 : Int))] (.bool y_6) []) ∧ ((True) ∧ (((True) ∧ (!y_6) = false) ∧ ((True) ∧ ((True) ∧ ((True) ∧ ((True) ∧ ((PureC Try.prog 133 [(.int .i64 a_Kind), (.int .i64 a_Value)] (.bool y_7) []) ∧ ((True) ∧ ((True) ∧ (((True) ∧ (!y_7) = false) ∧ ((True) ∧ ((True) ∧ ((True) ∧ ((True) ∧ ((PureC Try.prog 134 [(.int .i64 a_Kind), (.int .i64 a_Index)] (.bool y_8) []) ∧ ((True) ∧ ((True) ∧ (((True) ∧ (!y_8) = false) ∧ ((True) ∧ ((True) ∧ ((True) ∧ ((True) ∧ ((PureC Try.prog 135 [(.int .i64 a_Kind), (.int .i64 a_Length)] (.bool y_9) []) ∧ ((True) ∧ ((True) ∧ (True)))))))))))))))))))))))))))) := ⟨trivial, ⟨trivial, ⟨F15_ok n a_Kind (1 : Int) (14 : Int) y_6 hx10, ⟨trivial, ⟨⟨trivial, c12⟩, ⟨trivial, ⟨trivial, ⟨trivial, ⟨trivial, ⟨F133_ok n a_Kind a_Value y_7 hx13, ⟨trivial, ⟨trivial, ⟨⟨trivial, c15⟩, ⟨trivial, ⟨trivial, ⟨trivial, ⟨trivial, ⟨F134_ok n a_Kind a_Index y_8 hx16, ⟨trivial, ⟨trivial, ⟨⟨trivial, c18⟩, ⟨trivial, ⟨trivial, ⟨trivial, ⟨trivial, ⟨F135_ok n a_Kind a_Length y_9 hx19, ⟨trivial, ⟨trivial, trivial⟩⟩⟩⟩⟩⟩⟩⟩⟩⟩⟩⟩⟩⟩⟩⟩⟩⟩⟩⟩⟩⟩⟩⟩⟩⟩⟩⟩
          refine TS.reg [.none, .none, (.call (.bool y_6) []), .none, .dec false, .none, .none, .none, .none, (.call (.bool y_7) []), .none, .none, .dec false, .none, .none, .none, .none, (.call (.bool y_8) []), .none, .none, .dec false, .none, .none, .none, .none, (.call (.bool y_9) [])] ?_ ?_
          · apply prop_of ?_ hq
            kernel_rfl
          refine XS.reAny [0] (mkMask 52 [1, 31]) (!y_9) h ?_
          kernel_rfl

/-! plugtree/plugref.AskAt -/
def F18 (n : Nat) (g_Step : Int) (g_Tries : Int) (g_Addr : Int) (g_Max0 : Int) (g_Total : Int) (g_Device_Usb : Int) (g_Device_Class : Int) (g_Device_Sub : Int) (g_Device_Proto : Int) (g_Device_Max0 : Int) (g_Device_Vendor : Int) (g_Device_Product : Int) (g_Device_Release : Int) (g_Device_Maker : Int) (g_Device_Name : Int) (g_Device_Serial : Int) (g_Device_Configs : Int) (g_Config_Value : Int) (g_Config_Name : Int) (g_Config_Attr : Int) (g_Config_Power : Int) (g_Config_Faces : List (Int × Int × Int × Int × (List (List UInt8)) × List (Int × Bool × Int × Int × Int))) (g_Serial : List UInt8) (g_Err : Int) : Option ((List UInt8) × Bool) := (bif (decide (g_Step ≥ (([((0 : Int), ((0 : Int), ((0 : Int), (0 : Int)))), ((5 : Int), ((256 : Int), ((0 : Int), (8 : Int)))), ((4 : Int), (g_Addr, ((0 : Int), (0 : Int)))), ((5 : Int), ((256 : Int), ((0 : Int), (18 : Int)))), ((5 : Int), ((512 : Int), ((0 : Int), (9 : Int)))), ((5 : Int), ((512 : Int), ((0 : Int), g_Total))), ((5 : Int), ((IntKind.wrap .i64 ((768 : Int) + g_Device_Serial)), ((0 : Int), (255 : Int)))), ((6 : Int), (g_Config_Value, ((0 : Int), (0 : Int))))].length : Nat) : Int))) then (some (([] : List UInt8), false)) else (bif inb g_Step ([((0 : Int), ((0 : Int), ((0 : Int), (0 : Int)))), ((5 : Int), ((256 : Int), ((0 : Int), (8 : Int)))), ((4 : Int), (g_Addr, ((0 : Int), (0 : Int)))), ((5 : Int), ((256 : Int), ((0 : Int), (18 : Int)))), ((5 : Int), ((512 : Int), ((0 : Int), (9 : Int)))), ((5 : Int), ((512 : Int), ((0 : Int), g_Total))), ((5 : Int), ((IntKind.wrap .i64 ((768 : Int) + g_Device_Serial)), ((0 : Int), (255 : Int)))), ((6 : Int), (g_Config_Value, ((0 : Int), (0 : Int))))].length) then ((F57 n (([((0 : Int), ((0 : Int), ((0 : Int), (0 : Int)))), ((5 : Int), ((256 : Int), ((0 : Int), (8 : Int)))), ((4 : Int), (g_Addr, ((0 : Int), (0 : Int)))), ((5 : Int), ((256 : Int), ((0 : Int), (18 : Int)))), ((5 : Int), ((512 : Int), ((0 : Int), (9 : Int)))), ((5 : Int), ((512 : Int), ((0 : Int), g_Total))), ((5 : Int), ((IntKind.wrap .i64 ((768 : Int) + g_Device_Serial)), ((0 : Int), (255 : Int)))), ((6 : Int), (g_Config_Value, ((0 : Int), (0 : Int))))].getD g_Step.toNat ((0 : Int), ((0 : Int), ((0 : Int), (0 : Int))))).1) (([((0 : Int), ((0 : Int), ((0 : Int), (0 : Int)))), ((5 : Int), ((256 : Int), ((0 : Int), (8 : Int)))), ((4 : Int), (g_Addr, ((0 : Int), (0 : Int)))), ((5 : Int), ((256 : Int), ((0 : Int), (18 : Int)))), ((5 : Int), ((512 : Int), ((0 : Int), (9 : Int)))), ((5 : Int), ((512 : Int), ((0 : Int), g_Total))), ((5 : Int), ((IntKind.wrap .i64 ((768 : Int) + g_Device_Serial)), ((0 : Int), (255 : Int)))), ((6 : Int), (g_Config_Value, ((0 : Int), (0 : Int))))].getD g_Step.toNat ((0 : Int), ((0 : Int), ((0 : Int), (0 : Int))))).2.1) (([((0 : Int), ((0 : Int), ((0 : Int), (0 : Int)))), ((5 : Int), ((256 : Int), ((0 : Int), (8 : Int)))), ((4 : Int), (g_Addr, ((0 : Int), (0 : Int)))), ((5 : Int), ((256 : Int), ((0 : Int), (18 : Int)))), ((5 : Int), ((512 : Int), ((0 : Int), (9 : Int)))), ((5 : Int), ((512 : Int), ((0 : Int), g_Total))), ((5 : Int), ((IntKind.wrap .i64 ((768 : Int) + g_Device_Serial)), ((0 : Int), (255 : Int)))), ((6 : Int), (g_Config_Value, ((0 : Int), (0 : Int))))].getD g_Step.toNat ((0 : Int), ((0 : Int), ((0 : Int), (0 : Int))))).2.2.1) (([((0 : Int), ((0 : Int), ((0 : Int), (0 : Int)))), ((5 : Int), ((256 : Int), ((0 : Int), (8 : Int)))), ((4 : Int), (g_Addr, ((0 : Int), (0 : Int)))), ((5 : Int), ((256 : Int), ((0 : Int), (18 : Int)))), ((5 : Int), ((512 : Int), ((0 : Int), (9 : Int)))), ((5 : Int), ((512 : Int), ((0 : Int), g_Total))), ((5 : Int), ((IntKind.wrap .i64 ((768 : Int) + g_Device_Serial)), ((0 : Int), (255 : Int)))), ((6 : Int), (g_Config_Value, ((0 : Int), (0 : Int))))].getD g_Step.toNat ((0 : Int), ((0 : Int), ((0 : Int), (0 : Int))))).2.2.2)).bind fun y_3 => (some (y_3.1, true))) else none))
theorem F18_ok (n : Nat) (g_Step : Int) (g_Tries : Int) (g_Addr : Int) (g_Max0 : Int) (g_Total : Int) (g_Device_Usb : Int) (g_Device_Class : Int) (g_Device_Sub : Int) (g_Device_Proto : Int) (g_Device_Max0 : Int) (g_Device_Vendor : Int) (g_Device_Product : Int) (g_Device_Release : Int) (g_Device_Maker : Int) (g_Device_Name : Int) (g_Device_Serial : Int) (g_Device_Configs : Int) (g_Config_Value : Int) (g_Config_Name : Int) (g_Config_Attr : Int) (g_Config_Power : Int) (g_Config_Faces : List (Int × Int × Int × Int × (List (List UInt8)) × List (Int × Bool × Int × Int × Int))) (g_Serial : List UInt8) (g_Err : Int) (r : (List UInt8) × Bool) (h : F18 n g_Step g_Tries g_Addr g_Max0 g_Total g_Device_Usb g_Device_Class g_Device_Sub g_Device_Proto g_Device_Max0 g_Device_Vendor g_Device_Product g_Device_Release g_Device_Maker g_Device_Name g_Device_Serial g_Device_Configs g_Config_Value g_Config_Name g_Config_Attr g_Config_Power g_Config_Faces g_Serial g_Err = some r) : PureC Try.prog 18 [(.st (.cons (.int .i64 g_Step) (.cons (.int .i64 g_Tries) (.cons (.int .i64 g_Addr) (.cons (.int .i64 g_Max0) (.cons (.int .i64 g_Total) (.cons (.st (.cons (.int .i64 g_Device_Usb) (.cons (.int .i64 g_Device_Class) (.cons (.int .i64 g_Device_Sub) (.cons (.int .i64 g_Device_Proto) (.cons (.int .i64 g_Device_Max0) (.cons (.int .i64 g_Device_Vendor) (.cons (.int .i64 g_Device_Product) (.cons (.int .i64 g_Device_Release) (.cons (.int .i64 g_Device_Maker) (.cons (.int .i64 g_Device_Name) (.cons (.int .i64 g_Device_Serial) (.int .i64 g_Device_Configs))))))))))))) (.cons (.st (.cons (.int .i64 g_Config_Value) (.cons (.int .i64 g_Config_Name) (.cons (.int .i64 g_Config_Attr) (.cons (.int .i64 g_Config_Power) (.sl (.st (.pair (.int .i64) (.pair (.int .i64) (.pair (.int .i64) (.pair (.int .i64) (.pair (.sl .str) (.sl (.st (.pair (.int .i64) (.pair .bool (.pair (.int .i64) (.pair (.int .i64) (.int .i64))))))))))))) g_Config_Faces)))))) (.cons (.str g_Serial) (.int .i64 g_Err))))))))))] (.tup (.cons (.str r.1) (.cons (.bool r.2) .nil))) [] := by
  refine PureC.mkS Try.func18 rfl rfl ?_
  intro w0 fz0 hfz
  replace h : (bif (decide (g_Step ≥ (([((0 : Int), ((0 : Int), ((0 : Int), (0 : Int)))), ((5 : Int), ((256 : Int), ((0 : Int), (8 : Int)))), ((4 : Int), (g_Addr, ((0 : Int), (0 : Int)))), ((5 : Int), ((256 : Int), ((0 : Int), (18 : Int)))), ((5 : Int), ((512 : Int), ((0 : Int), (9 : Int)))), ((5 : Int), ((512 : Int), ((0 : Int), g_Total))), ((5 : Int), ((IntKind.wrap .i64 ((768 : Int) + g_Device_Serial)), ((0 : Int), (255 : Int)))), ((6 : Int), (g_Config_Value, ((0 : Int), (0 : Int))))].length : Nat) : Int))) then (some (([] : List UInt8), false)) else (bif inb g_Step ([((0 : Int), ((0 : Int), ((0 : Int), (0 : Int)))), ((5 : Int), ((256 : Int), ((0 : Int), (8 : Int)))), ((4 : Int), (g_Addr, ((0 : Int), (0 : Int)))), ((5 : Int), ((256 : Int), ((0 : Int), (18 : Int)))), ((5 : Int), ((512 : Int), ((0 : Int), (9 : Int)))), ((5 : Int), ((512 : Int), ((0 : Int), g_Total))), ((5 : Int), ((IntKind.wrap .i64 ((768 : Int) + g_Device_Serial)), ((0 : Int), (255 : Int)))), ((6 : Int), (g_Config_Value, ((0 : Int), (0 : Int))))].length) then ((F57 n (([((0 : Int), ((0 : Int), ((0 : Int), (0 : Int)))), ((5 : Int), ((256 : Int), ((0 : Int), (8 : Int)))), ((4 : Int), (g_Addr, ((0 : Int), (0 : Int)))), ((5 : Int), ((256 : Int), ((0 : Int), (18 : Int)))), ((5 : Int), ((512 : Int), ((0 : Int), (9 : Int)))), ((5 : Int), ((512 : Int), ((0 : Int), g_Total))), ((5 : Int), ((IntKind.wrap .i64 ((768 : Int) + g_Device_Serial)), ((0 : Int), (255 : Int)))), ((6 : Int), (g_Config_Value, ((0 : Int), (0 : Int))))].getD g_Step.toNat ((0 : Int), ((0 : Int), ((0 : Int), (0 : Int))))).1) (([((0 : Int), ((0 : Int), ((0 : Int), (0 : Int)))), ((5 : Int), ((256 : Int), ((0 : Int), (8 : Int)))), ((4 : Int), (g_Addr, ((0 : Int), (0 : Int)))), ((5 : Int), ((256 : Int), ((0 : Int), (18 : Int)))), ((5 : Int), ((512 : Int), ((0 : Int), (9 : Int)))), ((5 : Int), ((512 : Int), ((0 : Int), g_Total))), ((5 : Int), ((IntKind.wrap .i64 ((768 : Int) + g_Device_Serial)), ((0 : Int), (255 : Int)))), ((6 : Int), (g_Config_Value, ((0 : Int), (0 : Int))))].getD g_Step.toNat ((0 : Int), ((0 : Int), ((0 : Int), (0 : Int))))).2.1) (([((0 : Int), ((0 : Int), ((0 : Int), (0 : Int)))), ((5 : Int), ((256 : Int), ((0 : Int), (8 : Int)))), ((4 : Int), (g_Addr, ((0 : Int), (0 : Int)))), ((5 : Int), ((256 : Int), ((0 : Int), (18 : Int)))), ((5 : Int), ((512 : Int), ((0 : Int), (9 : Int)))), ((5 : Int), ((512 : Int), ((0 : Int), g_Total))), ((5 : Int), ((IntKind.wrap .i64 ((768 : Int) + g_Device_Serial)), ((0 : Int), (255 : Int)))), ((6 : Int), (g_Config_Value, ((0 : Int), (0 : Int))))].getD g_Step.toNat ((0 : Int), ((0 : Int), ((0 : Int), (0 : Int))))).2.2.1) (([((0 : Int), ((0 : Int), ((0 : Int), (0 : Int)))), ((5 : Int), ((256 : Int), ((0 : Int), (8 : Int)))), ((4 : Int), (g_Addr, ((0 : Int), (0 : Int)))), ((5 : Int), ((256 : Int), ((0 : Int), (18 : Int)))), ((5 : Int), ((512 : Int), ((0 : Int), (9 : Int)))), ((5 : Int), ((512 : Int), ((0 : Int), g_Total))), ((5 : Int), ((IntKind.wrap .i64 ((768 : Int) + g_Device_Serial)), ((0 : Int), (255 : Int)))), ((6 : Int), (g_Config_Value, ((0 : Int), (0 : Int))))].getD g_Step.toNat ((0 : Int), ((0 : Int), ((0 : Int), (0 : Int))))).2.2.2)).bind fun y_3 => (some (y_3.1, true))) else none)) = some r := h
  refine TS.seq ?_
  have hq : (True) ∧ ((True) ∧ ((True) ∧ (True))) := ⟨trivial, ⟨trivial, ⟨trivial, trivial⟩⟩⟩
  refine TS.reg [] ?_ ?_
  · apply prop_of ?_ hq
    kernel_rfl
  refine XS.then ?_
  refine TS.seq ?_
  have hq : (True) ∧ (((True) ∧ ((True) ∧ ((True) ∧ (True)))) ∧ ((True) ∧ ((True) ∧ (((True) ∧ ((True) ∧ (True))) ∧ (((True) ∧ ((True) ∧ ((True) ∧ (True)))) ∧ (((True) ∧ ((True) ∧ ((True) ∧ (True)))) ∧ ((True) ∧ ((True) ∧ (((True) ∧ ((True) ∧ ((True) ∧ (True)))) ∧ ((True) ∧ ((True) ∧ ((True) ∧ ((True) ∧ (((True) ∧ ((True) ∧ ((True) ∧ (True)))) ∧ ((True) ∧ ((True) ∧ ((True) ∧ (((True) ∧ ((True) ∧ (True))) ∧ (((0 < 8 ∧ True) ∧ ((1 < 8 ∧ True) ∧ ((2 < 8 ∧ True) ∧ ((3 < 8 ∧ True) ∧ ((4 < 8 ∧ True) ∧ ((5 < 8 ∧ True) ∧ ((6 < 8 ∧ True) ∧ ((7 < 8 ∧ True) ∧ (True))))))))) ∧ ((True) ∧ (True))))))))))))))))))))) := ⟨trivial, ⟨⟨trivial, ⟨trivial, ⟨trivial, trivial⟩⟩⟩, ⟨trivial, ⟨trivial, ⟨⟨trivial, ⟨trivial, trivial⟩⟩, ⟨⟨trivial, ⟨trivial, ⟨trivial, trivial⟩⟩⟩, ⟨⟨trivial, ⟨trivial, ⟨trivial, trivial⟩⟩⟩, ⟨trivial, ⟨trivial, ⟨⟨trivial, ⟨trivial, ⟨trivial, trivial⟩⟩⟩, ⟨trivial, ⟨trivial, ⟨trivial, ⟨trivial, ⟨⟨trivial, ⟨trivial, ⟨trivial, trivial⟩⟩⟩, ⟨trivial, ⟨trivial, ⟨trivial, ⟨⟨trivial, ⟨trivial, trivial⟩⟩, ⟨⟨⟨by decide, trivial⟩, ⟨⟨by decide, trivial⟩, ⟨⟨by decide, trivial⟩, ⟨⟨by decide, trivial⟩, ⟨⟨by decide, trivial⟩, ⟨⟨by decide, trivial⟩, ⟨⟨by decide, trivial⟩, ⟨⟨by decide, trivial⟩, trivial⟩⟩⟩⟩⟩⟩⟩⟩, ⟨trivial, trivial⟩⟩⟩⟩⟩⟩⟩⟩⟩⟩⟩⟩⟩⟩⟩⟩⟩⟩⟩⟩⟩
  refine TS.reg [] ?_ ?_
  · apply prop_of ?_ hq
    kernel_rfl
  refine XS.then ?_
  refine TS.seq ?_
  refine TS.seq ?_
  have hq : (True) ∧ ((True) ∧ ((True) ∧ ((True) ∧ ((True) ∧ (True))))) := ⟨trivial, ⟨trivial, ⟨trivial, ⟨trivial, ⟨trivial, trivial⟩⟩⟩⟩⟩
  refine TS.reg [] ?_ ?_
  · apply prop_of ?_ hq
    kernel_rfl
  refine XS.then ?_
  rcases bif_some h with ⟨c1, h⟩ | ⟨c2, h⟩
  · refine TS.cond (decide (g_Step ≥ (([((0 : Int), ((0 : Int), ((0 : Int), (0 : Int)))), ((5 : Int), ((256 : Int), ((0 : Int), (8 : Int)))), ((4 : Int), (g_Addr, ((0 : Int), (0 : Int)))), ((5 : Int), ((256 : Int), ((0 : Int), (18 : Int)))), ((5 : Int), ((512 : Int), ((0 : Int), (9 : Int)))), ((5 : Int), ((512 : Int), ((0 : Int), g_Total))), ((5 : Int), ((IntKind.wrap .i64 ((768 : Int) + g_Device_Serial)), ((0 : Int), (255 : Int)))), ((6 : Int), (g_Config_Value, ((0 : Int), (0 : Int))))].length : Nat) : Int))) ?_ (fun e => ?_) (fun e => by rw [c1] at e; cases e)
    · kernel_rfl
    refine TS.seq ?_
    have hq : (True) ∧ ((True) ∧ (True)) := ⟨trivial, ⟨trivial, trivial⟩⟩
    refine TS.reg [] ?_ ?_
    · apply prop_of ?_ hq
      kernel_rfl
    refine XS.then ?_
    refine TS.ret ?_
    refine XS.passR ?_
    obtain rfl : (([] : List UInt8), false) = r := Option.some.inj h
    exact XS.fin [] ((True) ∧ ((True) ∧ (True))) (by kernel_rfl) ⟨trivial, ⟨trivial, trivial⟩⟩
  · refine TS.cond (decide (g_Step ≥ (([((0 : Int), ((0 : Int), ((0 : Int), (0 : Int)))), ((5 : Int), ((256 : Int), ((0 : Int), (8 : Int)))), ((4 : Int), (g_Addr, ((0 : Int), (0 : Int)))), ((5 : Int), ((256 : Int), ((0 : Int), (18 : Int)))), ((5 : Int), ((512 : Int), ((0 : Int), (9 : Int)))), ((5 : Int), ((512 : Int), ((0 : Int), g_Total))), ((5 : Int), ((IntKind.wrap .i64 ((768 : Int) + g_Device_Serial)), ((0 : Int), (255 : Int)))), ((6 : Int), (g_Config_Value, ((0 : Int), (0 : Int))))].length : Nat) : Int))) ?_ (fun e => by rw [c2] at e; cases e) (fun e => ?_)
    · kernel_rfl
    refine TS.skip ?_
    refine XS.then ?_
    refine TS.seq ?_
    obtain ⟨t3, h⟩ := test_some h
    obtain ⟨y_3, hx4, h⟩ := bind_some' h
    have hq : (True) ∧ ((True) ∧ ((True) ∧ ((inR g_Step ([((0 : Int), ((0 : Int), ((0 : Int), (0 : Int)))), ((5 : Int), ((256 : Int), ((0 : Int), (8 : Int)))), ((4 : Int), (g_Addr, ((0 : Int), (0 : Int)))), ((5 : Int), ((256 : Int), ((0 : Int), (18 : Int)))), ((5 : Int), ((512 : Int), ((0 : Int), (9 : Int)))), ((5 : Int), ((512 : Int), ((0 : Int), g_Total))), ((5 : Int), ((IntKind.wrap .i64 ((768 : Int) + g_Device_Serial)), ((0 : Int), (255 : Int)))), ((6 : Int), (g_Config_Value, ((0 : Int), (0 : Int))))].length)) ∧ ((g_Step.toNat < [((0 : Int), ((0 : Int), ((0 : Int), (0 : Int)))), ((5 : Int), ((256 : Int), ((0 : Int), (8 : Int)))), ((4 : Int), (g_Addr, ((0 : Int), (0 : Int)))), ((5 : Int), ((256 : Int), ((0 : Int), (18 : Int)))), ((5 : Int), ((512 : Int), ((0 : Int), (9 : Int)))), ((5 : Int), ((512 : Int), ((0 : Int), g_Total))), ((5 : Int), ((IntKind.wrap .i64 ((768 : Int) + g_Device_Serial)), ((0 : Int), (255 : Int)))), ((6 : Int), (g_Config_Value, ((0 : Int), (0 : Int))))].length ∧ (True)) ∧ ((PureC Try.prog 57 [(.st (.cons (.int .i64 ([((0 : Int), ((0 : Int), ((0 : Int), (0 : Int)))), ((5 : Int), ((256 : Int), ((0 : Int), (8 : Int)))), ((4 : Int), (g_Addr, ((0 : Int), (0 : Int)))), ((5 : Int), ((256 : Int), ((0 : Int), (18 : Int)))), ((5 : Int), ((512 : Int), ((0 : Int), (9 : Int)))), ((5 : Int), ((512 : Int), ((0 : Int), g_Total))), ((5 : Int), ((IntKind.wrap .i64 ((768 : Int) + g_Device_Serial)), ((0 : Int), (255 : Int)))), ((6 : Int), (g_Config_Value, ((0 : Int), (0 : Int))))].getD g_Step.toNat ((0 : Int), ((0 : Int), ((0 : Int), (0 : Int))))).1) (.cons (.int .i64 ([((0 : Int), ((0 : Int), ((0 : Int), (0 : Int)))), ((5 : Int), ((256 : Int), ((0 : Int), (8 : Int)))), ((4 : Int), (g_Addr, ((0 : Int), (0 : Int)))), ((5 : Int), ((256 : Int), ((0 : Int), (18 : Int)))), ((5 : Int), ((512 : Int), ((0 : Int), (9 : Int)))), ((5 : Int), ((512 : Int), ((0 : Int), g_Total))), ((5 : Int), ((IntKind.wrap .i64 ((768 : Int) + g_Device_Serial)), ((0 : Int), (255 : Int)))), ((6 : Int), (g_Config_Value, ((0 : Int), (0 : Int))))].getD g_Step.toNat ((0 : Int), ((0 : Int), ((0 : Int), (0 : Int))))).2.1) (.cons (.int .i64 ([((0 : Int), ((0 : Int), ((0 : Int), (0 : Int)))), ((5 : Int), ((256 : Int), ((0 : Int), (8 : Int)))), ((4 : Int), (g_Addr, ((0 : Int), (0 : Int)))), ((5 : Int), ((256 : Int), ((0 : Int), (18 : Int)))), ((5 : Int), ((512 : Int), ((0 : Int), (9 : Int)))), ((5 : Int), ((512 : Int), ((0 : Int), g_Total))), ((5 : Int), ((IntKind.wrap .i64 ((768 : Int) + g_Device_Serial)), ((0 : Int), (255 : Int)))), ((6 : Int), (g_Config_Value, ((0 : Int), (0 : Int))))].getD g_Step.toNat ((0 : Int), ((0 : Int), ((0 : Int), (0 : Int))))).2.2.1) (.int .i64 ([((0 : Int), ((0 : Int), ((0 : Int), (0 : Int)))), ((5 : Int), ((256 : Int), ((0 : Int), (8 : Int)))), ((4 : Int), (g_Addr, ((0 : Int), (0 : Int)))), ((5 : Int), ((256 : Int), ((0 : Int), (18 : Int)))), ((5 : Int), ((512 : Int), ((0 : Int), (9 : Int)))), ((5 : Int), ((512 : Int), ((0 : Int), g_Total))), ((5 : Int), ((IntKind.wrap .i64 ((768 : Int) + g_Device_Serial)), ((0 : Int), (255 : Int)))), ((6 : Int), (g_Config_Value, ((0 : Int), (0 : Int))))].getD g_Step.toNat ((0 : Int), ((0 : Int), ((0 : Int), (0 : Int))))).2.2.2)))))] (.tup (.cons (.str y_3.1) (.cons (.int .i64 y_3.2) .nil))) []) ∧ ((True) ∧ ((True) ∧ ((True) ∧ ((True) ∧ ((True) ∧ (True))))))))))) := ⟨trivial, ⟨trivial, ⟨trivial, ⟨inb_ok t3, ⟨⟨inR_lt (inb_ok t3), trivial⟩, ⟨F57_ok n (([((0 : Int), ((0 : Int), ((0 : Int), (0 : Int)))), ((5 : Int), ((256 : Int), ((0 : Int), (8 : Int)))), ((4 : Int), (g_Addr, ((0 : Int), (0 : Int)))), ((5 : Int), ((256 : Int), ((0 : Int), (18 : Int)))), ((5 : Int), ((512 : Int), ((0 : Int), (9 : Int)))), ((5 : Int), ((512 : Int), ((0 : Int), g_Total))), ((5 : Int), ((IntKind.wrap .i64 ((768 : Int) + g_Device_Serial)), ((0 : Int), (255 : Int)))), ((6 : Int), (g_Config_Value, ((0 : Int), (0 : Int))))].getD g_Step.toNat ((0 : Int), ((0 : Int), ((0 : Int), (0 : Int))))).1) (([((0 : Int), ((0 : Int), ((0 : Int), (0 : Int)))), ((5 : Int), ((256 : Int), ((0 : Int), (8 : Int)))), ((4 : Int), (g_Addr, ((0 : Int), (0 : Int)))), ((5 : Int), ((256 : Int), ((0 : Int), (18 : Int)))), ((5 : Int), ((512 : Int), ((0 : Int), (9 : Int)))), ((5 : Int), ((512 : Int), ((0 : Int), g_Total))), ((5 : Int), ((IntKind.wrap .i64 ((768 : Int) + g_Device_Serial)), ((0 : Int), (255 : Int)))), ((6 : Int), (g_Config_Value, ((0 : Int), (0 : Int))))].getD g_Step.toNat ((0 : Int), ((0 : Int), ((0 : Int), (0 : Int))))).2.1) (([((0 : Int), ((0 : Int), ((0 : Int), (0 : Int)))), ((5 : Int), ((256 : Int), ((0 : Int), (8 : Int)))), ((4 : Int), (g_Addr, ((0 : Int), (0 : Int)))), ((5 : Int), ((256 : Int), ((0 : Int), (18 : Int)))), ((5 : Int), ((512 : Int), ((0 : Int), (9 : Int)))), ((5 : Int), ((512 : Int), ((0 : Int), g_Total))), ((5 : Int), ((IntKind.wrap .i64 ((768 : Int) + g_Device_Serial)), ((0 : Int), (255 : Int)))), ((6 : Int), (g_Config_Value, ((0 : Int), (0 : Int))))].getD g_Step.toNat ((0 : Int), ((0 : Int), ((0 : Int), (0 : Int))))).2.2.1) (([((0 : Int), ((0 : Int), ((0 : Int), (0 : Int)))), ((5 : Int), ((256 : Int), ((0 : Int), (8 : Int)))), ((4 : Int), (g_Addr, ((0 : Int), (0 : Int)))), ((5 : Int), ((256 : Int), ((0 : Int), (18 : Int)))), ((5 : Int), ((512 : Int), ((0 : Int), (9 : Int)))), ((5 : Int), ((512 : Int), ((0 : Int), g_Total))), ((5 : Int), ((IntKind.wrap .i64 ((768 : Int) + g_Device_Serial)), ((0 : Int), (255 : Int)))), ((6 : Int), (g_Config_Value, ((0 : Int), (0 : Int))))].getD g_Step.toNat ((0 : Int), ((0 : Int), ((0 : Int), (0 : Int))))).2.2.2) y_3 hx4, ⟨trivial, ⟨trivial, ⟨trivial, ⟨trivial, ⟨trivial, trivial⟩⟩⟩⟩⟩⟩⟩⟩⟩⟩⟩
    refine TS.reg [.none, .none, .none, .none, .none, (.call (.tup (.cons (.str y_3.1) (.cons (.int .i64 y_3.2) .nil))) [])] ?_ ?_
    · apply prop_of ?_ hq
      kernel_rfl
    refine XS.then ?_
    refine TS.seq ?_
    have hq : (True) ∧ ((True) ∧ ((True) ∧ (True))) := ⟨trivial, ⟨trivial, ⟨trivial, trivial⟩⟩⟩
    refine TS.reg [] ?_ ?_
    · apply prop_of ?_ hq
      kernel_rfl
    refine XS.then ?_
    refine TS.ret ?_
    obtain rfl : (y_3.1, true) = r := Option.some.inj h
    exact XS.fin [] ((True) ∧ ((True) ∧ (True))) (by kernel_rfl) ⟨trivial, ⟨trivial, trivial⟩⟩

/-! slices.Equal[[]string,string] -/
def F112_l2 (n : Nat) (s1 : List (List UInt8)) (s2 : List (List UInt8)) (k112_2 : Int → Option Bool) : Int → Option Bool
  | x => (bif (decide (x < ((s1.length : Nat) : Int))) then (bif inb x s1.length then (bif inb x s2.length then (bif (!((s1.getD x.toNat ([] : List UInt8)) == (s2.getD x.toNat ([] : List UInt8)))) then (some false) else (k112_2 (IntKind.wrap .i64 (x + (1 : Int))))) else none) else none) else (some true))
def F112 (n : Nat) (s1 : List (List UInt8)) (s2 : List (List UInt8)) : Option Bool := (bif (((s1.length : Nat) : Int) != ((s2.length : Nat) : Int)) then (some false) else (loopF (F112_l2 n s1 s2) n (0 : Int)))
theorem F112_ok (n : Nat) (s1 : List (List UInt8)) (s2 : List (List UInt8)) (r : Bool) (h : F112 n s1 s2 = some r) : PureC Try.prog 112 [(.sl .str s1), (.sl .str s2)] (.bool r) [] := by
  refine PureC.mkS Try.func112 rfl rfl ?_
  intro w0 fz0 hfz
  replace h : (bif (((s1.length : Nat) : Int) != ((s2.length : Nat) : Int)) then (some false) else (loopF (F112_l2 n s1 s2) n (0 : Int))) = some r := h
  refine TS.seq ?_
  have hq : (True) ∧ (True) := ⟨trivial, trivial⟩
  refine TS.reg [] ?_ ?_
  · apply prop_of ?_ hq
    kernel_rfl
  refine XS.then ?_
  refine TS.seq ?_
  refine TS.seq ?_
  have hq : (True) ∧ ((True) ∧ ((True) ∧ ((True) ∧ ((True) ∧ (True))))) := ⟨trivial, ⟨trivial, ⟨trivial, ⟨trivial, ⟨trivial, trivial⟩⟩⟩⟩⟩
  refine TS.reg [] ?_ ?_
  · apply prop_of ?_ hq
    kernel_rfl
  refine XS.then ?_
  rcases bif_some h with ⟨c1, h⟩ | ⟨c2, h⟩
  · refine TS.cond (((s1.length : Nat) : Int) != ((s2.length : Nat) : Int)) ?_ (fun e => ?_) (fun e => by rw [c1] at e; cases e)
    · kernel_rfl
    refine TS.seq ?_
    have hq : (True) ∧ (True) := ⟨trivial, trivial⟩
    refine TS.reg [] ?_ ?_
    · apply prop_of ?_ hq
      kernel_rfl
    refine XS.then ?_
    refine TS.ret ?_
    refine XS.passR ?_
    obtain rfl : false = r := Option.some.inj h
    exact XS.fin [] ((True) ∧ (True)) (by kernel_rfl) ⟨trivial, trivial⟩
  · refine TS.cond (((s1.length : Nat) : Int) != ((s2.length : Nat) : Int)) ?_ (fun e => by rw [c2] at e; cases e) (fun e => ?_)
    · kernel_rfl
    refine TS.skip ?_
    refine XS.then ?_
    refine TS.seq ?_
    refine TS.seq ?_
    have hq : (True) ∧ ((True) ∧ ((True) ∧ (True))) := ⟨trivial, ⟨trivial, ⟨trivial, trivial⟩⟩⟩
    refine TS.reg [] ?_ ?_
    · apply prop_of ?_ hq
      kernel_rfl
    refine XS.then ?_
    refine TS.block ?_
    refine TS.reLoop [] (mkMask 26 [0, 1, 12, 13]) (D := Int) (fun d => match d with | x => (mkTs 26 [(0, (.sl .str s1)), (1, (.sl .str s2)), (12, (.int .i64 ((s1.length : Nat) : Int))), (13, (.int .i64 x))], [])) (fun n' d => loopF (F112_l2 n s1 s2) n' d = some r) n (0 : Int) h ?_ (fun d => loopF_zero _ d r) ?_
    · kernel_rfl
    · rintro n2 x h
      replace h : (bif (decide (x < ((s1.length : Nat) : Int))) then (bif inb x s1.length then (bif inb x s2.length then (bif (!((s1.getD x.toNat ([] : List UInt8)) == (s2.getD x.toNat ([] : List UInt8)))) then (some false) else ((loopF (F112_l2 n s1 s2) n2) (IntKind.wrap .i64 (x + (1 : Int))))) else none) else none) else (some true)) = some r := h
      refine TS.seq ?_
      have hq : (True) ∧ (True) := ⟨trivial, trivial⟩
      refine TS.reg [] ?_ ?_
      · apply prop_of ?_ hq
        kernel_rfl
      refine XS.then ?_
      refine TS.seq ?_
      rcases bif_some h with ⟨c3, h⟩ | ⟨c4, h⟩
      · refine TS.cond (decide (x < ((s1.length : Nat) : Int))) ?_ (fun e => ?_) (fun e => by rw [c3] at e; cases e)
        · kernel_rfl
        refine TS.skip ?_
        refine XS.then ?_
        refine TS.seq ?_
        refine TS.block ?_
        refine TS.seq ?_
        have hq : (True) ∧ ((True) ∧ (True)) := ⟨trivial, ⟨trivial, trivial⟩⟩
        refine TS.reg [] ?_ ?_
        · apply prop_of ?_ hq
          kernel_rfl
        refine XS.then ?_
        refine TS.seq ?_
        obtain ⟨t5, h⟩ := test_some h
        obtain ⟨t6, h⟩ := test_some h
        have hq : ((True) ∧ ((True) ∧ ((inR x s1.length) ∧ ((True) ∧ ((True) ∧ ((True) ∧ ((inR x s2.length) ∧ ((True) ∧ ((True) ∧ (True)))))))))) ∧ (True) := ⟨⟨trivial, ⟨trivial, ⟨inb_ok t5, ⟨trivial, ⟨trivial, ⟨trivial, ⟨inb_ok t6, ⟨trivial, ⟨trivial, trivial⟩⟩⟩⟩⟩⟩⟩⟩⟩, trivial⟩
        refine TS.draw 9 [] [] (by kernel_rfl) ?_ ?_
        · apply prop_of ?_ hq
          kernel_rfl
        refine XS.then ?_
        rcases bif_some h with ⟨c7, h⟩ | ⟨c8, h⟩
        · refine TS.cond (!((s1.getD x.toNat ([] : List UInt8)) == (s2.getD x.toNat ([] : List UInt8)))) ?_ (fun e => ?_) (fun e => by rw [c7] at e; cases e)
          · kernel_rfl
          refine TS.seq ?_
          have hq : (True) ∧ (True) := ⟨trivial, trivial⟩
          refine TS.reg [] ?_ ?_
          · apply prop_of ?_ hq
            kernel_rfl
          refine XS.then ?_
          refine TS.ret ?_
          refine XS.blockRet ?_
          refine XS.passR ?_
          refine XS.passR ?_
          refine XS.blockRet ?_
          refine XS.passR ?_
          obtain rfl : false = r := Option.some.inj h
          exact XS.fin [] ((True) ∧ (True)) (by kernel_rfl) ⟨trivial, trivial⟩
        · refine TS.cond (!((s1.getD x.toNat ([] : List UInt8)) == (s2.getD x.toNat ([] : List UInt8)))) ?_ (fun e => by rw [c8] at e; cases e) (fun e => ?_)
          · kernel_rfl
          refine TS.skip ?_
          refine XS.blockEnd ?_
          refine XS.then ?_
          have hq : (True) ∧ ((True) ∧ (True)) := ⟨trivial, ⟨trivial, trivial⟩⟩
          refine TS.reg [] ?_ ?_
          · apply prop_of ?_ hq
            kernel_rfl
          refine XS.reAny [] (mkMask 26 [0, 1, 12, 13]) (IntKind.wrap .i64 (x + (1 : Int))) h ?_
          kernel_rfl
      · refine TS.cond (decide (x < ((s1.length : Nat) : Int))) ?_ (fun e => by rw [c4] at e; cases e) (fun e => ?_)
        · kernel_rfl
        refine TS.exit ?_
        refine XS.passE ?_
        refine XS.passE ?_
        refine XS.out ?_
        refine XS.then ?_
        refine TS.seq ?_
        have hq : (True) ∧ (True) := ⟨trivial, trivial⟩
        refine TS.reg [] ?_ ?_
        · apply prop_of ?_ hq
          kernel_rfl
        refine XS.then ?_
        refine TS.ret ?_
        obtain rfl : true = r := Option.some.inj h
        exact XS.fin [] ((True) ∧ (True)) (by kernel_rfl) ⟨trivial, trivial⟩

/-! slices.Equal[[]plugtree/api.End,plugtree/api.End] -/
def F129_l2 (n : Nat) (s1 : List (Int × Bool × Int × Int × Int)) (s2 : List (Int × Bool × Int × Int × Int)) (k129_2 : Int → Option Bool) : Int → Option Bool
  | x => (bif (decide (x < ((s1.length : Nat) : Int))) then (bif inb x s1.length then (bif inb x s2.length then (bif (!(Sh.beq (.st (.pair (.int .i64) (.pair .bool (.pair (.int .i64) (.pair (.int .i64) (.int .i64)))))) ((s1.getD x.toNat ((0 : Int), (false, ((0 : Int), ((0 : Int), (0 : Int)))))).1, ((s1.getD x.toNat ((0 : Int), (false, ((0 : Int), ((0 : Int), (0 : Int)))))).2.1, ((s1.getD x.toNat ((0 : Int), (false, ((0 : Int), ((0 : Int), (0 : Int)))))).2.2.1, ((s1.getD x.toNat ((0 : Int), (false, ((0 : Int), ((0 : Int), (0 : Int)))))).2.2.2.1, (s1.getD x.toNat ((0 : Int), (false, ((0 : Int), ((0 : Int), (0 : Int)))))).2.2.2.2)))) ((s2.getD x.toNat ((0 : Int), (false, ((0 : Int), ((0 : Int), (0 : Int)))))).1, ((s2.getD x.toNat ((0 : Int), (false, ((0 : Int), ((0 : Int), (0 : Int)))))).2.1, ((s2.getD x.toNat ((0 : Int), (false, ((0 : Int), ((0 : Int), (0 : Int)))))).2.2.1, ((s2.getD x.toNat ((0 : Int), (false, ((0 : Int), ((0 : Int), (0 : Int)))))).2.2.2.1, (s2.getD x.toNat ((0 : Int), (false, ((0 : Int), ((0 : Int), (0 : Int)))))).2.2.2.2)))))) then (some false) else (k129_2 (IntKind.wrap .i64 (x + (1 : Int))))) else none) else none) else (some true))
def F129 (n : Nat) (s1 : List (Int × Bool × Int × Int × Int)) (s2 : List (Int × Bool × Int × Int × Int)) : Option Bool := (bif (((s1.length : Nat) : Int) != ((s2.length : Nat) : Int)) then (some false) else (loopF (F129_l2 n s1 s2) n (0 : Int)))
theorem F129_ok (n : Nat) (s1 : List (Int × Bool × Int × Int × Int)) (s2 : List (Int × Bool × Int × Int × Int)) (r : Bool) (h : F129 n s1 s2 = some r) : PureC Try.prog 129 [(.sl (.st (.pair (.int .i64) (.pair .bool (.pair (.int .i64) (.pair (.int .i64) (.int .i64)))))) s1), (.sl (.st (.pair (.int .i64) (.pair .bool (.pair (.int .i64) (.pair (.int .i64) (.int .i64)))))) s2)] (.bool r) [] := by
  refine PureC.mkS Try.func129 rfl rfl ?_
  intro w0 fz0 hfz
  replace h : (bif (((s1.length : Nat) : Int) != ((s2.length : Nat) : Int)) then (some false) else (loopF (F129_l2 n s1 s2) n (0 : Int))) = some r := h
  refine TS.seq ?_
  have hq : (True) ∧ (True) := ⟨trivial, trivial⟩
  refine TS.reg [] ?_ ?_
  · apply prop_of ?_ hq
    kernel_rfl
  refine XS.then ?_
  refine TS.seq ?_
  refine TS.seq ?_
  have hq : (True) ∧ ((True) ∧ ((True) ∧ ((True) ∧ ((True) ∧ (True))))) := ⟨trivial, ⟨trivial, ⟨trivial, ⟨trivial, ⟨trivial, trivial⟩⟩⟩⟩⟩
  refine TS.reg [] ?_ ?_
  · apply prop_of ?_ hq
    kernel_rfl
  refine XS.then ?_
  rcases bif_some h with ⟨c1, h⟩ | ⟨c2, h⟩
  · refine TS.cond (((s1.length : Nat) : Int) != ((s2.length : Nat) : Int)) ?_ (fun e => ?_) (fun e => by rw [c1] at e; cases e)
    · kernel_rfl
    refine TS.seq ?_
    have hq : (True) ∧ (True) := ⟨trivial, trivial⟩
    refine TS.reg [] ?_ ?_
    · apply prop_of ?_ hq
      kernel_rfl
    refine XS.then ?_
    refine TS.ret ?_
    refine XS.passR ?_
    obtain rfl : false = r := Option.some.inj h
    exact XS.fin [] ((True) ∧ (True)) (by kernel_rfl) ⟨trivial, trivial⟩
  · refine TS.cond (((s1.length : Nat) : Int) != ((s2.length : Nat) : Int)) ?_ (fun e => by rw [c2] at e; cases e) (fun e => ?_)
    · kernel_rfl
    refine TS.skip ?_
    refine XS.then ?_
    refine TS.seq ?_
    refine TS.seq ?_
    have hq : (True) ∧ ((True) ∧ ((True) ∧ (True))) := ⟨trivial, ⟨trivial, ⟨trivial, trivial⟩⟩⟩
    refine TS.reg [] ?_ ?_
    · apply prop_of ?_ hq
      kernel_rfl
    refine XS.then ?_
    refine TS.block ?_
    refine TS.reLoop [] (mkMask 26 [0, 1, 12, 13]) (D := Int) (fun d => match d with | x => (mkTs 26 [(0, (.sl (.st (.pair (.int .i64) (.pair .bool (.pair (.int .i64) (.pair (.int .i64) (.int .i64)))))) s1)), (1, (.sl (.st (.pair (.int .i64) (.pair .bool (.pair (.int .i64) (.pair (.int .i64) (.int .i64)))))) s2)), (12, (.int .i64 ((s1.length : Nat) : Int))), (13, (.int .i64 x))], [])) (fun n' d => loopF (F129_l2 n s1 s2) n' d = some r) n (0 : Int) h ?_ (fun d => loopF_zero _ d r) ?_
    · kernel_rfl
    · rintro n2 x h
      replace h : (bif (decide (x < ((s1.length : Nat) : Int))) then (bif inb x s1.length then (bif inb x s2.length then (bif (!(Sh.beq (.st (.pair (.int .i64) (.pair .bool (.pair (.int .i64) (.pair (.int .i64) (.int .i64)))))) ((s1.getD x.toNat ((0 : Int), (false, ((0 : Int), ((0 : Int), (0 : Int)))))).1, ((s1.getD x.toNat ((0 : Int), (false, ((0 : Int), ((0 : Int), (0 : Int)))))).2.1, ((s1.getD x.toNat ((0 : Int), (false, ((0 : Int), ((0 : Int), (0 : Int)))))).2.2.1, ((s1.getD x.toNat ((0 : Int), (false, ((0 : Int), ((0 : Int), (0 : Int)))))).2.2.2.1, (s1.getD x.toNat ((0 : Int), (false, ((0 : Int), ((0 : Int), (0 : Int)))))).2.2.2.2)))) ((s2.getD x.toNat ((0 : Int), (false, ((0 : Int), ((0 : Int), (0 : Int)))))).1, ((s2.getD x.toNat ((0 : Int), (false, ((0 : Int), ((0 : Int), (0 : Int)))))).2.1, ((s2.getD x.toNat ((0 : Int), (false, ((0 : Int), ((0 : Int), (0 : Int)))))).2.2.1, ((s2.getD x.toNat ((0 : Int), (false, ((0 : Int), ((0 : Int), (0 : Int)))))).2.2.2.1, (s2.getD x.toNat ((0 : Int), (false, ((0 : Int), ((0 : Int), (0 : Int)))))).2.2.2.2)))))) then (some false) else ((loopF (F129_l2 n s1 s2) n2) (IntKind.wrap .i64 (x + (1 : Int))))) else none) else none) else (some true)) = some r := h
      refine TS.seq ?_
      have hq : (True) ∧ (True) := ⟨trivial, trivial⟩
      refine TS.reg [] ?_ ?_
      · apply prop_of ?_ hq
        kernel_rfl
      refine XS.then ?_
      refine TS.seq ?_
      rcases bif_some h with ⟨c3, h⟩ | ⟨c4, h⟩
      · refine TS.cond (decide (x < ((s1.length : Nat) : Int))) ?_ (fun e => ?_) (fun e => by rw [c3] at e; cases e)
        · kernel_rfl
        refine TS.skip ?_
        refine XS.then ?_
        refine TS.seq ?_
        refine TS.block ?_
        refine TS.seq ?_
        have hq : (True) ∧ ((True) ∧ (True)) := ⟨trivial, ⟨trivial, trivial⟩⟩
        refine TS.reg [] ?_ ?_
        · apply prop_of ?_ hq
          kernel_rfl
        refine XS.then ?_
        refine TS.seq ?_
        obtain ⟨t5, h⟩ := test_some h
        obtain ⟨t6, h⟩ := test_some h
        have hq : ((True) ∧ ((True) ∧ ((inR x s1.length) ∧ ((True) ∧ ((True) ∧ ((True) ∧ ((inR x s2.length) ∧ ((True) ∧ ((True) ∧ (True)))))))))) ∧ (True) := ⟨⟨trivial, ⟨trivial, ⟨inb_ok t5, ⟨trivial, ⟨trivial, ⟨trivial, ⟨inb_ok t6, ⟨trivial, ⟨trivial, trivial⟩⟩⟩⟩⟩⟩⟩⟩⟩, trivial⟩
        refine TS.draw 9 [] [] (by kernel_rfl) ?_ ?_
        · apply prop_of ?_ hq
          kernel_rfl
        refine XS.then ?_
        rcases bif_some h with ⟨c7, h⟩ | ⟨c8, h⟩
        · refine TS.cond (!(Sh.beq (.st (.pair (.int .i64) (.pair .bool (.pair (.int .i64) (.pair (.int .i64) (.int .i64)))))) ((s1.getD x.toNat ((0 : Int), (false, ((0 : Int), ((0 : Int), (0 : Int)))))).1, ((s1.getD x.toNat ((0 : Int), (false, ((0 : Int), ((0 : Int), (0 : Int)))))).2.1, ((s1.getD x.toNat ((0 : Int), (false, ((0 : Int), ((0 : Int), (0 : Int)))))).2.2.1, ((s1.getD x.toNat ((0 : Int), (false, ((0 : Int), ((0 : Int), (0 : Int)))))).2.2.2.1, (s1.getD x.toNat ((0 : Int), (false, ((0 : Int), ((0 : Int), (0 : Int)))))).2.2.2.2)))) ((s2.getD x.toNat ((0 : Int), (false, ((0 : Int), ((0 : Int), (0 : Int)))))).1, ((s2.getD x.toNat ((0 : Int), (false, ((0 : Int), ((0 : Int), (0 : Int)))))).2.1, ((s2.getD x.toNat ((0 : Int), (false, ((0 : Int), ((0 : Int), (0 : Int)))))).2.2.1, ((s2.getD x.toNat ((0 : Int), (false, ((0 : Int), ((0 : Int), (0 : Int)))))).2.2.2.1, (s2.getD x.toNat ((0 : Int), (false, ((0 : Int), ((0 : Int), (0 : Int)))))).2.2.2.2)))))) ?_ (fun e => ?_) (fun e => by rw [c7] at e; cases e)
          · kernel_rfl
          refine TS.seq ?_
          have hq : (True) ∧ (True) := ⟨trivial, trivial⟩
          refine TS.reg [] ?_ ?_
          · apply prop_of ?_ hq
            kernel_rfl
          refine XS.then ?_
          refine TS.ret ?_
          refine XS.blockRet ?_
          refine XS.passR ?_
          refine XS.passR ?_
          refine XS.blockRet ?_
          refine XS.passR ?_
          obtain rfl : false = r := Option.some.inj h
          exact XS.fin [] ((True) ∧ (True)) (by kernel_rfl) ⟨trivial, trivial⟩
        · refine TS.cond (!(Sh.beq (.st (.pair (.int .i64) (.pair .bool (.pair (.int .i64) (.pair (.int .i64) (.int .i64)))))) ((s1.getD x.toNat ((0 : Int), (false, ((0 : Int), ((0 : Int), (0 : Int)))))).1, ((s1.getD x.toNat ((0 : Int), (false, ((0 : Int), ((0 : Int), (0 : Int)))))).2.1, ((s1.getD x.toNat ((0 : Int), (false, ((0 : Int), ((0 : Int), (0 : Int)))))).2.2.1, ((s1.getD x.toNat ((0 : Int), (false, ((0 : Int), ((0 : Int), (0 : Int)))))).2.2.2.1, (s1.getD x.toNat ((0 : Int), (false, ((0 : Int), ((0 : Int), (0 : Int)))))).2.2.2.2)))) ((s2.getD x.toNat ((0 : Int), (false, ((0 : Int), ((0 : Int), (0 : Int)))))).1, ((s2.getD x.toNat ((0 : Int), (false, ((0 : Int), ((0 : Int), (0 : Int)))))).2.1, ((s2.getD x.toNat ((0 : Int), (false, ((0 : Int), ((0 : Int), (0 : Int)))))).2.2.1, ((s2.getD x.toNat ((0 : Int), (false, ((0 : Int), ((0 : Int), (0 : Int)))))).2.2.2.1, (s2.getD x.toNat ((0 : Int), (false, ((0 : Int), ((0 : Int), (0 : Int)))))).2.2.2.2)))))) ?_ (fun e => by rw [c8] at e; cases e) (fun e => ?_)
          · kernel_rfl
          refine TS.skip ?_
          refine XS.blockEnd ?_
          refine XS.then ?_
          have hq : (True) ∧ ((True) ∧ (True)) := ⟨trivial, ⟨trivial, trivial⟩⟩
          refine TS.reg [] ?_ ?_
          · apply prop_of ?_ hq
            kernel_rfl
          refine XS.reAny [] (mkMask 26 [0, 1, 12, 13]) (IntKind.wrap .i64 (x + (1 : Int))) h ?_
          kernel_rfl
      · refine TS.cond (decide (x < ((s1.length : Nat) : Int))) ?_ (fun e => by rw [c4] at e; cases e) (fun e => ?_)
        · kernel_rfl
        refine TS.exit ?_
        refine XS.passE ?_
        refine XS.passE ?_
        refine XS.out ?_
        refine XS.then ?_
        refine TS.seq ?_
        have hq : (True) ∧ (True) := ⟨trivial, trivial⟩
        refine TS.reg [] ?_ ?_
        · apply prop_of ?_ hq
          kernel_rfl
        refine XS.then ?_
        refine TS.ret ?_
        obtain rfl : true = r := Option.some.inj h
        exact XS.fin [] ((True) ∧ (True)) (by kernel_rfl) ⟨trivial, trivial⟩

/-! plugtree/plugref.SameConfig$1 -/
def F128 (n : Nat) (f_Class : Int) (f_Sub : Int) (f_Proto : Int) (f_Name : Int) (f_Extra : List (List UInt8)) (f_Ends : List (Int × Bool × Int × Int × Int)) (g_Class : Int) (g_Sub : Int) (g_Proto : Int) (g_Name : Int) (g_Extra : List (List UInt8)) (g_Ends : List (Int × Bool × Int × Int × Int)) : Option Bool := (bif (f_Class == g_Class) then (bif (f_Sub == g_Sub) then (bif (f_Proto == g_Proto) then (bif (f_Name == g_Name) then ((F112 n f_Extra g_Extra).bind fun y_2 => (bif y_2 then ((F129 n f_Ends g_Ends).bind fun y_3 => (some y_3)) else (some false))) else (some false)) else (some false)) else (some false)) else (some false))
theorem F128_ok (n : Nat) (f_Class : Int) (f_Sub : Int) (f_Proto : Int) (f_Name : Int) (f_Extra : List (List UInt8)) (f_Ends : List (Int × Bool × Int × Int × Int)) (g_Class : Int) (g_Sub : Int) (g_Proto : Int) (g_Name : Int) (g_Extra : List (List UInt8)) (g_Ends : List (Int × Bool × Int × Int × Int)) (r : Bool) (h : F128 n f_Class f_Sub f_Proto f_Name f_Extra f_Ends g_Class g_Sub g_Proto g_Name g_Extra g_Ends = some r) : PureC Try.prog 128 [(.st (.cons (.int .i64 f_Class) (.cons (.int .i64 f_Sub) (.cons (.int .i64 f_Proto) (.cons (.int .i64 f_Name) (.cons (.sl .str f_Extra) (.sl (.st (.pair (.int .i64) (.pair .bool (.pair (.int .i64) (.pair (.int .i64) (.int .i64)))))) f_Ends))))))), (.st (.cons (.int .i64 g_Class) (.cons (.int .i64 g_Sub) (.cons (.int .i64 g_Proto) (.cons (.int .i64 g_Name) (.cons (.sl .str g_Extra) (.sl (.st (.pair (.int .i64) (.pair .bool (.pair (.int .i64) (.pair (.int .i64) (.int .i64)))))) g_Ends)))))))] (.bool r) [] := by
  refine PureC.mkS Try.func128 rfl rfl ?_
  intro w0 fz0 hfz
  replace h : (bif (f_Class == g_Class) then (bif (f_Sub == g_Sub) then (bif (f_Proto == g_Proto) then (bif (f_Name == g_Name) then ((F112 n f_Extra g_Extra).bind fun y_2 => (bif y_2 then ((F129 n f_Ends g_Ends).bind fun y_3 => (some y_3)) else (some false))) else (some false)) else (some false)) else (some false)) else (some false)) = some r := h
  refine TS.seq ?_
  have hq : (True) ∧ ((True) ∧ ((True) ∧ (True))) := ⟨trivial, ⟨trivial, ⟨trivial, trivial⟩⟩⟩
  refine TS.reg [] ?_ ?_
  · apply prop_of ?_ hq
    kernel_rfl
  refine XS.then ?_
  refine TS.seq ?_
  rcases bif_some h with ⟨c1, h⟩ | ⟨c2, h⟩
  · rcases bif_some h with ⟨c3, h⟩ | ⟨c4, h⟩
    · rcases bif_some h with ⟨c5, h⟩ | ⟨c6, h⟩
      · rcases bif_some h with ⟨c7, h⟩ | ⟨c8, h⟩
        · obtain ⟨y_2, hx9, h⟩ := bind_some' h
          rcases bif_some h with ⟨c10, h⟩ | ⟨c11, h⟩
          · obtain ⟨y_3, hx12, h⟩ := bind_some' h
            have hq : (True) ∧ ((True) ∧ ((True) ∧ ((True) ∧ ((True) ∧ (((True) ∧ (f_Class == g_Class) = true) ∧ ((True) ∧ ((True) ∧ ((True) ∧ ((True) ∧ ((True) ∧ ((True) ∧ (((True) ∧ (f_Sub == g_Sub) = true) ∧ ((True) ∧ ((True) ∧ ((True) ∧ ((True) ∧ ((True) ∧ ((True) ∧ (((True) ∧ (f_Proto == g_Proto) = true) ∧ ((True) ∧ ((True) ∧ ((True) ∧ ((True) ∧ ((True) ∧ ((True) ∧ (((True) ∧ (f_Name == g_Name) = true) ∧ ((True) ∧ ((True) ∧ ((True) ∧ ((True) ∧ ((PureC Try.prog 112 [(.sl .str f_Extra), (.sl .str g_Extra)] (.bool y_2) []) ∧ ((True) ∧ (((True) ∧ y_2 = true) ∧ ((True) ∧ ((True) ∧ ((True) ∧ ((True) ∧ ((PureC Try.prog 129 [(.sl (.st (.pair (.int .i64) (.pair .bool (.pair (.int .i64) (.pair (.int .i64) (.int .i64)))))) f_Ends), (.sl (.st (.pair (.int .i64) (.pair .bool (.pair (.int .i64) (.pair (.int .i64) (.int .i64)))))) g_Ends)] (.bool y_3) []) ∧ ((True) ∧ ((True) ∧ (True))))))))))))))))))))))))))))))))))))))))) := ⟨trivial, ⟨trivial, ⟨trivial, ⟨trivial, ⟨trivial, ⟨⟨trivial, c1⟩, ⟨trivial, ⟨trivial, ⟨trivial, ⟨trivial, ⟨trivial, ⟨trivial, ⟨⟨trivial, c3⟩, ⟨trivial, ⟨trivial, ⟨trivial, ⟨trivial, ⟨trivial, ⟨trivial, ⟨⟨trivial, c5⟩, ⟨trivial, ⟨trivial, ⟨trivial, ⟨trivial, ⟨trivial, ⟨trivial, ⟨⟨trivial, c7⟩, ⟨trivial, ⟨trivial, ⟨trivial, ⟨trivial, ⟨F112_ok n f_Extra g_Extra y_2 hx9, ⟨trivial, ⟨⟨trivial, c10⟩, ⟨trivial, ⟨trivial, ⟨trivial, ⟨trivial, ⟨F129_ok n f_Ends g_Ends y_3 hx12, ⟨trivial, ⟨trivial, trivial⟩⟩⟩⟩⟩⟩⟩⟩⟩⟩⟩⟩⟩⟩⟩⟩⟩⟩⟩⟩⟩⟩⟩⟩⟩⟩⟩⟩⟩⟩⟩⟩⟩⟩⟩⟩⟩⟩⟩⟩⟩
            refine TS.reg [.none, .none, .none, .none, .none, .dec true, .none, .none, .none, .none, .none, .none, .dec true, .none, .none, .none, .none, .none, .none, .dec true, .none, .none, .none, .none, .none, .none, .dec true, .none, .none, .none, .none, (.call (.bool y_2) []), .none, .dec true, .none, .none, .none, .none, (.call (.bool y_3) [])] ?_ ?_
            · apply prop_of ?_ hq
              kernel_rfl
            refine XS.then ?_
            refine TS.ret ?_
            obtain rfl : y_3 = r := Option.some.inj h
            exact XS.fin [] ((True) ∧ (True)) (by kernel_rfl) ⟨trivial, trivial⟩
          · have hq : (True) ∧ ((True) ∧ ((True) ∧ ((True) ∧ ((True) ∧ (((True) ∧ (f_Class == g_Class) = true) ∧ ((True) ∧ ((True) ∧ ((True) ∧ ((True) ∧ ((True) ∧ ((True) ∧ (((True) ∧ (f_Sub == g_Sub) = true) ∧ ((True) ∧ ((True) ∧ ((True) ∧ ((True) ∧ ((True) ∧ ((True) ∧ (((True) ∧ (f_Proto == g_Proto) = true) ∧ ((True) ∧ ((True) ∧ ((True) ∧ ((True) ∧ ((True) ∧ ((True) ∧ (((True) ∧ (f_Name == g_Name) = true) ∧ ((True) ∧ ((True) ∧ ((True) ∧ ((True) ∧ ((PureC Try.prog 112 [(.sl .str f_Extra), (.sl .str g_Extra)] (.bool y_2) []) ∧ ((True) ∧ (((True) ∧ y_2 = false) ∧ ((True) ∧ ((True) ∧ (True)))))))))))))))))))))))))))))))))))) := ⟨trivial, ⟨trivial, ⟨trivial, ⟨trivial, ⟨trivial, ⟨⟨trivial, c1⟩, ⟨trivial, ⟨trivial, ⟨trivial, ⟨trivial, ⟨trivial, ⟨trivial, ⟨⟨trivial, c3⟩, ⟨trivial, ⟨trivial, ⟨trivial, ⟨trivial, ⟨trivial, ⟨trivial, ⟨⟨trivial, c5⟩, ⟨trivial, ⟨trivial, ⟨trivial, ⟨trivial, ⟨trivial, ⟨trivial, ⟨⟨trivial, c7⟩, ⟨trivial, ⟨trivial, ⟨trivial, ⟨trivial, ⟨F112_ok n f_Extra g_Extra y_2 hx9, ⟨trivial, ⟨⟨trivial, c11⟩, ⟨trivial, ⟨trivial, trivial⟩⟩⟩⟩⟩⟩⟩⟩⟩⟩⟩⟩⟩⟩⟩⟩⟩⟩⟩⟩⟩⟩⟩⟩⟩⟩⟩⟩⟩⟩⟩⟩⟩⟩⟩⟩
            refine TS.reg [.none, .none, .none, .none, .none, .dec true, .none, .none, .none, .none, .none, .none, .dec true, .none, .none, .none, .none, .none, .none, .dec true, .none, .none, .none, .none, .none, .none, .dec true, .none, .none, .none, .none, (.call (.bool y_2) []), .none, .dec false] ?_ ?_
            · apply prop_of ?_ hq
              kernel_rfl
            refine XS.then ?_
            refine TS.ret ?_
            obtain rfl : false = r := Option.some.inj h
            exact XS.fin [] ((True) ∧ (True)) (by kernel_rfl) ⟨trivial, trivial⟩
        · have hq : (True) ∧ ((True) ∧ ((True) ∧ ((True) ∧ ((True) ∧ (((True) ∧ (f_Class == g_Class) = true) ∧ ((True) ∧ ((True) ∧ ((True) ∧ ((True) ∧ ((True) ∧ ((True) ∧ (((True) ∧ (f_Sub == g_Sub) = true) ∧ ((True) ∧ ((True) ∧ ((True) ∧ ((True) ∧ ((True) ∧ ((True) ∧ (((True) ∧ (f_Proto == g_Proto) = true) ∧ ((True) ∧ ((True) ∧ ((True) ∧ ((True) ∧ ((True) ∧ ((True) ∧ (((True) ∧ (f_Name == g_Name) = false) ∧ ((True) ∧ ((True) ∧ ((True) ∧ ((True) ∧ (True))))))))))))))))))))))))))))))) := ⟨trivial, ⟨trivial, ⟨trivial, ⟨trivial, ⟨trivial, ⟨⟨trivial, c1⟩, ⟨trivial, ⟨trivial, ⟨trivial, ⟨trivial, ⟨trivial, ⟨trivial, ⟨⟨trivial, c3⟩, ⟨trivial, ⟨trivial, ⟨trivial, ⟨trivial, ⟨trivial, ⟨trivial, ⟨⟨trivial, c5⟩, ⟨trivial, ⟨trivial, ⟨trivial, ⟨trivial, ⟨trivial, ⟨trivial, ⟨⟨trivial, c8⟩, ⟨trivial, ⟨trivial, ⟨trivial, ⟨trivial, trivial⟩⟩⟩⟩⟩⟩⟩⟩⟩⟩⟩⟩⟩⟩⟩⟩⟩⟩⟩⟩⟩⟩⟩⟩⟩⟩⟩⟩⟩⟩⟩
          refine TS.reg [.none, .none, .none, .none, .none, .dec true, .none, .none, .none, .none, .none, .none, .dec true, .none, .none, .none, .none, .none, .none, .dec true, .none, .none, .none, .none, .none, .none, .dec false] ?_ ?_
          · apply prop_of ?_ hq
            kernel_rfl
          refine XS.then ?_
          refine TS.ret ?_
          obtain rfl : false = r := Option.some.inj h
          exact XS.fin [] ((True) ∧ (True)) (by kernel_rfl) ⟨trivial, trivial⟩
      · have hq : (True) ∧ ((True) ∧ ((True) ∧ ((True) ∧ ((True) ∧ (((True) ∧ (f_Class == g_Class) = true) ∧ ((True) ∧ ((True) ∧ ((True) ∧ ((True) ∧ ((True) ∧ ((True) ∧ (((True) ∧ (f_Sub == g_Sub) = true) ∧ ((True) ∧ ((True) ∧ ((True) ∧ ((True) ∧ ((True) ∧ ((True) ∧ (((True) ∧ (f_Proto == g_Proto) = false) ∧ ((True) ∧ ((True) ∧ ((True) ∧ ((True) ∧ ((True) ∧ ((True) ∧ (True)))))))))))))))))))))))))) := ⟨trivial, ⟨trivial, ⟨trivial, ⟨trivial, ⟨trivial, ⟨⟨trivial, c1⟩, ⟨trivial, ⟨trivial, ⟨trivial, ⟨trivial, ⟨trivial, ⟨trivial, ⟨⟨trivial, c3⟩, ⟨trivial, ⟨trivial, ⟨trivial, ⟨trivial, ⟨trivial, ⟨trivial, ⟨⟨trivial, c6⟩, ⟨trivial, ⟨trivial, ⟨trivial, ⟨trivial, ⟨trivial, ⟨trivial, trivial⟩⟩⟩⟩⟩⟩⟩⟩⟩⟩⟩⟩⟩⟩⟩⟩⟩⟩⟩⟩⟩⟩⟩⟩⟩⟩
        refine TS.reg [.none, .none, .none, .none, .none, .dec true, .none, .none, .none, .none, .none, .none, .dec true, .none, .none, .none, .none, .none, .none, .dec false] ?_ ?_
        · apply prop_of ?_ hq
          kernel_rfl
        refine XS.then ?_
        refine TS.ret ?_
        obtain rfl : false = r := Option.some.inj h
        exact XS.fin [] ((True) ∧ (True)) (by kernel_rfl) ⟨trivial, trivial⟩
    · have hq : (True) ∧ ((True) ∧ ((True) ∧ ((True) ∧ ((True) ∧ (((True) ∧ (f_Class == g_Class) = true) ∧ ((True) ∧ ((True) ∧ ((True) ∧ ((True) ∧ ((True) ∧ ((True) ∧ (((True) ∧ (f_Sub == g_Sub) = false) ∧ ((True) ∧ ((True) ∧ ((True) ∧ ((True) ∧ ((True) ∧ ((True) ∧ ((True) ∧ ((True) ∧ (True))))))))))))))))))))) := ⟨trivial, ⟨trivial, ⟨trivial, ⟨trivial, ⟨trivial, ⟨⟨trivial, c1⟩, ⟨trivial, ⟨trivial, ⟨trivial, ⟨trivial, ⟨trivial, ⟨trivial, ⟨⟨trivial, c4⟩, ⟨trivial, ⟨trivial, ⟨trivial, ⟨trivial, ⟨trivial, ⟨trivial, ⟨trivial, ⟨trivial, trivial⟩⟩⟩⟩⟩⟩⟩⟩⟩⟩⟩⟩⟩⟩⟩⟩⟩⟩⟩⟩⟩
      refine TS.reg [.none, .none, .none, .none, .none, .dec true, .none, .none, .none, .none, .none, .none, .dec false] ?_ ?_
      · apply prop_of ?_ hq
        kernel_rfl
      refine XS.then ?_
      refine TS.ret ?_
      obtain rfl : false = r := Option.some.inj h
      exact XS.fin [] ((True) ∧ (True)) (by kernel_rfl) ⟨trivial, trivial⟩
  · have hq : (True) ∧ ((True) ∧ ((True) ∧ ((True) ∧ ((True) ∧ (((True) ∧ (f_Class == g_Class) = false) ∧ ((True) ∧ ((True) ∧ ((True) ∧ ((True) ∧ ((True) ∧ ((True) ∧ ((True) ∧ ((True) ∧ ((True) ∧ ((True) ∧ (True)))))))))))))))) := ⟨trivial, ⟨trivial, ⟨trivial, ⟨trivial, ⟨trivial, ⟨⟨trivial, c2⟩, ⟨trivial, ⟨trivial, ⟨trivial, ⟨trivial, ⟨trivial, ⟨trivial, ⟨trivial, ⟨trivial, ⟨trivial, ⟨trivial, trivial⟩⟩⟩⟩⟩⟩⟩⟩⟩⟩⟩⟩⟩⟩⟩⟩
    refine TS.reg [.none, .none, .none, .none, .none, .dec false] ?_ ?_
    · apply prop_of ?_ hq
      kernel_rfl
    refine XS.then ?_
    refine TS.ret ?_
    obtain rfl : false = r := Option.some.inj h
    exact XS.fin [] ((True) ∧ (True)) (by kernel_rfl) ⟨trivial, trivial⟩

/-! plugtree/plugref.SameConfig -/
def F54_l4 (n : Nat) (a_Faces : List (Int × Int × Int × Int × (List (List UInt8)) × List (Int × Bool × Int × Int × Int))) (b_Faces : List (Int × Int × Int × Int × (List (List UInt8)) × List (Int × Bool × Int × Int × Int))) (k54_4 : Int → Option Bool) : Int → Option Bool
  | x => (bif (decide (x < ((a_Faces.length : Nat) : Int))) then (bif inb x a_Faces.length then (bif inb x b_Faces.length then ((F128 n ((a_Faces.getD x.toNat ((0 : Int), ((0 : Int), ((0 : Int), ((0 : Int), (([] : List (List UInt8)), ([] : List (Int × Bool × Int × Int × Int)))))))).1) ((a_Faces.getD x.toNat ((0 : Int), ((0 : Int), ((0 : Int), ((0 : Int), (([] : List (List UInt8)), ([] : List (Int × Bool × Int × Int × Int)))))))).2.1) ((a_Faces.getD x.toNat ((0 : Int), ((0 : Int), ((0 : Int), ((0 : Int), (([] : List (List UInt8)), ([] : List (Int × Bool × Int × Int × Int)))))))).2.2.1) ((a_Faces.getD x.toNat ((0 : Int), ((0 : Int), ((0 : Int), ((0 : Int), (([] : List (List UInt8)), ([] : List (Int × Bool × Int × Int × Int)))))))).2.2.2.1) ((a_Faces.getD x.toNat ((0 : Int), ((0 : Int), ((0 : Int), ((0 : Int), (([] : List (List UInt8)), ([] : List (Int × Bool × Int × Int × Int)))))))).2.2.2.2.1) ((a_Faces.getD x.toNat ((0 : Int), ((0 : Int), ((0 : Int), ((0 : Int), (([] : List (List UInt8)), ([] : List (Int × Bool × Int × Int × Int)))))))).2.2.2.2.2) ((b_Faces.getD x.toNat ((0 : Int), ((0 : Int), ((0 : Int), ((0 : Int), (([] : List (List UInt8)), ([] : List (Int × Bool × Int × Int × Int)))))))).1) ((b_Faces.getD x.toNat ((0 : Int), ((0 : Int), ((0 : Int), ((0 : Int), (([] : List (List UInt8)), ([] : List (Int × Bool × Int × Int × Int)))))))).2.1) ((b_Faces.getD x.toNat ((0 : Int), ((0 : Int), ((0 : Int), ((0 : Int), (([] : List (List UInt8)), ([] : List (Int × Bool × Int × Int × Int)))))))).2.2.1) ((b_Faces.getD x.toNat ((0 : Int), ((0 : Int), ((0 : Int), ((0 : Int), (([] : List (List UInt8)), ([] : List (Int × Bool × Int × Int × Int)))))))).2.2.2.1) ((b_Faces.getD x.toNat ((0 : Int), ((0 : Int), ((0 : Int), ((0 : Int), (([] : List (List UInt8)), ([] : List (Int × Bool × Int × Int × Int)))))))).2.2.2.2.1) ((b_Faces.getD x.toNat ((0 : Int), ((0 : Int), ((0 : Int), ((0 : Int), (([] : List (List UInt8)), ([] : List (Int × Bool × Int × Int × Int)))))))).2.2.2.2.2)).bind fun y_2 => (bif (!y_2) then (some false) else (k54_4 (IntKind.wrap .i64 (x + (1 : Int)))))) else none) else none) else (some true))
def F54 (n : Nat) (a_Value : Int) (a_Name : Int) (a_Attr : Int) (a_Power : Int) (a_Faces : List (Int × Int × Int × Int × (List (List UInt8)) × List (Int × Bool × Int × Int × Int))) (b_Value : Int) (b_Name : Int) (b_Attr : Int) (b_Power : Int) (b_Faces : List (Int × Int × Int × Int × (List (List UInt8)) × List (Int × Bool × Int × Int × Int))) : Option Bool := (bif (a_Value != b_Value) then (some false) else (bif (a_Name != b_Name) then (some false) else (bif (a_Attr != b_Attr) then (some false) else (bif (a_Power != b_Power) then (some false) else (bif (((a_Faces.length : Nat) : Int) != ((b_Faces.length : Nat) : Int)) then (some false) else (loopF (F54_l4 n a_Faces b_Faces) n (0 : Int)))))))
theorem F54_ok (n : Nat) (a_Value : Int) (a_Name : Int) (a_Attr : Int) (a_Power : Int) (a_Faces : List (Int × Int × Int × Int × (List (List UInt8)) × List (Int × Bool × Int × Int × Int))) (b_Value : Int) (b_Name : Int) (b_Attr : Int) (b_Power : Int) (b_Faces : List (Int × Int × Int × Int × (List (List UInt8)) × List (Int × Bool × Int × Int × Int))) (r : Bool) (h : F54 n a_Value a_Name a_Attr a_Power a_Faces b_Value b_Name b_Attr b_Power b_Faces = some r) : PureC Try.prog 54 [(.st (.cons (.int .i64 a_Value) (.cons (.int .i64 a_Name) (.cons (.int .i64 a_Attr) (.cons (.int .i64 a_Power) (.sl (.st (.pair (.int .i64) (.pair (.int .i64) (.pair (.int .i64) (.pair (.int .i64) (.pair (.sl .str) (.sl (.st (.pair (.int .i64) (.pair .bool (.pair (.int .i64) (.pair (.int .i64) (.int .i64))))))))))))) a_Faces)))))), (.st (.cons (.int .i64 b_Value) (.cons (.int .i64 b_Name) (.cons (.int .i64 b_Attr) (.cons (.int .i64 b_Power) (.sl (.st (.pair (.int .i64) (.pair (.int .i64) (.pair (.int .i64) (.pair (.int .i64) (.pair (.sl .str) (.sl (.st (.pair (.int .i64) (.pair .bool (.pair (.int .i64) (.pair (.int .i64) (.int .i64))))))))))))) b_Faces))))))] (.bool r) [] := by
  refine PureC.mkS Try.func54 rfl rfl ?_
  intro w0 fz0 hfz
  replace h : (bif (a_Value != b_Value) then (some false) else (bif (a_Name != b_Name) then (some false) else (bif (a_Attr != b_Attr) then (some false) else (bif (a_Power != b_Power) then (some false) else (bif (((a_Faces.length : Nat) : Int) != ((b_Faces.length : Nat) : Int)) then (some false) else (loopF (F54_l4 n a_Faces b_Faces) n (0 : Int))))))) = some r := h
  refine TS.seq ?_
  have hq : (True) ∧ ((True) ∧ ((True) ∧ (True))) := ⟨trivial, ⟨trivial, ⟨trivial, trivial⟩⟩⟩
  refine TS.reg [] ?_ ?_
  · apply prop_of ?_ hq
    kernel_rfl
  refine XS.then ?_
  refine TS.seq ?_
  refine TS.seq ?_
  rcases bif_some h with ⟨c1, h⟩ | ⟨c2, h⟩
  · have hq : (True) ∧ ((True) ∧ ((True) ∧ ((True) ∧ ((True) ∧ (((True) ∧ (a_Value != b_Value) = true) ∧ ((True) ∧ ((True) ∧ ((True) ∧ ((True) ∧ ((True) ∧ (True))))))))))) := ⟨trivial, ⟨trivial, ⟨trivial, ⟨trivial, ⟨trivial, ⟨⟨trivial, c1⟩, ⟨trivial, ⟨trivial, ⟨trivial, ⟨trivial, ⟨trivial, trivial⟩⟩⟩⟩⟩⟩⟩⟩⟩⟩⟩
    refine TS.reg [.none, .none, .none, .none, .none, .dec true] ?_ ?_
    · apply prop_of ?_ hq
      kernel_rfl
    refine XS.then ?_
    refine TS.yes ?_ ?_
    · kernel_rfl
    refine TS.seq ?_
    have hq : (True) ∧ (True) := ⟨trivial, trivial⟩
    refine TS.reg [] ?_ ?_
    · apply prop_of ?_ hq
      kernel_rfl
    refine XS.then ?_
    refine TS.ret ?_
    refine XS.passR ?_
    obtain rfl : false = r := Option.some.inj h
    exact XS.fin [] ((True) ∧ (True)) (by kernel_rfl) ⟨trivial, trivial⟩
  · rcases bif_some h with ⟨c3, h⟩ | ⟨c4, h⟩
    · have hq : (True) ∧ ((True) ∧ ((True) ∧ ((True) ∧ ((True) ∧ (((True) ∧ (a_Value != b_Value) = false) ∧ ((True) ∧ ((True) ∧ ((True) ∧ ((True) ∧ ((True) ∧ ((True) ∧ (((True) ∧ (a_Name != b_Name) = true) ∧ ((True) ∧ ((True) ∧ ((True) ∧ (True)))))))))))))))) := ⟨trivial, ⟨trivial, ⟨trivial, ⟨trivial, ⟨trivial, ⟨⟨trivial, c2⟩, ⟨trivial, ⟨trivial, ⟨trivial, ⟨trivial, ⟨trivial, ⟨trivial, ⟨⟨trivial, c3⟩, ⟨trivial, ⟨trivial, ⟨trivial, trivial⟩⟩⟩⟩⟩⟩⟩⟩⟩⟩⟩⟩⟩⟩⟩⟩
      refine TS.reg [.none, .none, .none, .none, .none, .dec false, .none, .none, .none, .none, .none, .none, .dec true] ?_ ?_
      · apply prop_of ?_ hq
        kernel_rfl
      refine XS.then ?_
      refine TS.yes ?_ ?_
      · kernel_rfl
      refine TS.seq ?_
      have hq : (True) ∧ (True) := ⟨trivial, trivial⟩
      refine TS.reg [] ?_ ?_
      · apply prop_of ?_ hq
        kernel_rfl
      refine XS.then ?_
      refine TS.ret ?_
      refine XS.passR ?_
      obtain rfl : false = r := Option.some.inj h
      exact XS.fin [] ((True) ∧ (True)) (by kernel_rfl) ⟨trivial, trivial⟩
    · rcases bif_some h with ⟨c5, h⟩ | ⟨c6, h⟩
      · have hq : (True) ∧ ((True) ∧ ((True) ∧ ((True) ∧ ((True) ∧ (((True) ∧ (a_Value != b_Value) = false) ∧ ((True) ∧ ((True) ∧ ((True) ∧ ((True) ∧ ((True) ∧ ((True) ∧ (((True) ∧ (a_Name != b_Name) = false) ∧ ((True) ∧ ((True) ∧ ((True) ∧ ((True) ∧ ((True) ∧ ((True) ∧ (((True) ∧ (a_Attr != b_Attr) = true) ∧ ((True) ∧ (True))))))))))))))))))))) := ⟨trivial, ⟨trivial, ⟨trivial, ⟨trivial, ⟨trivial, ⟨⟨trivial, c2⟩, ⟨trivial, ⟨trivial, ⟨trivial, ⟨trivial, ⟨trivial, ⟨trivial, ⟨⟨trivial, c4⟩, ⟨trivial, ⟨trivial, ⟨trivial, ⟨trivial, ⟨trivial, ⟨trivial, ⟨⟨trivial, c5⟩, ⟨trivial, trivial⟩⟩⟩⟩⟩⟩⟩⟩⟩⟩⟩⟩⟩⟩⟩⟩⟩⟩⟩⟩⟩
        refine TS.reg [.none, .none, .none, .none, .none, .dec false, .none, .none, .none, .none, .none, .none, .dec false, .none, .none, .none, .none, .none, .none, .dec true] ?_ ?_
        · apply prop_of ?_ hq
          kernel_rfl
        refine XS.then ?_
        refine TS.yes ?_ ?_
        · kernel_rfl
        refine TS.seq ?_
        have hq : (True) ∧ (True) := ⟨trivial, trivial⟩
        refine TS.reg [] ?_ ?_
        · apply prop_of ?_ hq
          kernel_rfl
        refine XS.then ?_
        refine TS.ret ?_
        refine XS.passR ?_
        obtain rfl : false = r := Option.some.inj h
        exact XS.fin [] ((True) ∧ (True)) (by kernel_rfl) ⟨trivial, trivial⟩
      · have hq : (True) ∧ ((True) ∧ ((True) ∧ ((True) ∧ ((True) ∧ (((True) ∧ (a_Value != b_Value) = false) ∧ ((True) ∧ ((True) ∧ ((True) ∧ ((True) ∧ ((True) ∧ ((True) ∧ (((True) ∧ (a_Name != b_Name) = false) ∧ ((True) ∧ ((True) ∧ ((True) ∧ ((True) ∧ ((True) ∧ ((True) ∧ (((True) ∧ (a_Attr != b_Attr) = false) ∧ ((True) ∧ ((True) ∧ ((True) ∧ ((True) ∧ ((True) ∧ ((True) ∧ (True)))))))))))))))))))))))))) := ⟨trivial, ⟨trivial, ⟨trivial, ⟨trivial, ⟨trivial, ⟨⟨trivial, c2⟩, ⟨trivial, ⟨trivial, ⟨trivial, ⟨trivial, ⟨trivial, ⟨trivial, ⟨⟨trivial, c4⟩, ⟨trivial, ⟨trivial, ⟨trivial, ⟨trivial, ⟨trivial, ⟨trivial, ⟨⟨trivial, c6⟩, ⟨trivial, ⟨trivial, ⟨trivial, ⟨trivial, ⟨trivial, ⟨trivial, trivial⟩⟩⟩⟩⟩⟩⟩⟩⟩⟩⟩⟩⟩⟩⟩⟩⟩⟩⟩⟩⟩⟩⟩⟩⟩⟩
        refine TS.reg [.none, .none, .none, .none, .none, .dec false, .none, .none, .none, .none, .none, .none, .dec false, .none, .none, .none, .none, .none, .none, .dec false] ?_ ?_
        · apply prop_of ?_ hq
          kernel_rfl
        refine XS.then ?_
        rcases bif_some h with ⟨c7, h⟩ | ⟨c8, h⟩
        · refine TS.cond (a_Power != b_Power) ?_ (fun e => ?_) (fun e => by rw [c7] at e; cases e)
          · kernel_rfl
          refine TS.seq ?_
          have hq : (True) ∧ (True) := ⟨trivial, trivial⟩
          refine TS.reg [] ?_ ?_
          · apply prop_of ?_ hq
            kernel_rfl
          refine XS.then ?_
          refine TS.ret ?_
          refine XS.passR ?_
          obtain rfl : false = r := Option.some.inj h
          exact XS.fin [] ((True) ∧ (True)) (by kernel_rfl) ⟨trivial, trivial⟩
        · refine TS.cond (a_Power != b_Power) ?_ (fun e => by rw [c8] at e; cases e) (fun e => ?_)
          · kernel_rfl
          refine TS.skip ?_
          refine XS.then ?_
          refine TS.seq ?_
          refine TS.opsOf ?_
          have hq : (True) ∧ ((True) ∧ ((True) ∧ ((True) ∧ (True)))) := ⟨trivial, ⟨trivial, ⟨trivial, ⟨trivial, trivial⟩⟩⟩⟩
          refine TOS.run 4 [] (by kernel_rfl) ?_ ?_
          · apply prop_of ?_ hq
            kernel_rfl
          refine TOS.call 127 (mkMask 36 [4]) Try.func127 rfl ?_
          intro fv2
          refine ⟨(mkTs 32 [(0, (.sl (.st (.pair (.int .i64) (.pair (.int .i64) (.pair (.int .i64) (.pair (.int .i64) (.pair (.sl .str) (.sl (.st (.pair (.int .i64) (.pair .bool (.pair (.int .i64) (.pair (.int .i64) (.int .i64))))))))))))) a_Faces)), (1, (.sl (.st (.pair (.int .i64) (.pair (.int .i64) (.pair (.int .i64) (.pair (.int .i64) (.pair (.sl .str) (.sl (.st (.pair (.int .i64) (.pair .bool (.pair (.int .i64) (.pair (.int .i64) (.int .i64))))))))))))) b_Faces)), (2, (.fn 128 .nil))], [(.box 26 (.st (.cons (.int .i64 a_Value) (.cons (.int .i64 a_Name) (.cons (.int .i64 a_Attr) (.cons (.int .i64 a_Power) (.sl (.st (.pair (.int .i64) (.pair (.int .i64) (.pair (.int .i64) (.pair (.int .i64) (.pair (.sl .str) (.sl (.st (.pair (.int .i64) (.pair .bool (.pair (.int .i64) (.pair (.int .i64) (.int .i64))))))))))))) a_Faces))))))), (.box 26 (.st (.cons (.int .i64 b_Value) (.cons (.int .i64 b_Name) (.cons (.int .i64 b_Attr) (.cons (.int .i64 b_Power) (.sl (.st (.pair (.int .i64) (.pair (.int .i64) (.pair (.int .i64) (.pair (.int .i64) (.pair (.sl .str) (.sl (.st (.pair (.int .i64) (.pair .bool (.pair (.int .i64) (.pair (.int .i64) (.int .i64))))))))))))) b_Faces))))))), (.sav (mkTs 36 [(4, (.bool false))]) fv2)]), by kernel_rfl, ?_⟩
          refine TS.seq ?_
          have hq : (True) ∧ (True) := ⟨trivial, trivial⟩
          refine TS.reg [] ?_ ?_
          · apply prop_of ?_ hq
            kernel_rfl
          refine XS.then ?_
          refine TS.seq ?_
          refine TS.seq ?_
          have hq : (True) ∧ ((True) ∧ ((True) ∧ ((True) ∧ ((True) ∧ (True))))) := ⟨trivial, ⟨trivial, ⟨trivial, ⟨trivial, ⟨trivial, trivial⟩⟩⟩⟩⟩
          refine TS.reg [] ?_ ?_
          · apply prop_of ?_ hq
            kernel_rfl
          refine XS.then ?_
          rcases bif_some h with ⟨c9, h⟩ | ⟨c10, h⟩
          · refine TS.cond (((a_Faces.length : Nat) : Int) != ((b_Faces.length : Nat) : Int)) ?_ (fun e => ?_) (fun e => by rw [c9] at e; cases e)
            · kernel_rfl
            refine TS.seq ?_
            have hq : (True) ∧ (True) := ⟨trivial, trivial⟩
            refine TS.reg [] ?_ ?_
            · apply prop_of ?_ hq
              kernel_rfl
            refine XS.then ?_
            refine TS.ret ?_
            refine XS.passR ?_
            refine XS.backR 2 (mkTs 36 [(4, (.bool false))]) (mkTs 36 [(4, (.bool false)), (35, (.bool false))], [(.box 26 (.st (.cons (.int .i64 a_Value) (.cons (.int .i64 a_Name) (.cons (.int .i64 a_Attr) (.cons (.int .i64 a_Power) (.sl (.st (.pair (.int .i64) (.pair (.int .i64) (.pair (.int .i64) (.pair (.int .i64) (.pair (.sl .str) (.sl (.st (.pair (.int .i64) (.pair .bool (.pair (.int .i64) (.pair (.int .i64) (.int .i64))))))))))))) a_Faces))))))), (.box 26 (.st (.cons (.int .i64 b_Value) (.cons (.int .i64 b_Name) (.cons (.int .i64 b_Attr) (.cons (.int .i64 b_Power) (.sl (.st (.pair (.int .i64) (.pair (.int .i64) (.pair (.int .i64) (.pair (.int .i64) (.pair (.sl .str) (.sl (.st (.pair (.int .i64) (.pair .bool (.pair (.int .i64) (.pair (.int .i64) (.int .i64))))))))))))) b_Faces))))))), .dead]) ((True) ∧ (True)) (by kernel_rfl) (by kernel_rfl) ⟨trivial, trivial⟩ ?_
            refine KS.opsOf ?_
            have hq : (True) ∧ (True) := ⟨trivial, trivial⟩
            refine TOS.run 1 [] (by kernel_rfl) ?_ ?_
            · apply prop_of ?_ hq
              kernel_rfl
            refine TOS.nil (by kernel_rfl) ?_
            refine XS.then ?_
            refine TS.ret ?_
            obtain rfl : false = r := Option.some.inj h
            exact XS.fin [] ((True) ∧ (True)) (by kernel_rfl) ⟨trivial, trivial⟩
          · refine TS.cond (((a_Faces.length : Nat) : Int) != ((b_Faces.length : Nat) : Int)) ?_ (fun e => by rw [c10] at e; cases e) (fun e => ?_)
            · kernel_rfl
            refine TS.skip ?_
            refine XS.then ?_
            refine TS.seq ?_
            refine TS.seq ?_
            have hq : (True) ∧ ((True) ∧ ((True) ∧ (True))) := ⟨trivial, ⟨trivial, ⟨trivial, trivial⟩⟩⟩
            refine TS.reg [] ?_ ?_
            · apply prop_of ?_ hq
              kernel_rfl
            refine XS.then ?_
            refine TS.block ?_
            refine TS.reLoop [2] (mkMask 32 [1, 2, 15, 16, 17]) (D := Int) (fun d => match d with | x => (mkTs 32 [(1, (.sl (.st (.pair (.int .i64) (.pair (.int .i64) (.pair (.int .i64) (.pair (.int .i64) (.pair (.sl .str) (.sl (.st (.pair (.int .i64) (.pair .bool (.pair (.int .i64) (.pair (.int .i64) (.int .i64))))))))))))) b_Faces)), (2, (.fn 128 .nil)), (15, (.sl (.st (.pair (.int .i64) (.pair (.int .i64) (.pair (.int .i64) (.pair (.int .i64) (.pair (.sl .str) (.sl (.st (.pair (.int .i64) (.pair .bool (.pair (.int .i64) (.pair (.int .i64) (.int .i64))))))))))))) a_Faces)), (16, (.int .i64 ((a_Faces.length : Nat) : Int))), (17, (.int .i64 x))], [(.sav (mkTs 36 [(4, (.bool false))]) fv2)])) (fun n' d => loopF (F54_l4 n a_Faces b_Faces) n' d = some r) n (0 : Int) h ?_ (fun d => loopF_zero _ d r) ?_
            · kernel_rfl
            · rintro n4 x h
              replace h : (bif (decide (x < ((a_Faces.length : Nat) : Int))) then (bif inb x a_Faces.length then (bif inb x b_Faces.length then ((F128 n ((a_Faces.getD x.toNat ((0 : Int), ((0 : Int), ((0 : Int), ((0 : Int), (([] : List (List UInt8)), ([] : List (Int × Bool × Int × Int × Int)))))))).1) ((a_Faces.getD x.toNat ((0 : Int), ((0 : Int), ((0 : Int), ((0 : Int), (([] : List (List UInt8)), ([] : List (Int × Bool × Int × Int × Int)))))))).2.1) ((a_Faces.getD x.toNat ((0 : Int), ((0 : Int), ((0 : Int), ((0 : Int), (([] : List (List UInt8)), ([] : List (Int × Bool × Int × Int × Int)))))))).2.2.1) ((a_Faces.getD x.toNat ((0 : Int), ((0 : Int), ((0 : Int), ((0 : Int), (([] : List (List UInt8)), ([] : List (Int × Bool × Int × Int × Int)))))))).2.2.2.1) ((a_Faces.getD x.toNat ((0 : Int), ((0 : Int), ((0 : Int), ((0 : Int), (([] : List (List UInt8)), ([] : List (Int × Bool × Int × Int × Int)))))))).2.2.2.2.1) ((a_Faces.getD x.toNat ((0 : Int), ((0 : Int), ((0 : Int), ((0 : Int), (([] : List (List UInt8)), ([] : List (Int × Bool × Int × Int × Int)))))))).2.2.2.2.2) ((b_Faces.getD x.toNat ((0 : Int), ((0 : Int), ((0 : Int), ((0 : Int), (([] : List (List UInt8)), ([] : List (Int × Bool × Int × Int × Int)))))))).1) ((b_Faces.getD x.toNat ((0 : Int), ((0 : Int), ((0 : Int), ((0 : Int), (([] : List (List UInt8)), ([] : List (Int × Bool × Int × Int × Int)))))))).2.1) ((b_Faces.getD x.toNat ((0 : Int), ((0 : Int), ((0 : Int), ((0 : Int), (([] : List (List UInt8)), ([] : List (Int × Bool × Int × Int × Int)))))))).2.2.1) ((b_Faces.getD x.toNat ((0 : Int), ((0 : Int), ((0 : Int), ((0 : Int), (([] : List (List UInt8)), ([] : List (Int × Bool × Int × Int × Int)))))))).2.2.2.1) ((b_Faces.getD x.toNat ((0 : Int), ((0 : Int), ((0 : Int), ((0 : Int), (([] : List (List UInt8)), ([] : List (Int × Bool × Int × Int × Int)))))))).2.2.2.2.1) ((b_Faces.getD x.toNat ((0 : Int), ((0 : Int), ((0 : Int), ((0 : Int), (([] : List (List UInt8)), ([] : List (Int × Bool × Int × Int × Int)))))))).2.2.2.2.2)).bind fun y_2 => (bif (!y_2) then (some false) else ((loopF (F54_l4 n a_Faces b_Faces) n4) (IntKind.wrap .i64 (x + (1 : Int)))))) else none) else none) else (some true)) = some r := h
              refine TS.seq ?_
              have hq : (True) ∧ (True) := ⟨trivial, trivial⟩
              refine TS.reg [] ?_ ?_
              · apply prop_of ?_ hq
                kernel_rfl
              refine XS.then ?_
              refine TS.seq ?_
              rcases bif_some h with ⟨c11, h⟩ | ⟨c12, h⟩
              · refine TS.cond (decide (x < ((a_Faces.length : Nat) : Int))) ?_ (fun e => ?_) (fun e => by rw [c11] at e; cases e)
                · kernel_rfl
                refine TS.skip ?_
                refine XS.then ?_
                refine TS.seq ?_
                refine TS.block ?_
                refine TS.seq ?_
                obtain ⟨t13, h⟩ := test_some h
                have hq : (True) ∧ ((inR x a_Faces.length) ∧ ((True) ∧ ((True) ∧ ((True) ∧ ((True) ∧ (True)))))) := ⟨trivial, ⟨inb_ok t13, ⟨trivial, ⟨trivial, ⟨trivial, ⟨trivial, trivial⟩⟩⟩⟩⟩⟩
                refine TS.reg [] ?_ ?_
                · apply prop_of ?_ hq
                  kernel_rfl
                refine XS.then ?_
                refine TS.seq ?_
                obtain ⟨t14, h⟩ := test_some h
                have hq : (True) ∧ ((True) ∧ ((inR x b_Faces.length) ∧ ((True) ∧ ((True) ∧ ((True) ∧ (True)))))) := ⟨trivial, ⟨trivial, ⟨inb_ok t14, ⟨trivial, ⟨trivial, ⟨trivial, trivial⟩⟩⟩⟩⟩⟩
                refine TS.reg [] ?_ ?_
                · apply prop_of ?_ hq
                  kernel_rfl
                refine XS.then ?_
                refine TS.seq ?_
                obtain ⟨y_2, hx15, h⟩ := bind_some' h
                have hq : (True) ∧ ((True) ∧ ((True) ∧ ((PureC Try.prog 128 [(.st (.cons (.int .i64 (a_Faces.getD x.toNat ((0 : Int), ((0 : Int), ((0 : Int), ((0 : Int), (([] : List (List UInt8)), ([] : List (Int × Bool × Int × Int × Int)))))))).1) (.cons (.int .i64 (a_Faces.getD x.toNat ((0 : Int), ((0 : Int), ((0 : Int), ((0 : Int), (([] : List (List UInt8)), ([] : List (Int × Bool × Int × Int × Int)))))))).2.1) (.cons (.int .i64 (a_Faces.getD x.toNat ((0 : Int), ((0 : Int), ((0 : Int), ((0 : Int), (([] : List (List UInt8)), ([] : List (Int × Bool × Int × Int × Int)))))))).2.2.1) (.cons (.int .i64 (a_Faces.getD x.toNat ((0 : Int), ((0 : Int), ((0 : Int), ((0 : Int), (([] : List (List UInt8)), ([] : List (Int × Bool × Int × Int × Int)))))))).2.2.2.1) (.cons (.sl .str (a_Faces.getD x.toNat ((0 : Int), ((0 : Int), ((0 : Int), ((0 : Int), (([] : List (List UInt8)), ([] : List (Int × Bool × Int × Int × Int)))))))).2.2.2.2.1) (.sl (.st (.pair (.int .i64) (.pair .bool (.pair (.int .i64) (.pair (.int .i64) (.int .i64)))))) (a_Faces.getD x.toNat ((0 : Int), ((0 : Int), ((0 : Int), ((0 : Int), (([] : List (List UInt8)), ([] : List (Int × Bool × Int × Int × Int)))))))).2.2.2.2.2))))))), (.st (.cons (.int .i64 (b_Faces.getD x.toNat ((0 : Int), ((0 : Int), ((0 : Int), ((0 : Int), (([] : List (List UInt8)), ([] : List (Int × Bool × Int × Int × Int)))))))).1) (.cons (.int .i64 (b_Faces.getD x.toNat ((0 : Int), ((0 : Int), ((0 : Int), ((0 : Int), (([] : List (List UInt8)), ([] : List (Int × Bool × Int × Int × Int)))))))).2.1) (.cons (.int .i64 (b_Faces.getD x.toNat ((0 : Int), ((0 : Int), ((0 : Int), ((0 : Int), (([] : List (List UInt8)), ([] : List (Int × Bool × Int × Int × Int)))))))).2.2.1) (.cons (.int .i64 (b_Faces.getD x.toNat ((0 : Int), ((0 : Int), ((0 : Int), ((0 : Int), (([] : List (List UInt8)), ([] : List (Int × Bool × Int × Int × Int)))))))).2.2.2.1) (.cons (.sl .str (b_Faces.getD x.toNat ((0 : Int), ((0 : Int), ((0 : Int), ((0 : Int), (([] : List (List UInt8)), ([] : List (Int × Bool × Int × Int × Int)))))))).2.2.2.2.1) (.sl (.st (.pair (.int .i64) (.pair .bool (.pair (.int .i64) (.pair (.int .i64) (.int .i64)))))) (b_Faces.getD x.toNat ((0 : Int), ((0 : Int), ((0 : Int), ((0 : Int), (([] : List (List UInt8)), ([] : List (Int × Bool × Int × Int × Int)))))))).2.2.2.2.2)))))))] (.bool y_2) []) ∧ ((True) ∧ (True))))) := ⟨trivial, ⟨trivial, ⟨trivial, ⟨F128_ok n ((a_Faces.getD x.toNat ((0 : Int), ((0 : Int), ((0 : Int), ((0 : Int), (([] : List (List UInt8)), ([] : List (Int × Bool × Int × Int × Int)))))))).1) ((a_Faces.getD x.toNat ((0 : Int), ((0 : Int), ((0 : Int), ((0 : Int), (([] : List (List UInt8)), ([] : List (Int × Bool × Int × Int × Int)))))))).2.1) ((a_Faces.getD x.toNat ((0 : Int), ((0 : Int), ((0 : Int), ((0 : Int), (([] : List (List UInt8)), ([] : List (Int × Bool × Int × Int × Int)))))))).2.2.1) ((a_Faces.getD x.toNat ((0 : Int), ((0 : Int), ((0 : Int), ((0 : Int), (([] : List (List UInt8)), ([] : List (Int × Bool × Int × Int × Int)))))))).2.2.2.1) ((a_Faces.getD x.toNat ((0 : Int), ((0 : Int), ((0 : Int), ((0 : Int), (([] : List (List UInt8)), ([] : List (Int × Bool × Int × Int × Int)))))))).2.2.2.2.1) ((a_Faces.getD x.toNat ((0 : Int), ((0 : Int), ((0 : Int), ((0 : Int), (([] : List (List UInt8)), ([] : List (Int × Bool × Int × Int × Int)))))))).2.2.2.2.2) ((b_Faces.getD x.toNat ((0 : Int), ((0 : Int), ((0 : Int), ((0 : Int), (([] : List (List UInt8)), ([] : List (Int × Bool × Int × Int × Int)))))))).1) ((b_Faces.getD x.toNat ((0 : Int), ((0 : Int), ((0 : Int), ((0 : Int), (([] : List (List UInt8)), ([] : List (Int × Bool × Int × Int × Int)))))))).2.1) ((b_Faces.getD x.toNat ((0 : Int), ((0 : Int), ((0 : Int), ((0 : Int), (([] : List (List UInt8)), ([] : List (Int × Bool × Int × Int × Int)))))))).2.2.1) ((b_Faces.getD x.toNat ((0 : Int), ((0 : Int), ((0 : Int), ((0 : Int), (([] : List (List UInt8)), ([] : List (Int × Bool × Int × Int × Int)))))))).2.2.2.1) ((b_Faces.getD x.toNat ((0 : Int), ((0 : Int), ((0 : Int), ((0 : Int), (([] : List (List UInt8)), ([] : List (Int × Bool × Int × Int × Int)))))))).2.2.2.2.1) ((b_Faces.getD x.toNat ((0 : Int), ((0 : Int), ((0 : Int), ((0 : Int), (([] : List (List UInt8)), ([] : List (Int × Bool × Int × Int × Int)))))))).2.2.2.2.2) y_2 hx15, ⟨trivial, trivial⟩⟩⟩⟩⟩
                refine TS.reg [.none, .none, .none, (.call (.bool y_2) [])] ?_ ?_
                · apply prop_of ?_ hq
                  kernel_rfl
                refine XS.then ?_
                rcases bif_some h with ⟨c16, h⟩ | ⟨c17, h⟩
                · refine TS.cond (!y_2) ?_ (fun e => ?_) (fun e => by rw [c16] at e; cases e)
                  · kernel_rfl
                  refine TS.seq ?_
                  have hq : (True) ∧ (True) := ⟨trivial, trivial⟩
                  refine TS.reg [] ?_ ?_
                  · apply prop_of ?_ hq
                    kernel_rfl
                  refine XS.then ?_
                  refine TS.ret ?_
                  refine XS.blockRet ?_
                  refine XS.passR ?_
                  refine XS.passR ?_
                  refine XS.blockRet ?_
                  refine XS.passR ?_
                  refine XS.backR 0 (mkTs 36 [(4, (.bool false))]) (mkTs 36 [(4, (.bool false)), (35, (.bool false))], [.dead, (.box 108 (.st (.cons (.int .i64 (a_Faces.getD x.toNat ((0 : Int), ((0 : Int), ((0 : Int), ((0 : Int), (([] : List (List UInt8)), ([] : List (Int × Bool × Int × Int × Int)))))))).1) (.cons (.int .i64 (a_Faces.getD x.toNat ((0 : Int), ((0 : Int), ((0 : Int), ((0 : Int), (([] : List (List UInt8)), ([] : List (Int × Bool × Int × Int × Int)))))))).2.1) (.cons (.int .i64 (a_Faces.getD x.toNat ((0 : Int), ((0 : Int), ((0 : Int), ((0 : Int), (([] : List (List UInt8)), ([] : List (Int × Bool × Int × Int × Int)))))))).2.2.1) (.cons (.int .i64 (a_Faces.getD x.toNat ((0 : Int), ((0 : Int), ((0 : Int), ((0 : Int), (([] : List (List UInt8)), ([] : List (Int × Bool × Int × Int × Int)))))))).2.2.2.1) (.cons (.sl .str (a_Faces.getD x.toNat ((0 : Int), ((0 : Int), ((0 : Int), ((0 : Int), (([] : List (List UInt8)), ([] : List (Int × Bool × Int × Int × Int)))))))).2.2.2.2.1) (.sl (.st (.pair (.int .i64) (.pair .bool (.pair (.int .i64) (.pair (.int .i64) (.int .i64)))))) (a_Faces.getD x.toNat ((0 : Int), ((0 : Int), ((0 : Int), ((0 : Int), (([] : List (List UInt8)), ([] : List (Int × Bool × Int × Int × Int)))))))).2.2.2.2.2)))))))), (.box 108 (.st (.cons (.int .i64 (b_Faces.getD x.toNat ((0 : Int), ((0 : Int), ((0 : Int), ((0 : Int), (([] : List (List UInt8)), ([] : List (Int × Bool × Int × Int × Int)))))))).1) (.cons (.int .i64 (b_Faces.getD x.toNat ((0 : Int), ((0 : Int), ((0 : Int), ((0 : Int), (([] : List (List UInt8)), ([] : List (Int × Bool × Int × Int × Int)))))))).2.1) (.cons (.int .i64 (b_Faces.getD x.toNat ((0 : Int), ((0 : Int), ((0 : Int), ((0 : Int), (([] : List (List UInt8)), ([] : List (Int × Bool × Int × Int × Int)))))))).2.2.1) (.cons (.int .i64 (b_Faces.getD x.toNat ((0 : Int), ((0 : Int), ((0 : Int), ((0 : Int), (([] : List (List UInt8)), ([] : List (Int × Bool × Int × Int × Int)))))))).2.2.2.1) (.cons (.sl .str (b_Faces.getD x.toNat ((0 : Int), ((0 : Int), ((0 : Int), ((0 : Int), (([] : List (List UInt8)), ([] : List (Int × Bool × Int × Int × Int)))))))).2.2.2.2.1) (.sl (.st (.pair (.int .i64) (.pair .bool (.pair (.int .i64) (.pair (.int .i64) (.int .i64)))))) (b_Faces.getD x.toNat ((0 : Int), ((0 : Int), ((0 : Int), ((0 : Int), (([] : List (List UInt8)), ([] : List (Int × Bool × Int × Int × Int)))))))).2.2.2.2.2))))))))]) ((True) ∧ (True)) (by kernel_rfl) (by kernel_rfl) ⟨trivial, trivial⟩ ?_
                  refine KS.opsOf ?_
                  have hq : (True) ∧ (True) := ⟨trivial, trivial⟩
                  refine TOS.run 1 [] (by kernel_rfl) ?_ ?_
                  · apply prop_of ?_ hq
                    kernel_rfl
                  refine TOS.nil (by kernel_rfl) ?_
                  refine XS.then ?_
                  refine TS.ret ?_
                  obtain rfl : false = r := Option.some.inj h
                  exact XS.fin [] ((True) ∧ (True)) (by kernel_rfl) ⟨trivial, trivial⟩
                · refine TS.cond (!y_2) ?_ (fun e => by rw [c17] at e; cases e) (fun e => ?_)
                  · kernel_rfl
                  refine TS.skip ?_
                  refine XS.blockEnd ?_
                  refine XS.then ?_
                  have hq : (True) ∧ ((True) ∧ (True)) := ⟨trivial, ⟨trivial, trivial⟩⟩
                  refine TS.reg [] ?_ ?_
                  · apply prop_of ?_ hq
                    kernel_rfl
                  refine XS.reAny [0] (mkMask 32 [1, 2, 15, 16, 17]) (IntKind.wrap .i64 (x + (1 : Int))) h ?_
                  kernel_rfl
              · refine TS.cond (decide (x < ((a_Faces.length : Nat) : Int))) ?_ (fun e => by rw [c12] at e; cases e) (fun e => ?_)
                · kernel_rfl
                refine TS.exit ?_
                refine XS.passE ?_
                refine XS.passE ?_
                refine XS.out ?_
                refine XS.then ?_
                refine TS.seq ?_
                have hq : (True) ∧ (True) := ⟨trivial, trivial⟩
                refine TS.reg [] ?_ ?_
                · apply prop_of ?_ hq
                  kernel_rfl
                refine XS.then ?_
                refine TS.ret ?_
                refine XS.backR 0 (mkTs 36 [(4, (.bool false))]) (mkTs 36 [(4, (.bool false)), (35, (.bool true))], [.dead]) ((True) ∧ (True)) (by kernel_rfl) (by kernel_rfl) ⟨trivial, trivial⟩ ?_
                refine KS.opsOf ?_
                have hq : (True) ∧ (True) := ⟨trivial, trivial⟩
                refine TOS.run 1 [] (by kernel_rfl) ?_ ?_
                · apply prop_of ?_ hq
                  kernel_rfl
                refine TOS.nil (by kernel_rfl) ?_
                refine XS.then ?_
                refine TS.ret ?_
                obtain rfl : true = r := Option.some.inj h
                exact XS.fin [] ((True) ∧ (True)) (by kernel_rfl) ⟨trivial, trivial⟩
end Go.Proofs.Ytmcjcioifgaihaa
