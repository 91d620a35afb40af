/- Functions of the program, as functions of values. -/
import Derived.Test.YtbodjbpgdkkohaaFbsx2
import Derived.Test.YtbodjbpgdkkohaaChecked
namespace Go.Proofs.Ytbodjbpgdkkohaa
open Go Go.RowKit
set_option linter.unusedVariables false
set_option maxRecDepth 100000

/-! plugtree/plugref.Served -/
def F12_j6 (n : Nat) (y_7 : Int × Int × Bool × Int × (List UInt8) × Int) (y_9 : Int × Int × Int × Int × Int) (y_11 : (List (List UInt8)) × Int × (List UInt8) × Int) : (List UInt8) → Option ((List (List UInt8)) × Int × (List UInt8) × (List UInt8) × Int)
  | t => (bif subB t.length none (some (if y_9.2.1 < ((t.length : Nat) : Int) then y_9.2.1 else ((t.length : Nat) : Int))) then ((F36 n (0 : Int) y_7.1 y_7.2.1 y_7.2.2.1 y_7.2.2.2.1 y_7.2.2.2.2.1 y_9.1 y_9.2.1 y_9.2.2.1 y_9.2.2.2.1).bind fun y_13 => (some (y_11.1, y_11.2.1, (t.take (if y_9.2.1 < ((t.length : Nat) : Int) then y_9.2.1 else ((t.length : Nat) : Int)).toNat), y_13, (0 : Int)))) else none)
def F12_j5 (n : Nat) (d_Blocks : List (List UInt8)) (d_Sense : Int) (y_7 : Int × Int × Bool × Int × (List UInt8) × Int) (m3 : Int) (y_9 : Int × Int × Int × Int × Int) : (List UInt8) → Option ((List (List UInt8)) × Int × (List UInt8) × (List UInt8) × Int)
  | given => ((F9 n d_Blocks d_Sense y_7.2.2.2.2.1 given).bind fun y_11 => (bif (y_11.2.2.2 != (0 : Int)) then ((F36 n (1 : Int) y_7.1 y_7.2.1 y_7.2.2.1 y_7.2.2.2.1 y_7.2.2.2.2.1 y_9.1 y_9.2.1 y_9.2.2.1 y_9.2.2.2.1).bind fun y_12 => (some (y_11.1, y_11.2.1, ([] : List UInt8), y_12, (0 : Int)))) else (bif (m3 != (1 : Int)) then (F12_j6 n y_7 y_9 y_11 ([] : List UInt8)) else (F12_j6 n y_7 y_9 y_11 y_11.2.2.1))))
def F12_j4 (n : Nat) (d_Blocks : List (List UInt8)) (d_Sense : Int) (data : List UInt8) (y_7 : Int × Int × Bool × Int × (List UInt8) × Int) : (Int × Int) → Option ((List (List UInt8)) × Int × (List UInt8) × (List UInt8) × Int)
  | (m3, m3_2) => ((F35 n d_Blocks d_Sense y_7.2.2.2.2.1).bind fun y_8 => ((F34 n m3 m3_2 y_8.1 y_8.2).bind fun y_9 => (bif (y_9.2.2.2.1 == (2 : Int)) then ((F36 n (2 : Int) y_7.1 y_7.2.1 y_7.2.2.1 y_7.2.2.2.1 y_7.2.2.2.2.1 y_9.1 y_9.2.1 y_9.2.2.1 y_9.2.2.2.1).bind fun y_10 => (some (d_Blocks, d_Sense, ([] : List UInt8), y_10, (0 : Int)))) else (bif (m3 == (2 : Int)) then (bif (((data.length : Nat) : Int) != m3_2) then (some (d_Blocks, d_Sense, ([] : List UInt8), ([] : List UInt8), (3 : Int))) else (bif subB data.length none (some y_9.2.1) then (F12_j5 n d_Blocks d_Sense y_7 m3 y_9 (data.take y_9.2.1.toNat)) else none)) else (F12_j5 n d_Blocks d_Sense y_7 m3 y_9 ([] : List UInt8))))))
def F12 (n : Nat) (d_Blocks : List (List UInt8)) (d_Sense : Int) (wrap : List UInt8) (data : List UInt8) : Option ((List (List UInt8)) × Int × (List UInt8) × (List UInt8) × Int) := ((F24 n d_Blocks d_Sense).bind fun y_6 => (bif (y_6 != (0 : Int)) then (some (d_Blocks, d_Sense, ([] : List UInt8), ([] : List UInt8), y_6)) else ((F33 n wrap).bind fun y_7 => (bif (y_7.2.2.2.2.2 != (0 : Int)) then (some (d_Blocks, d_Sense, ([] : List UInt8), ([] : List UInt8), (8 : Int))) else (bif (decide (y_7.2.2.2.1 > (0 : Int))) then (some (d_Blocks, d_Sense, ([] : List UInt8), ([] : List UInt8), (8 : Int))) else (bif (decide (y_7.2.1 > (0 : Int))) then (bif y_7.2.2.1 then (F12_j4 n d_Blocks d_Sense data y_7 ((1 : Int), y_7.2.1)) else (F12_j4 n d_Blocks d_Sense data y_7 ((2 : Int), y_7.2.1))) else (F12_j4 n d_Blocks d_Sense data y_7 ((0 : Int), (0 : Int)))))))))
theorem F12_ok (n : Nat) (d_Blocks : List (List UInt8)) (d_Sense : Int) (wrap : List UInt8) (data : List UInt8) (r : (List (List UInt8)) × Int × (List UInt8) × (List UInt8) × Int) (h : F12 n d_Blocks d_Sense wrap data = some r) : PureC Try.prog 12 [(.st (.cons (.sl .str d_Blocks) (.int .i64 d_Sense))), (.str wrap), (.str data)] (.tup (.cons (.st (.cons (.sl .str r.1) (.int .i64 r.2.1))) (.cons (.str r.2.2.1) (.cons (.str r.2.2.2.1) (.cons (.int .i64 r.2.2.2.2) .nil))))) [] := by
  refine PureC.mkS Try.func12 rfl rfl ?_
  intro w0 fz0 hfz
  replace h : ((F24 n d_Blocks d_Sense).bind fun y_6 => (bif (y_6 != (0 : Int)) then (some (d_Blocks, d_Sense, ([] : List UInt8), ([] : List UInt8), y_6)) else ((F33 n wrap).bind fun y_7 => (bif (y_7.2.2.2.2.2 != (0 : Int)) then (some (d_Blocks, d_Sense, ([] : List UInt8), ([] : List UInt8), (8 : Int))) else (bif (decide (y_7.2.2.2.1 > (0 : Int))) then (some (d_Blocks, d_Sense, ([] : List UInt8), ([] : List UInt8), (8 : Int))) else (bif (decide (y_7.2.1 > (0 : Int))) then (bif y_7.2.2.1 then (F12_j4 n d_Blocks d_Sense data y_7 ((1 : Int), y_7.2.1)) else (F12_j4 n d_Blocks d_Sense data y_7 ((2 : Int), y_7.2.1))) else (F12_j4 n d_Blocks d_Sense data y_7 ((0 : Int), (0 : Int))))))))) = some r := h
  refine TS.seq ?_
  have hq : (True) ∧ ((True) ∧ ((True) ∧ ((True) ∧ ((True) ∧ (True))))) := ⟨trivial, ⟨trivial, ⟨trivial, ⟨trivial, ⟨trivial, trivial⟩⟩⟩⟩⟩
  refine TS.reg [] ?_ ?_
  · apply prop_of ?_ hq
    kernel_rfl
  refine XS.then ?_
  refine TS.seq ?_
  refine TS.seq ?_
  obtain ⟨y_6, hx1, h⟩ := bind_some' h
  have hq : (True) ∧ ((PureC Try.prog 24 [(.st (.cons (.sl .str d_Blocks) (.int .i64 d_Sense)))] (.int .i64 y_6) []) ∧ ((True) ∧ (True))) := ⟨trivial, ⟨F24_ok n d_Blocks d_Sense y_6 hx1, ⟨trivial, trivial⟩⟩⟩
  refine TS.reg [.none, (.call (.int .i64 y_6) [])] ?_ ?_
  · apply prop_of ?_ hq
    kernel_rfl
  refine XS.then ?_
  refine TS.seq ?_
  have hq : (True) ∧ ((True) ∧ (True)) := ⟨trivial, ⟨trivial, trivial⟩⟩
  refine TS.reg [] ?_ ?_
  · apply prop_of ?_ hq
    kernel_rfl
  refine XS.then ?_
  rcases bif_some h with ⟨c2, h⟩ | ⟨c3, h⟩
  · refine TS.cond (y_6 != (0 : Int)) ?_ (fun hcz => ?_) (fun hcz => by rw [c2] at hcz; cases hcz)
    · kernel_rfl
    refine TS.seq ?_
    have hq : (True) ∧ ((True) ∧ ((True) ∧ ((True) ∧ ((True) ∧ ((True) ∧ (True)))))) := ⟨trivial, ⟨trivial, ⟨trivial, ⟨trivial, ⟨trivial, ⟨trivial, trivial⟩⟩⟩⟩⟩⟩
    refine TS.reg [] ?_ ?_
    · apply prop_of ?_ hq
      kernel_rfl
    refine XS.then ?_
    refine TS.ret ?_
    refine XS.passR ?_
    obtain rfl : (d_Blocks, d_Sense, ([] : List UInt8), ([] : List UInt8), y_6) = r := Option.some.inj h
    exact XS.fin [] ((True) ∧ ((True) ∧ ((True) ∧ ((True) ∧ (True))))) (by kernel_rfl) ⟨trivial, ⟨trivial, ⟨trivial, ⟨trivial, trivial⟩⟩⟩⟩
  · refine TS.cond (y_6 != (0 : Int)) ?_ (fun hcz => by rw [c3] at hcz; cases hcz) (fun hcz => ?_)
    · kernel_rfl
    refine TS.skip ?_
    refine XS.then ?_
    refine TS.seq ?_
    obtain ⟨y_7, hx4, h⟩ := bind_some' h
    have hq : (True) ∧ ((PureC Try.prog 33 [(.str wrap)] (.tup (.cons (.st (.cons (.int .i64 y_7.1) (.cons (.int .i64 y_7.2.1) (.cons (.bool y_7.2.2.1) (.cons (.int .i64 y_7.2.2.2.1) (.str y_7.2.2.2.2.1)))))) (.cons (.int .i64 y_7.2.2.2.2.2) .nil))) []) ∧ ((True) ∧ ((True) ∧ ((True) ∧ ((True) ∧ ((True) ∧ ((True) ∧ (True)))))))) := ⟨trivial, ⟨F33_ok n wrap y_7 hx4, ⟨trivial, ⟨trivial, ⟨trivial, ⟨trivial, ⟨trivial, ⟨trivial, trivial⟩⟩⟩⟩⟩⟩⟩⟩
    refine TS.reg [.none, (.call (.tup (.cons (.st (.cons (.int .i64 y_7.1) (.cons (.int .i64 y_7.2.1) (.cons (.bool y_7.2.2.1) (.cons (.int .i64 y_7.2.2.2.1) (.str y_7.2.2.2.2.1)))))) (.cons (.int .i64 y_7.2.2.2.2.2) .nil))) [])] ?_ ?_
    · apply prop_of ?_ hq
      kernel_rfl
    refine XS.then ?_
    refine TS.seq ?_
    refine TS.seq ?_
    rcases bif_some h with ⟨c5, h⟩ | ⟨c6, h⟩
    · have hq : (True) ∧ ((True) ∧ (((True) ∧ (y_7.2.2.2.2.2 != (0 : Int)) = true) ∧ ((True) ∧ (True)))) := ⟨trivial, ⟨trivial, ⟨⟨trivial, c5⟩, ⟨trivial, trivial⟩⟩⟩⟩
      refine TS.reg [.none, .none, .dec true] ?_ ?_
      · apply prop_of ?_ hq
        kernel_rfl
      refine XS.then ?_
      refine TS.yes ?_ ?_
      · kernel_rfl
      refine TS.seq ?_
      have hq : (True) ∧ ((True) ∧ ((True) ∧ ((True) ∧ ((True) ∧ (True))))) := ⟨trivial, ⟨trivial, ⟨trivial, ⟨trivial, ⟨trivial, trivial⟩⟩⟩⟩⟩
      refine TS.reg [] ?_ ?_
      · apply prop_of ?_ hq
        kernel_rfl
      refine XS.then ?_
      refine TS.ret ?_
      refine XS.passR ?_
      obtain rfl : (d_Blocks, d_Sense, ([] : List UInt8), ([] : List UInt8), (8 : Int)) = r := Option.some.inj h
      exact XS.fin [] ((True) ∧ ((True) ∧ ((True) ∧ ((True) ∧ (True))))) (by kernel_rfl) ⟨trivial, ⟨trivial, ⟨trivial, ⟨trivial, trivial⟩⟩⟩⟩
    · have hq : (True) ∧ ((True) ∧ (((True) ∧ (y_7.2.2.2.2.2 != (0 : Int)) = false) ∧ ((True) ∧ ((True) ∧ ((True) ∧ ((True) ∧ (True))))))) := ⟨trivial, ⟨trivial, ⟨⟨trivial, c6⟩, ⟨trivial, ⟨trivial, ⟨trivial, ⟨trivial, trivial⟩⟩⟩⟩⟩⟩⟩
      refine TS.reg [.none, .none, .dec false] ?_ ?_
      · apply prop_of ?_ hq
        kernel_rfl
      refine XS.then ?_
      rcases bif_some h with ⟨c7, h⟩ | ⟨c8, h⟩
      · refine TS.cond (decide (y_7.2.2.2.1 > (0 : Int))) ?_ (fun hcz => ?_) (fun hcz => by rw [c7] at hcz; cases hcz)
        · kernel_rfl
        refine TS.seq ?_
        have hq : (True) ∧ ((True) ∧ ((True) ∧ ((True) ∧ ((True) ∧ (True))))) := ⟨trivial, ⟨trivial, ⟨trivial, ⟨trivial, ⟨trivial, trivial⟩⟩⟩⟩⟩
        refine TS.reg [] ?_ ?_
        · apply prop_of ?_ hq
          kernel_rfl
        refine XS.then ?_
        refine TS.ret ?_
        refine XS.passR ?_
        obtain rfl : (d_Blocks, d_Sense, ([] : List UInt8), ([] : List UInt8), (8 : Int)) = r := Option.some.inj h
        exact XS.fin [] ((True) ∧ ((True) ∧ ((True) ∧ ((True) ∧ (True))))) (by kernel_rfl) ⟨trivial, ⟨trivial, ⟨trivial, ⟨trivial, trivial⟩⟩⟩⟩
      · refine TS.cond (decide (y_7.2.2.2.1 > (0 : Int))) ?_ (fun hcz => by rw [c8] at hcz; cases hcz) (fun hcz => ?_)
        · kernel_rfl
        refine TS.skip ?_
        refine XS.then ?_
        refine TS.seq ?_
        have hq : (True) ∧ ((True) ∧ ((True) ∧ (True))) := ⟨trivial, ⟨trivial, ⟨trivial, trivial⟩⟩⟩
        refine TS.reg [] ?_ ?_
        · apply prop_of ?_ hq
          kernel_rfl
        refine XS.then ?_
        refine TS.seq ?_
        refine TS.seq ?_
        have hq : (True) ∧ ((True) ∧ ((True) ∧ (True))) := ⟨trivial, ⟨trivial, ⟨trivial, trivial⟩⟩⟩
        refine TS.reg [] ?_ ?_
        · apply prop_of ?_ hq
          kernel_rfl
        refine XS.then ?_
        refine TS.cut (D := Int × Int) (fun d => match d with | (m3, m3_2) => (mkTs 105 [(2, (.str data)), (3, (.ptr 0 [])), (6, (.ptr 1 [])), (11, (.ptr 2 [])), (13, (.ptr 3 []))], [(.box 24 (.st (.cons (.sl .str d_Blocks) (.int .i64 d_Sense)))), (.box 24 (.st (.cons .nilS (.int .i64 (0 : Int))))), (.box 35 (.st (.cons (.int .i64 y_7.1) (.cons (.int .i64 y_7.2.1) (.cons (.bool y_7.2.2.1) (.cons (.int .i64 y_7.2.2.2.1) (.str y_7.2.2.2.2.1))))))), (.box 70 (.st (.cons (.int .i64 m3) (.int .i64 m3_2))))])) (fun d => F12_j4 n d_Blocks d_Sense data y_7 d = some r) ?_ ?_
        · rintro ⟨m3, m3_2⟩ h
          replace h : ((F35 n d_Blocks d_Sense y_7.2.2.2.2.1).bind fun y_8 => ((F34 n m3 m3_2 y_8.1 y_8.2).bind fun y_9 => (bif (y_9.2.2.2.1 == (2 : Int)) then ((F36 n (2 : Int) y_7.1 y_7.2.1 y_7.2.2.1 y_7.2.2.2.1 y_7.2.2.2.2.1 y_9.1 y_9.2.1 y_9.2.2.1 y_9.2.2.2.1).bind fun y_10 => (some (d_Blocks, d_Sense, ([] : List UInt8), y_10, (0 : Int)))) else (bif (m3 == (2 : Int)) then (bif (((data.length : Nat) : Int) != m3_2) then (some (d_Blocks, d_Sense, ([] : List UInt8), ([] : List UInt8), (3 : Int))) else (bif subB data.length none (some y_9.2.1) then (F12_j5 n d_Blocks d_Sense y_7 m3 y_9 (data.take y_9.2.1.toNat)) else none)) else (F12_j5 n d_Blocks d_Sense y_7 m3 y_9 ([] : List UInt8)))))) = some r := h
          refine XS.then ?_
          refine TS.seq ?_
          obtain ⟨y_8, hx9, h⟩ := bind_some' h
          obtain ⟨y_9, hx10, h⟩ := bind_some' h
          have hq : ((True) ∧ ((True) ∧ ((True) ∧ ((True) ∧ ((PureC Try.prog 35 [(.st (.cons (.sl .str d_Blocks) (.int .i64 d_Sense))), (.str y_7.2.2.2.2.1)] (.st (.cons (.int .i64 y_8.1) (.int .i64 y_8.2))) []) ∧ ((PureC Try.prog 34 [(.st (.cons (.int .i64 m3) (.int .i64 m3_2))), (.st (.cons (.int .i64 y_8.1) (.int .i64 y_8.2)))] (.tup (.cons (.st (.cons (.int .i64 y_9.1) (.cons (.int .i64 y_9.2.1) (.cons (.int .i64 y_9.2.2.1) (.int .i64 y_9.2.2.2.1))))) (.cons (.int .i64 y_9.2.2.2.2) .nil))) []) ∧ ((True) ∧ ((True) ∧ ((True) ∧ ((True) ∧ ((True) ∧ (True)))))))))))) ∧ ((True) ∧ (True)) := ⟨⟨trivial, ⟨trivial, ⟨trivial, ⟨trivial, ⟨F35_ok n d_Blocks d_Sense y_7.2.2.2.2.1 y_8 hx9, ⟨F34_ok n m3 m3_2 y_8.1 y_8.2 y_9 hx10, ⟨trivial, ⟨trivial, ⟨trivial, ⟨trivial, ⟨trivial, trivial⟩⟩⟩⟩⟩⟩⟩⟩⟩⟩⟩, ⟨trivial, trivial⟩⟩
          refine TS.draw 11 [(10, 4)] [.none, .none, .none, .none, (.call (.st (.cons (.int .i64 y_8.1) (.int .i64 y_8.2))) []), (.call (.tup (.cons (.st (.cons (.int .i64 y_9.1) (.cons (.int .i64 y_9.2.1) (.cons (.int .i64 y_9.2.2.1) (.int .i64 y_9.2.2.2.1))))) (.cons (.int .i64 y_9.2.2.2.2) .nil))) [])] (by kernel_rfl) ?_ ?_
          · apply prop_of ?_ hq
            kernel_rfl
          refine XS.then ?_
          refine TS.seq ?_
          have hq : (True) ∧ ((True) ∧ (True)) := ⟨trivial, ⟨trivial, trivial⟩⟩
          refine TS.reg [] ?_ ?_
          · apply prop_of ?_ hq
            kernel_rfl
          refine XS.then ?_
          refine TS.seq ?_
          refine TS.seq ?_
          have hq : (True) ∧ ((True) ∧ ((True) ∧ (True))) := ⟨trivial, ⟨trivial, ⟨trivial, trivial⟩⟩⟩
          refine TS.reg [] ?_ ?_
          · apply prop_of ?_ hq
            kernel_rfl
          refine XS.then ?_
          rcases bif_some h with ⟨c11, h⟩ | ⟨c12, h⟩
          · refine TS.cond (y_9.2.2.2.1 == (2 : Int)) ?_ (fun hcz => ?_) (fun hcz => by rw [c11] at hcz; cases hcz)
            · kernel_rfl
            refine TS.seq ?_
            obtain ⟨y_10, hx13, h⟩ := bind_some' h
            have hq : ((True) ∧ ((True) ∧ ((((True) ∧ ((True) ∧ ((True) ∧ (True)))) ∧ PureC Try.prog 36 [(.int .i64 (2 : Int)), (.pv (.st (.cons (.int .i64 y_7.1) (.cons (.int .i64 y_7.2.1) (.cons (.bool y_7.2.2.1) (.cons (.int .i64 y_7.2.2.2.1) (.str y_7.2.2.2.2.1))))))), (.pv (.st (.cons (.int .i64 y_9.1) (.cons (.int .i64 y_9.2.1) (.cons (.int .i64 y_9.2.2.1) (.int .i64 y_9.2.2.2.1))))))] (.str y_10) []) ∧ (True)))) ∧ ((True) ∧ ((True) ∧ ((True) ∧ ((True) ∧ (True))))) := ⟨⟨trivial, ⟨trivial, ⟨⟨⟨trivial, ⟨trivial, ⟨trivial, trivial⟩⟩⟩, F36_ok n (2 : Int) y_7.1 y_7.2.1 y_7.2.2.1 y_7.2.2.2.1 y_7.2.2.2.2.1 y_9.1 y_9.2.1 y_9.2.2.1 y_9.2.2.2.1 y_10 hx13⟩, trivial⟩⟩⟩, ⟨trivial, ⟨trivial, ⟨trivial, ⟨trivial, trivial⟩⟩⟩⟩⟩
            refine TS.draw 3 [] [.none, .none, (.call (.str y_10) [])] (by kernel_rfl) ?_ ?_
            · apply prop_of ?_ hq
              kernel_rfl
            refine XS.then ?_
            refine TS.ret ?_
            refine XS.passR ?_
            obtain rfl : (d_Blocks, d_Sense, ([] : List UInt8), y_10, (0 : Int)) = r := Option.some.inj h
            exact XS.fin [] ((True) ∧ ((True) ∧ ((True) ∧ ((True) ∧ (True))))) (by kernel_rfl) ⟨trivial, ⟨trivial, ⟨trivial, ⟨trivial, trivial⟩⟩⟩⟩
          · refine TS.cond (y_9.2.2.2.1 == (2 : Int)) ?_ (fun hcz => by rw [c12] at hcz; cases hcz) (fun hcz => ?_)
            · kernel_rfl
            refine TS.skip ?_
            refine XS.then ?_
            refine TS.seq ?_
            have hq : (True) ∧ (True) := ⟨trivial, trivial⟩
            refine TS.reg [] ?_ ?_
            · apply prop_of ?_ hq
              kernel_rfl
            refine XS.then ?_
            refine TS.seq ?_
            refine TS.seq ?_
            have hq : (True) ∧ ((True) ∧ ((True) ∧ (True))) := ⟨trivial, ⟨trivial, ⟨trivial, trivial⟩⟩⟩
            refine TS.reg [] ?_ ?_
            · apply prop_of ?_ hq
              kernel_rfl
            refine XS.then ?_
            refine TS.cut (D := List UInt8) (fun d => match d with | given => (mkTs 105 [(3, (.ptr 0 [])), (6, (.ptr 1 [])), (11, (.ptr 2 [])), (13, (.ptr 3 [])), (14, (.ptr 4 [])), (16, (.fn 36 (.cons (.ptr 2 []) (.cons (.ptr 4 []) .nil)))), (17, (.str given))], [(.box 24 (.st (.cons (.sl .str d_Blocks) (.int .i64 d_Sense)))), (.box 24 (.st (.cons .nilS (.int .i64 (0 : Int))))), (.box 35 (.st (.cons (.int .i64 y_7.1) (.cons (.int .i64 y_7.2.1) (.cons (.bool y_7.2.2.1) (.cons (.int .i64 y_7.2.2.2.1) (.str y_7.2.2.2.2.1))))))), (.box 70 (.st (.cons (.int .i64 m3) (.int .i64 m3_2)))), (.box 72 (.st (.cons (.int .i64 y_9.1) (.cons (.int .i64 y_9.2.1) (.cons (.int .i64 y_9.2.2.1) (.int .i64 y_9.2.2.2.1))))))])) (fun d => F12_j5 n d_Blocks d_Sense y_7 m3 y_9 d = some r) ?_ ?_
            · rintro given h
              replace h : ((F9 n d_Blocks d_Sense y_7.2.2.2.2.1 given).bind fun y_11 => (bif (y_11.2.2.2 != (0 : Int)) then ((F36 n (1 : Int) y_7.1 y_7.2.1 y_7.2.2.1 y_7.2.2.2.1 y_7.2.2.2.2.1 y_9.1 y_9.2.1 y_9.2.2.1 y_9.2.2.2.1).bind fun y_12 => (some (y_11.1, y_11.2.1, ([] : List UInt8), y_12, (0 : Int)))) else (bif (m3 != (1 : Int)) then (F12_j6 n y_7 y_9 y_11 ([] : List UInt8)) else (F12_j6 n y_7 y_9 y_11 y_11.2.2.1)))) = some r := h
              refine XS.then ?_
              refine TS.seq ?_
              obtain ⟨y_11, hx14, h⟩ := bind_some' h
              have hq : (True) ∧ ((True) ∧ ((True) ∧ ((True) ∧ ((PureC Try.prog 9 [(.st (.cons (.sl .str d_Blocks) (.int .i64 d_Sense))), (.str y_7.2.2.2.2.1), (.str given)] (.tup (.cons (.st (.cons (.sl .str y_11.1) (.int .i64 y_11.2.1))) (.cons (.str y_11.2.2.1) (.cons (.int .i64 y_11.2.2.2) .nil)))) []) ∧ ((True) ∧ ((True) ∧ ((True) ∧ ((True) ∧ ((True) ∧ ((True) ∧ ((True) ∧ ((True) ∧ (True))))))))))))) := ⟨trivial, ⟨trivial, ⟨trivial, ⟨trivial, ⟨F9_ok n d_Blocks d_Sense y_7.2.2.2.2.1 given y_11 hx14, ⟨trivial, ⟨trivial, ⟨trivial, ⟨trivial, ⟨trivial, ⟨trivial, ⟨trivial, ⟨trivial, trivial⟩⟩⟩⟩⟩⟩⟩⟩⟩⟩⟩⟩⟩
              refine TS.reg [.none, .none, .none, .none, (.call (.tup (.cons (.st (.cons (.sl .str y_11.1) (.int .i64 y_11.2.1))) (.cons (.str y_11.2.2.1) (.cons (.int .i64 y_11.2.2.2) .nil)))) [])] ?_ ?_
              · apply prop_of ?_ hq
                kernel_rfl
              refine XS.then ?_
              refine TS.seq ?_
              refine TS.seq ?_
              have hq : (True) ∧ ((True) ∧ (True)) := ⟨trivial, ⟨trivial, trivial⟩⟩
              refine TS.reg [] ?_ ?_
              · apply prop_of ?_ hq
                kernel_rfl
              refine XS.then ?_
              rcases bif_some h with ⟨c15, h⟩ | ⟨c16, h⟩
              · refine TS.cond (y_11.2.2.2 != (0 : Int)) ?_ (fun hcz => ?_) (fun hcz => by rw [c15] at hcz; cases hcz)
                · kernel_rfl
                refine TS.seq ?_
                obtain ⟨y_12, hx17, h⟩ := bind_some' h
                have hq : ((True) ∧ ((True) ∧ ((((True) ∧ ((True) ∧ ((True) ∧ (True)))) ∧ PureC Try.prog 36 [(.int .i64 (1 : Int)), (.pv (.st (.cons (.int .i64 y_7.1) (.cons (.int .i64 y_7.2.1) (.cons (.bool y_7.2.2.1) (.cons (.int .i64 y_7.2.2.2.1) (.str y_7.2.2.2.2.1))))))), (.pv (.st (.cons (.int .i64 y_9.1) (.cons (.int .i64 y_9.2.1) (.cons (.int .i64 y_9.2.2.1) (.int .i64 y_9.2.2.2.1))))))] (.str y_12) []) ∧ (True)))) ∧ ((True) ∧ ((True) ∧ ((True) ∧ ((True) ∧ (True))))) := ⟨⟨trivial, ⟨trivial, ⟨⟨⟨trivial, ⟨trivial, ⟨trivial, trivial⟩⟩⟩, F36_ok n (1 : Int) y_7.1 y_7.2.1 y_7.2.2.1 y_7.2.2.2.1 y_7.2.2.2.2.1 y_9.1 y_9.2.1 y_9.2.2.1 y_9.2.2.2.1 y_12 hx17⟩, trivial⟩⟩⟩, ⟨trivial, ⟨trivial, ⟨trivial, ⟨trivial, trivial⟩⟩⟩⟩⟩
                refine TS.draw 3 [] [.none, .none, (.call (.str y_12) [])] (by kernel_rfl) ?_ ?_
                · apply prop_of ?_ hq
                  kernel_rfl
                refine XS.then ?_
                refine TS.ret ?_
                refine XS.passR ?_
                obtain rfl : (y_11.1, y_11.2.1, ([] : List UInt8), y_12, (0 : Int)) = r := Option.some.inj h
                exact XS.fin [] ((True) ∧ ((True) ∧ ((True) ∧ ((True) ∧ (True))))) (by kernel_rfl) ⟨trivial, ⟨trivial, ⟨trivial, ⟨trivial, trivial⟩⟩⟩⟩
              · refine TS.cond (y_11.2.2.2 != (0 : Int)) ?_ (fun hcz => by rw [c16] at hcz; cases hcz) (fun hcz => ?_)
                · kernel_rfl
                refine TS.skip ?_
                refine XS.then ?_
                refine TS.seq ?_
                refine TS.seq ?_
                have hq : (True) ∧ ((True) ∧ ((True) ∧ (True))) := ⟨trivial, ⟨trivial, ⟨trivial, trivial⟩⟩⟩
                refine TS.reg [] ?_ ?_
                · apply prop_of ?_ hq
                  kernel_rfl
                refine XS.then ?_
                refine TS.cut (D := List UInt8) (fun d => match d with | t => (mkTs 105 [(6, (.ptr 0 [])), (14, (.ptr 1 [])), (16, (.fn 36 (.cons (.ptr 2 []) (.cons (.ptr 1 []) .nil)))), (18, (.ptr 3 [])), (19, (.str t))], [(.box 24 (.st (.cons .nilS (.int .i64 (0 : Int))))), (.box 72 (.st (.cons (.int .i64 y_9.1) (.cons (.int .i64 y_9.2.1) (.cons (.int .i64 y_9.2.2.1) (.int .i64 y_9.2.2.2.1)))))), (.box 35 (.st (.cons (.int .i64 y_7.1) (.cons (.int .i64 y_7.2.1) (.cons (.bool y_7.2.2.1) (.cons (.int .i64 y_7.2.2.2.1) (.str y_7.2.2.2.2.1))))))), (.box 24 (.st (.cons (.sl .str y_11.1) (.int .i64 y_11.2.1))))])) (fun d => F12_j6 n y_7 y_9 y_11 d = some r) ?_ ?_
                · rintro t h
                  replace h : (bif subB t.length none (some (if y_9.2.1 < ((t.length : Nat) : Int) then y_9.2.1 else ((t.length : Nat) : Int))) then ((F36 n (0 : Int) y_7.1 y_7.2.1 y_7.2.2.1 y_7.2.2.2.1 y_7.2.2.2.2.1 y_9.1 y_9.2.1 y_9.2.2.1 y_9.2.2.2.1).bind fun y_13 => (some (y_11.1, y_11.2.1, (t.take (if y_9.2.1 < ((t.length : Nat) : Int) then y_9.2.1 else ((t.length : Nat) : Int)).toNat), y_13, (0 : Int)))) else none) = some r := h
                  refine XS.then ?_
                  refine TS.seq ?_
                  obtain ⟨t18, h⟩ := test_some h
                  obtain ⟨y_13, hx19, h⟩ := bind_some' h
                  have hq : ((True) ∧ ((True) ∧ ((True) ∧ ((True) ∧ ((True) ∧ ((True) ∧ ((True) ∧ ((subC t.length none (some (if y_9.2.1 < ((t.length : Nat) : Int) then y_9.2.1 else ((t.length : Nat) : Int)))) ∧ ((True) ∧ ((((True) ∧ ((True) ∧ ((True) ∧ (True)))) ∧ PureC Try.prog 36 [(.int .i64 (0 : Int)), (.pv (.st (.cons (.int .i64 y_7.1) (.cons (.int .i64 y_7.2.1) (.cons (.bool y_7.2.2.1) (.cons (.int .i64 y_7.2.2.2.1) (.str y_7.2.2.2.2.1))))))), (.pv (.st (.cons (.int .i64 y_9.1) (.cons (.int .i64 y_9.2.1) (.cons (.int .i64 y_9.2.2.1) (.int .i64 y_9.2.2.2.1))))))] (.str y_13) []) ∧ ((True) ∧ (True)))))))))))) ∧ ((True) ∧ ((True) ∧ ((True) ∧ (True)))) := ⟨⟨trivial, ⟨trivial, ⟨trivial, ⟨trivial, ⟨trivial, ⟨trivial, ⟨trivial, ⟨subB_ok t18, ⟨trivial, ⟨⟨⟨trivial, ⟨trivial, ⟨trivial, trivial⟩⟩⟩, F36_ok n (0 : Int) y_7.1 y_7.2.1 y_7.2.2.1 y_7.2.2.2.1 y_7.2.2.2.2.1 y_9.1 y_9.2.1 y_9.2.2.1 y_9.2.2.2.1 y_13 hx19⟩, ⟨trivial, trivial⟩⟩⟩⟩⟩⟩⟩⟩⟩⟩⟩, ⟨trivial, ⟨trivial, ⟨trivial, trivial⟩⟩⟩⟩
                  refine TS.draw 11 [(10, 0)] [.none, .none, .none, .none, .none, .none, .none, .none, .none, (.call (.str y_13) [])] (by kernel_rfl) ?_ ?_
                  · apply prop_of ?_ hq
                    kernel_rfl
                  refine XS.then ?_
                  refine TS.ret ?_
                  obtain rfl : (y_11.1, y_11.2.1, (t.take (if y_9.2.1 < ((t.length : Nat) : Int) then y_9.2.1 else ((t.length : Nat) : Int)).toNat), y_13, (0 : Int)) = r := Option.some.inj h
                  exact XS.fin [] ((True) ∧ ((True) ∧ ((True) ∧ ((True) ∧ (True))))) (by kernel_rfl) ⟨trivial, ⟨trivial, ⟨trivial, ⟨trivial, trivial⟩⟩⟩⟩
                · rcases bif_some h with ⟨c20, h⟩ | ⟨c21, h⟩
                  · refine TS.cond (m3 != (1 : Int)) ?_ (fun hcz => ?_) (fun hcz => by rw [c20] at hcz; cases hcz)
                    · kernel_rfl
                    have hq : (True) ∧ (True) := ⟨trivial, trivial⟩
                    refine TS.reg [] ?_ ?_
                    · apply prop_of ?_ hq
                      kernel_rfl
                    refine XS.reAny [1, 4, 2, 5] (mkMask 105 [6, 14, 16, 18, 19]) ([] : List UInt8) h ?_
                    kernel_rfl
                  · refine TS.cond (m3 != (1 : Int)) ?_ (fun hcz => by rw [c21] at hcz; cases hcz) (fun hcz => ?_)
                    · kernel_rfl
                    refine TS.skip ?_
                    refine XS.reAny [1, 4, 2, 5] (mkMask 105 [6, 14, 16, 18, 19]) y_11.2.2.1 h ?_
                    kernel_rfl
            · rcases bif_some h with ⟨c22, h⟩ | ⟨c23, h⟩
              · refine TS.cond (m3 == (2 : Int)) ?_ (fun hcz => ?_) (fun hcz => by rw [c22] at hcz; cases hcz)
                · kernel_rfl
                refine TS.seq ?_
                refine TS.seq ?_
                have hq : (True) ∧ ((True) ∧ ((True) ∧ ((True) ∧ ((True) ∧ (True))))) := ⟨trivial, ⟨trivial, ⟨trivial, ⟨trivial, ⟨trivial, trivial⟩⟩⟩⟩⟩
                refine TS.reg [] ?_ ?_
                · apply prop_of ?_ hq
                  kernel_rfl
                refine XS.then ?_
                rcases bif_some h with ⟨c24, h⟩ | ⟨c25, h⟩
                · refine TS.cond (((data.length : Nat) : Int) != m3_2) ?_ (fun hcz => ?_) (fun hcz => by rw [c24] at hcz; cases hcz)
                  · kernel_rfl
                  refine TS.seq ?_
                  have hq : (True) ∧ ((True) ∧ ((True) ∧ ((True) ∧ ((True) ∧ (True))))) := ⟨trivial, ⟨trivial, ⟨trivial, ⟨trivial, ⟨trivial, trivial⟩⟩⟩⟩⟩
                  refine TS.reg [] ?_ ?_
                  · apply prop_of ?_ hq
                    kernel_rfl
                  refine XS.then ?_
                  refine TS.ret ?_
                  refine XS.passR ?_
                  refine XS.passR ?_
                  refine XS.passR ?_
                  obtain rfl : (d_Blocks, d_Sense, ([] : List UInt8), ([] : List UInt8), (3 : Int)) = r := Option.some.inj h
                  exact XS.fin [] ((True) ∧ ((True) ∧ ((True) ∧ ((True) ∧ (True))))) (by kernel_rfl) ⟨trivial, ⟨trivial, ⟨trivial, ⟨trivial, trivial⟩⟩⟩⟩
                · refine TS.cond (((data.length : Nat) : Int) != m3_2) ?_ (fun hcz => by rw [c25] at hcz; cases hcz) (fun hcz => ?_)
                  · kernel_rfl
                  refine TS.skip ?_
                  refine XS.then ?_
                  obtain ⟨t26, h⟩ := test_some h
                  have hq : (True) ∧ ((True) ∧ ((True) ∧ ((subC data.length none (some y_9.2.1)) ∧ ((True) ∧ (True))))) := ⟨trivial, ⟨trivial, ⟨trivial, ⟨subB_ok t26, ⟨trivial, trivial⟩⟩⟩⟩⟩
                  refine TS.reg [] ?_ ?_
                  · apply prop_of ?_ hq
                    kernel_rfl
                  refine XS.reAny [0, 1, 2, 3, 4] (mkMask 105 [3, 6, 11, 13, 14, 16, 17]) (data.take y_9.2.1.toNat) h ?_
                  kernel_rfl
              · refine TS.cond (m3 == (2 : Int)) ?_ (fun hcz => by rw [c23] at hcz; cases hcz) (fun hcz => ?_)
                · kernel_rfl
                refine TS.skip ?_
                refine XS.reAny [0, 1, 2, 3, 4] (mkMask 105 [3, 6, 11, 13, 14, 16, 17]) ([] : List UInt8) h ?_
                kernel_rfl
        · rcases bif_some h with ⟨c27, h⟩ | ⟨c28, h⟩
          · refine TS.cond (decide (y_7.2.1 > (0 : Int))) ?_ (fun hcz => ?_) (fun hcz => by rw [c27] at hcz; cases hcz)
            · kernel_rfl
            refine TS.seq ?_
            have hq : (True) ∧ ((True) ∧ (((True) ∧ ((True) ∧ (True))) ∧ ((True) ∧ (True)))) := ⟨trivial, ⟨trivial, ⟨⟨trivial, ⟨trivial, trivial⟩⟩, ⟨trivial, trivial⟩⟩⟩⟩
            refine TS.reg [] ?_ ?_
            · apply prop_of ?_ hq
              kernel_rfl
            refine XS.then ?_
            refine TS.seq ?_
            have hq : (True) ∧ ((True) ∧ (True)) := ⟨trivial, ⟨trivial, trivial⟩⟩
            refine TS.reg [] ?_ ?_
            · apply prop_of ?_ hq
              kernel_rfl
            refine XS.then ?_
            rcases bif_some h with ⟨c29, h⟩ | ⟨c30, h⟩
            · refine TS.cond y_7.2.2.1 ?_ (fun hcz => ?_) (fun hcz => by rw [c29] at hcz; cases hcz)
              · kernel_rfl
              have hq : (True) ∧ ((True) ∧ (True)) := ⟨trivial, ⟨trivial, trivial⟩⟩
              refine TS.reg [] ?_ ?_
              · apply prop_of ?_ hq
                kernel_rfl
              refine XS.reAny [0, 1, 2, 3] (mkMask 105 [2, 3, 6, 11, 13]) ((1 : Int), y_7.2.1) h ?_
              kernel_rfl
            · refine TS.cond y_7.2.2.1 ?_ (fun hcz => by rw [c30] at hcz; cases hcz) (fun hcz => ?_)
              · kernel_rfl
              refine TS.skip ?_
              refine XS.reAny [0, 1, 2, 3] (mkMask 105 [2, 3, 6, 11, 13]) ((2 : Int), y_7.2.1) h ?_
              kernel_rfl
          · refine TS.cond (decide (y_7.2.1 > (0 : Int))) ?_ (fun hcz => by rw [c28] at hcz; cases hcz) (fun hcz => ?_)
            · kernel_rfl
            refine TS.skip ?_
            refine XS.reAny [0, 1, 2, 3] (mkMask 105 [2, 3, 6, 11, 13]) ((0 : Int), (0 : Int)) h ?_
            kernel_rfl

/-! slices.Equal[[]string,string] -/
def F28_l2 (n : Nat) (s1 : List (List UInt8)) (s2 : List (List UInt8)) (k28_2 : Int → Option Bool) : Int → Option Bool
  | x => (bif (decide (x < ((s1.length : Nat) : Int))) then (bif inb x s1.length then (bif inb x s2.length then (bif (!((s1.getD x.toNat ([] : List UInt8)) == (s2.getD x.toNat ([] : List UInt8)))) then (some false) else (k28_2 (IntKind.wrap .i64 (x + (1 : Int))))) else none) else none) else (some true))
def F28 (n : Nat) (s1 : List (List UInt8)) (s2 : List (List UInt8)) : Option Bool := (bif (((s1.length : Nat) : Int) != ((s2.length : Nat) : Int)) then (some false) else (loopF (F28_l2 n s1 s2) n (0 : Int)))
theorem F28_ok (n : Nat) (s1 : List (List UInt8)) (s2 : List (List UInt8)) (r : Bool) (h : F28 n s1 s2 = some r) : PureC Try.prog 28 [(.sl .str s1), (.sl .str s2)] (.bool r) [] := by
  refine PureC.mkS Try.func28 rfl rfl ?_
  intro w0 fz0 hfz
  replace h : (bif (((s1.length : Nat) : Int) != ((s2.length : Nat) : Int)) then (some false) else (loopF (F28_l2 n s1 s2) n (0 : Int))) = some r := h
  refine TS.seq ?_
  have hq : (True) ∧ (True) := ⟨trivial, trivial⟩
  refine TS.reg [] ?_ ?_
  · apply prop_of ?_ hq
    kernel_rfl
  refine XS.then ?_
  refine TS.seq ?_
  refine TS.seq ?_
  have hq : (True) ∧ ((True) ∧ ((True) ∧ ((True) ∧ ((True) ∧ (True))))) := ⟨trivial, ⟨trivial, ⟨trivial, ⟨trivial, ⟨trivial, trivial⟩⟩⟩⟩⟩
  refine TS.reg [] ?_ ?_
  · apply prop_of ?_ hq
    kernel_rfl
  refine XS.then ?_
  rcases bif_some h with ⟨c1, h⟩ | ⟨c2, h⟩
  · refine TS.cond (((s1.length : Nat) : Int) != ((s2.length : Nat) : Int)) ?_ (fun hcz => ?_) (fun hcz => by rw [c1] at hcz; cases hcz)
    · kernel_rfl
    refine TS.seq ?_
    have hq : (True) ∧ (True) := ⟨trivial, trivial⟩
    refine TS.reg [] ?_ ?_
    · apply prop_of ?_ hq
      kernel_rfl
    refine XS.then ?_
    refine TS.ret ?_
    refine XS.passR ?_
    obtain rfl : false = r := Option.some.inj h
    exact XS.fin [] ((True) ∧ (True)) (by kernel_rfl) ⟨trivial, trivial⟩
  · refine TS.cond (((s1.length : Nat) : Int) != ((s2.length : Nat) : Int)) ?_ (fun hcz => by rw [c2] at hcz; cases hcz) (fun hcz => ?_)
    · kernel_rfl
    refine TS.skip ?_
    refine XS.then ?_
    refine TS.seq ?_
    refine TS.seq ?_
    have hq : (True) ∧ ((True) ∧ ((True) ∧ (True))) := ⟨trivial, ⟨trivial, ⟨trivial, trivial⟩⟩⟩
    refine TS.reg [] ?_ ?_
    · apply prop_of ?_ hq
      kernel_rfl
    refine XS.then ?_
    refine TS.block ?_
    refine TS.reLoop [] (mkMask 26 [0, 1, 12, 13]) (D := Int) (fun d => match d with | x => (mkTs 26 [(0, (.sl .str s1)), (1, (.sl .str s2)), (12, (.int .i64 ((s1.length : Nat) : Int))), (13, (.int .i64 x))], [])) (fun n' d => loopF (F28_l2 n s1 s2) n' d = some r) n (0 : Int) h ?_ (fun d => loopF_zero _ d r) ?_
    · kernel_rfl
    · rintro n2 x h
      replace h : (bif (decide (x < ((s1.length : Nat) : Int))) then (bif inb x s1.length then (bif inb x s2.length then (bif (!((s1.getD x.toNat ([] : List UInt8)) == (s2.getD x.toNat ([] : List UInt8)))) then (some false) else ((loopF (F28_l2 n s1 s2) n2) (IntKind.wrap .i64 (x + (1 : Int))))) else none) else none) else (some true)) = some r := h
      refine TS.seq ?_
      have hq : (True) ∧ (True) := ⟨trivial, trivial⟩
      refine TS.reg [] ?_ ?_
      · apply prop_of ?_ hq
        kernel_rfl
      refine XS.then ?_
      refine TS.seq ?_
      rcases bif_some h with ⟨c3, h⟩ | ⟨c4, h⟩
      · refine TS.cond (decide (x < ((s1.length : Nat) : Int))) ?_ (fun hcz => ?_) (fun hcz => by rw [c3] at hcz; cases hcz)
        · kernel_rfl
        refine TS.skip ?_
        refine XS.then ?_
        refine TS.seq ?_
        refine TS.block ?_
        refine TS.seq ?_
        have hq : (True) ∧ ((True) ∧ (True)) := ⟨trivial, ⟨trivial, trivial⟩⟩
        refine TS.reg [] ?_ ?_
        · apply prop_of ?_ hq
          kernel_rfl
        refine XS.then ?_
        refine TS.seq ?_
        obtain ⟨t5, h⟩ := test_some h
        obtain ⟨t6, h⟩ := test_some h
        have hq : ((True) ∧ ((True) ∧ ((inR x s1.length) ∧ ((True) ∧ ((True) ∧ ((True) ∧ ((inR x s2.length) ∧ ((True) ∧ ((True) ∧ (True)))))))))) ∧ (True) := ⟨⟨trivial, ⟨trivial, ⟨inb_ok t5, ⟨trivial, ⟨trivial, ⟨trivial, ⟨inb_ok t6, ⟨trivial, ⟨trivial, trivial⟩⟩⟩⟩⟩⟩⟩⟩⟩, trivial⟩
        refine TS.draw 9 [] [] (by kernel_rfl) ?_ ?_
        · apply prop_of ?_ hq
          kernel_rfl
        refine XS.then ?_
        rcases bif_some h with ⟨c7, h⟩ | ⟨c8, h⟩
        · refine TS.cond (!((s1.getD x.toNat ([] : List UInt8)) == (s2.getD x.toNat ([] : List UInt8)))) ?_ (fun hcz => ?_) (fun hcz => by rw [c7] at hcz; cases hcz)
          · kernel_rfl
          refine TS.seq ?_
          have hq : (True) ∧ (True) := ⟨trivial, trivial⟩
          refine TS.reg [] ?_ ?_
          · apply prop_of ?_ hq
            kernel_rfl
          refine XS.then ?_
          refine TS.ret ?_
          refine XS.blockRet ?_
          refine XS.passR ?_
          refine XS.passR ?_
          refine XS.blockRet ?_
          refine XS.passR ?_
          obtain rfl : false = r := Option.some.inj h
          exact XS.fin [] ((True) ∧ (True)) (by kernel_rfl) ⟨trivial, trivial⟩
        · refine TS.cond (!((s1.getD x.toNat ([] : List UInt8)) == (s2.getD x.toNat ([] : List UInt8)))) ?_ (fun hcz => by rw [c8] at hcz; cases hcz) (fun hcz => ?_)
          · kernel_rfl
          refine TS.skip ?_
          refine XS.blockEnd ?_
          refine XS.then ?_
          have hq : (True) ∧ ((True) ∧ (True)) := ⟨trivial, ⟨trivial, trivial⟩⟩
          refine TS.reg [] ?_ ?_
          · apply prop_of ?_ hq
            kernel_rfl
          refine XS.reAny [] (mkMask 26 [0, 1, 12, 13]) (IntKind.wrap .i64 (x + (1 : Int))) h ?_
          kernel_rfl
      · refine TS.cond (decide (x < ((s1.length : Nat) : Int))) ?_ (fun hcz => by rw [c4] at hcz; cases hcz) (fun hcz => ?_)
        · kernel_rfl
        refine TS.exit ?_
        refine XS.passE ?_
        refine XS.passE ?_
        refine XS.out ?_
        refine XS.then ?_
        refine TS.seq ?_
        have hq : (True) ∧ (True) := ⟨trivial, trivial⟩
        refine TS.reg [] ?_ ?_
        · apply prop_of ?_ hq
          kernel_rfl
        refine XS.then ?_
        refine TS.ret ?_
        obtain rfl : true = r := Option.some.inj h
        exact XS.fin [] ((True) ∧ (True)) (by kernel_rfl) ⟨trivial, trivial⟩

/-! plugtree/plugref.SameDisk -/
def F10 (n : Nat) (a_Blocks : List (List UInt8)) (a_Sense : Int) (b_Blocks : List (List UInt8)) (b_Sense : Int) : Option Bool := (bif (a_Sense == b_Sense) then ((F28 n a_Blocks b_Blocks).bind fun y_2 => (some y_2)) else (some false))
theorem F10_ok (n : Nat) (a_Blocks : List (List UInt8)) (a_Sense : Int) (b_Blocks : List (List UInt8)) (b_Sense : Int) (r : Bool) (h : F10 n a_Blocks a_Sense b_Blocks b_Sense = some r) : PureC Try.prog 10 [(.st (.cons (.sl .str a_Blocks) (.int .i64 a_Sense))), (.st (.cons (.sl .str b_Blocks) (.int .i64 b_Sense)))] (.bool r) [] := by
  refine PureC.mkS Try.func10 rfl rfl ?_
  intro w0 fz0 hfz
  replace h : (bif (a_Sense == b_Sense) then ((F28 n a_Blocks b_Blocks).bind fun y_2 => (some y_2)) else (some false)) = some r := h
  refine TS.seq ?_
  have hq : (True) ∧ ((True) ∧ ((True) ∧ (True))) := ⟨trivial, ⟨trivial, ⟨trivial, trivial⟩⟩⟩
  refine TS.reg [] ?_ ?_
  · apply prop_of ?_ hq
    kernel_rfl
  refine XS.then ?_
  refine TS.seq ?_
  rcases bif_some h with ⟨c1, h⟩ | ⟨c2, h⟩
  · obtain ⟨y_2, hx3, h⟩ := bind_some' h
    have hq : (True) ∧ ((True) ∧ ((True) ∧ ((True) ∧ ((True) ∧ (((True) ∧ (a_Sense == b_Sense) = true) ∧ ((True) ∧ ((True) ∧ ((True) ∧ ((True) ∧ ((PureC Try.prog 28 [(.sl .str a_Blocks), (.sl .str b_Blocks)] (.bool y_2) []) ∧ ((True) ∧ ((True) ∧ (True))))))))))))) := ⟨trivial, ⟨trivial, ⟨trivial, ⟨trivial, ⟨trivial, ⟨⟨trivial, c1⟩, ⟨trivial, ⟨trivial, ⟨trivial, ⟨trivial, ⟨F28_ok n a_Blocks b_Blocks y_2 hx3, ⟨trivial, ⟨trivial, trivial⟩⟩⟩⟩⟩⟩⟩⟩⟩⟩⟩⟩⟩
    refine TS.reg [.none, .none, .none, .none, .none, .dec true, .none, .none, .none, .none, (.call (.bool y_2) [])] ?_ ?_
    · apply prop_of ?_ hq
      kernel_rfl
    refine XS.then ?_
    refine TS.ret ?_
    obtain rfl : y_2 = r := Option.some.inj h
    exact XS.fin [] ((True) ∧ (True)) (by kernel_rfl) ⟨trivial, trivial⟩
  · have hq : (True) ∧ ((True) ∧ ((True) ∧ ((True) ∧ ((True) ∧ (((True) ∧ (a_Sense == b_Sense) = false) ∧ ((True) ∧ ((True) ∧ (True)))))))) := ⟨trivial, ⟨trivial, ⟨trivial, ⟨trivial, ⟨trivial, ⟨⟨trivial, c2⟩, ⟨trivial, ⟨trivial, trivial⟩⟩⟩⟩⟩⟩⟩⟩
    refine TS.reg [.none, .none, .none, .none, .none, .dec false] ?_ ?_
    · apply prop_of ?_ hq
      kernel_rfl
    refine XS.then ?_
    refine TS.ret ?_
    obtain rfl : false = r := Option.some.inj h
    exact XS.fin [] ((True) ∧ (True)) (by kernel_rfl) ⟨trivial, trivial⟩

/-! plugtree/pluglaw.BulkServes -/
def F4 (n : Nat) (d_Blocks : List (List UInt8)) (d_Sense : Int) (wrap : List UInt8) (data : List UInt8) : Option Bool := ((F11 n d_Blocks d_Sense wrap data).bind fun y_2 => ((F12 n d_Blocks d_Sense wrap data).bind fun y_3 => ((F10 n y_2.1 y_2.2.1 y_3.1 y_3.2.1).bind fun y_4 => (bif y_4 then (bif (y_2.2.2.1 == y_3.2.2.1) then (bif (y_2.2.2.2.1 == y_3.2.2.2.1) then (some (y_2.2.2.2.2 == y_3.2.2.2.2)) else (some false)) else (some false)) else (some false)))))
theorem F4_ok (n : Nat) (d_Blocks : List (List UInt8)) (d_Sense : Int) (wrap : List UInt8) (data : List UInt8) (r : Bool) (h : F4 n d_Blocks d_Sense wrap data = some r) : PureC Try.prog 4 [(.st (.cons (.sl .str d_Blocks) (.int .i64 d_Sense))), (.str wrap), (.str data)] (.bool r) [] := by
  refine PureC.mkS Try.func4 rfl rfl ?_
  intro w0 fz0 hfz
  replace h : ((F11 n d_Blocks d_Sense wrap data).bind fun y_2 => ((F12 n d_Blocks d_Sense wrap data).bind fun y_3 => ((F10 n y_2.1 y_2.2.1 y_3.1 y_3.2.1).bind fun y_4 => (bif y_4 then (bif (y_2.2.2.1 == y_3.2.2.1) then (bif (y_2.2.2.2.1 == y_3.2.2.2.1) then (some (y_2.2.2.2.2 == y_3.2.2.2.2)) else (some false)) else (some false)) else (some false))))) = some r := h
  refine TS.seq ?_
  have hq : (True) ∧ ((True) ∧ (True)) := ⟨trivial, ⟨trivial, trivial⟩⟩
  refine TS.reg [] ?_ ?_
  · apply prop_of ?_ hq
    kernel_rfl
  refine XS.then ?_
  refine TS.seq ?_
  obtain ⟨y_2, hx1, h⟩ := bind_some' h
  have hq : (True) ∧ ((True) ∧ ((True) ∧ ((PureC Try.prog 11 [(.st (.cons (.sl .str d_Blocks) (.int .i64 d_Sense))), (.str wrap), (.str data)] (.tup (.cons (.st (.cons (.sl .str y_2.1) (.int .i64 y_2.2.1))) (.cons (.str y_2.2.2.1) (.cons (.str y_2.2.2.2.1) (.cons (.int .i64 y_2.2.2.2.2) .nil))))) []) ∧ ((True) ∧ ((True) ∧ ((True) ∧ ((True) ∧ ((True) ∧ ((True) ∧ ((True) ∧ ((True) ∧ ((True) ∧ ((True) ∧ (True)))))))))))))) := ⟨trivial, ⟨trivial, ⟨trivial, ⟨F11_ok n d_Blocks d_Sense wrap data y_2 hx1, ⟨trivial, ⟨trivial, ⟨trivial, ⟨trivial, ⟨trivial, ⟨trivial, ⟨trivial, ⟨trivial, ⟨trivial, ⟨trivial, trivial⟩⟩⟩⟩⟩⟩⟩⟩⟩⟩⟩⟩⟩⟩
  refine TS.reg [.none, .none, .none, (.call (.tup (.cons (.st (.cons (.sl .str y_2.1) (.int .i64 y_2.2.1))) (.cons (.str y_2.2.2.1) (.cons (.str y_2.2.2.2.1) (.cons (.int .i64 y_2.2.2.2.2) .nil))))) [])] ?_ ?_
  · apply prop_of ?_ hq
    kernel_rfl
  refine XS.then ?_
  refine TS.seq ?_
  obtain ⟨y_3, hx2, h⟩ := bind_some' h
  have hq : (True) ∧ ((True) ∧ ((True) ∧ ((PureC Try.prog 12 [(.st (.cons (.sl .str d_Blocks) (.int .i64 d_Sense))), (.str wrap), (.str data)] (.tup (.cons (.st (.cons (.sl .str y_3.1) (.int .i64 y_3.2.1))) (.cons (.str y_3.2.2.1) (.cons (.str y_3.2.2.2.1) (.cons (.int .i64 y_3.2.2.2.2) .nil))))) []) ∧ ((True) ∧ ((True) ∧ ((True) ∧ ((True) ∧ ((True) ∧ ((True) ∧ ((True) ∧ ((True) ∧ ((True) ∧ ((True) ∧ (True)))))))))))))) := ⟨trivial, ⟨trivial, ⟨trivial, ⟨F12_ok n d_Blocks d_Sense wrap data y_3 hx2, ⟨trivial, ⟨trivial, ⟨trivial, ⟨trivial, ⟨trivial, ⟨trivial, ⟨trivial, ⟨trivial, ⟨trivial, ⟨trivial, trivial⟩⟩⟩⟩⟩⟩⟩⟩⟩⟩⟩⟩⟩⟩
  refine TS.reg [.none, .none, .none, (.call (.tup (.cons (.st (.cons (.sl .str y_3.1) (.int .i64 y_3.2.1))) (.cons (.str y_3.2.2.1) (.cons (.str y_3.2.2.2.1) (.cons (.int .i64 y_3.2.2.2.2) .nil))))) [])] ?_ ?_
  · apply prop_of ?_ hq
    kernel_rfl
  refine XS.then ?_
  refine TS.seq ?_
  obtain ⟨y_4, hx3, h⟩ := bind_some' h
  rcases bif_some h with ⟨c4, h⟩ | ⟨c5, h⟩
  · rcases bif_some h with ⟨c6, h⟩ | ⟨c7, h⟩
    · rcases bif_some h with ⟨c8, h⟩ | ⟨c9, h⟩
      · have hq : (True) ∧ ((True) ∧ ((PureC Try.prog 10 [(.st (.cons (.sl .str y_2.1) (.int .i64 y_2.2.1))), (.st (.cons (.sl .str y_3.1) (.int .i64 y_3.2.1)))] (.bool y_4) []) ∧ (((True) ∧ y_4 = true) ∧ ((True) ∧ ((True) ∧ ((True) ∧ ((True) ∧ (((True) ∧ (y_2.2.2.1 == y_3.2.2.1) = true) ∧ ((True) ∧ ((True) ∧ ((True) ∧ ((True) ∧ (((True) ∧ (y_2.2.2.2.1 == y_3.2.2.2.1) = true) ∧ ((True) ∧ ((True) ∧ ((True) ∧ ((True) ∧ ((True) ∧ (True))))))))))))))))))) := ⟨trivial, ⟨trivial, ⟨F10_ok n y_2.1 y_2.2.1 y_3.1 y_3.2.1 y_4 hx3, ⟨⟨trivial, c4⟩, ⟨trivial, ⟨trivial, ⟨trivial, ⟨trivial, ⟨⟨trivial, c6⟩, ⟨trivial, ⟨trivial, ⟨trivial, ⟨trivial, ⟨⟨trivial, c8⟩, ⟨trivial, ⟨trivial, ⟨trivial, ⟨trivial, ⟨trivial, trivial⟩⟩⟩⟩⟩⟩⟩⟩⟩⟩⟩⟩⟩⟩⟩⟩⟩⟩⟩
        refine TS.reg [.none, .none, (.call (.bool y_4) []), .dec true, .none, .none, .none, .none, .dec true, .none, .none, .none, .none, .dec true] ?_ ?_
        · apply prop_of ?_ hq
          kernel_rfl
        refine XS.then ?_
        refine TS.ret ?_
        obtain rfl : (y_2.2.2.2.2 == y_3.2.2.2.2) = r := Option.some.inj h
        exact XS.fin [] ((True) ∧ (True)) (by kernel_rfl) ⟨trivial, trivial⟩
      · have hq : (True) ∧ ((True) ∧ ((PureC Try.prog 10 [(.st (.cons (.sl .str y_2.1) (.int .i64 y_2.2.1))), (.st (.cons (.sl .str y_3.1) (.int .i64 y_3.2.1)))] (.bool y_4) []) ∧ (((True) ∧ y_4 = true) ∧ ((True) ∧ ((True) ∧ ((True) ∧ ((True) ∧ (((True) ∧ (y_2.2.2.1 == y_3.2.2.1) = true) ∧ ((True) ∧ ((True) ∧ ((True) ∧ ((True) ∧ (((True) ∧ (y_2.2.2.2.1 == y_3.2.2.2.1) = false) ∧ ((True) ∧ ((True) ∧ (True)))))))))))))))) := ⟨trivial, ⟨trivial, ⟨F10_ok n y_2.1 y_2.2.1 y_3.1 y_3.2.1 y_4 hx3, ⟨⟨trivial, c4⟩, ⟨trivial, ⟨trivial, ⟨trivial, ⟨trivial, ⟨⟨trivial, c6⟩, ⟨trivial, ⟨trivial, ⟨trivial, ⟨trivial, ⟨⟨trivial, c9⟩, ⟨trivial, ⟨trivial, trivial⟩⟩⟩⟩⟩⟩⟩⟩⟩⟩⟩⟩⟩⟩⟩⟩
        refine TS.reg [.none, .none, (.call (.bool y_4) []), .dec true, .none, .none, .none, .none, .dec true, .none, .none, .none, .none, .dec false] ?_ ?_
        · apply prop_of ?_ hq
          kernel_rfl
        refine XS.then ?_
        refine TS.ret ?_
        obtain rfl : false = r := Option.some.inj h
        exact XS.fin [] ((True) ∧ (True)) (by kernel_rfl) ⟨trivial, trivial⟩
    · have hq : (True) ∧ ((True) ∧ ((PureC Try.prog 10 [(.st (.cons (.sl .str y_2.1) (.int .i64 y_2.2.1))), (.st (.cons (.sl .str y_3.1) (.int .i64 y_3.2.1)))] (.bool y_4) []) ∧ (((True) ∧ y_4 = true) ∧ ((True) ∧ ((True) ∧ ((True) ∧ ((True) ∧ (((True) ∧ (y_2.2.2.1 == y_3.2.2.1) = false) ∧ ((True) ∧ ((True) ∧ ((True) ∧ ((True) ∧ (True))))))))))))) := ⟨trivial, ⟨trivial, ⟨F10_ok n y_2.1 y_2.2.1 y_3.1 y_3.2.1 y_4 hx3, ⟨⟨trivial, c4⟩, ⟨trivial, ⟨trivial, ⟨trivial, ⟨trivial, ⟨⟨trivial, c7⟩, ⟨trivial, ⟨trivial, ⟨trivial, ⟨trivial, trivial⟩⟩⟩⟩⟩⟩⟩⟩⟩⟩⟩⟩⟩
      refine TS.reg [.none, .none, (.call (.bool y_4) []), .dec true, .none, .none, .none, .none, .dec false] ?_ ?_
      · apply prop_of ?_ hq
        kernel_rfl
      refine XS.then ?_
      refine TS.ret ?_
      obtain rfl : false = r := Option.some.inj h
      exact XS.fin [] ((True) ∧ (True)) (by kernel_rfl) ⟨trivial, trivial⟩
  · have hq : (True) ∧ ((True) ∧ ((PureC Try.prog 10 [(.st (.cons (.sl .str y_2.1) (.int .i64 y_2.2.1))), (.st (.cons (.sl .str y_3.1) (.int .i64 y_3.2.1)))] (.bool y_4) []) ∧ (((True) ∧ y_4 = false) ∧ ((True) ∧ ((True) ∧ ((True) ∧ ((True) ∧ ((True) ∧ ((True) ∧ (True)))))))))) := ⟨trivial, ⟨trivial, ⟨F10_ok n y_2.1 y_2.2.1 y_3.1 y_3.2.1 y_4 hx3, ⟨⟨trivial, c5⟩, ⟨trivial, ⟨trivial, ⟨trivial, ⟨trivial, ⟨trivial, ⟨trivial, trivial⟩⟩⟩⟩⟩⟩⟩⟩⟩⟩
    refine TS.reg [.none, .none, (.call (.bool y_4) []), .dec false] ?_ ?_
    · apply prop_of ?_ hq
      kernel_rfl
    refine XS.then ?_
    refine TS.ret ?_
    obtain rfl : false = r := Option.some.inj h
    exact XS.fin [] ((True) ∧ (True)) (by kernel_rfl) ⟨trivial, trivial⟩
end Go.Proofs.Ytbodjbpgdkkohaa
