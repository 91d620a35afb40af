/- Functions of the program, as functions of values. -/
import Derived.Test.YtbodjbpgdkkohaaFbsx1
import Derived.Test.YtbodjbpgdkkohaaChecked
namespace Go.Proofs.Ytbodjbpgdkkohaa
open Go Go.RowKit
set_option linter.unusedVariables false
set_option maxRecDepth 100000

/-! plugtree/bulk.Serve -/
def F11_j9 (n : Nat) (y_7 : Int × Int × Bool × Int × (List UInt8) × Int) (y_9 : Int × Int × Int × Int × Int) : ((List UInt8) × (List (List UInt8)) × Int × Int) → Option ((List (List UInt8)) × Int × (List UInt8) × (List UInt8) × Int)
  | (answer, m0, m0_2, m3) => ((F32 n y_7.1 y_9.2.2.1 m3).bind fun y_10 => (some (m0, m0_2, answer, y_10.1, (0 : Int))))
def F11_j10 (n : Nat) (d_Blocks : List (List UInt8)) (d_Sense : Int) (y_7 : Int × Int × Bool × Int × (List UInt8) × Int) (m4 : Int) (y_9 : Int × Int × Int × Int × Int) : (List UInt8) → Option ((List (List UInt8)) × Int × (List UInt8) × (List UInt8) × Int)
  | sent => ((F8 n d_Blocks d_Sense y_7.2.2.2.2.1 sent).bind fun y_11 => (bif (y_11.2.2.2 != (0 : Int)) then (F11_j9 n y_7 y_9 (([] : List UInt8), y_11.1, y_11.2.1, (1 : Int))) else (bif (m4 == (1 : Int)) then (bif subB y_11.2.2.1.length none (some y_9.2.1) then (F11_j9 n y_7 y_9 ((y_11.2.2.1.take y_9.2.1.toNat), y_11.1, y_11.2.1, y_9.2.2.2.1)) else none) else (F11_j9 n y_7 y_9 (([] : List UInt8), y_11.1, y_11.2.1, y_9.2.2.2.1)))))
def F11_j7 (n : Nat) (d_Blocks : List (List UInt8)) (d_Sense : Int) (data : List UInt8) (y_7 : Int × Int × Bool × Int × (List UInt8) × Int) (m4 : Int) (y_9 : Int × Int × Int × Int × Int) : Bool → Option ((List (List UInt8)) × Int × (List UInt8) × (List UInt8) × Int)
  | x => (bif x then (some (d_Blocks, d_Sense, ([] : List UInt8), ([] : List UInt8), (3 : Int))) else (bif (y_9.2.2.2.1 != (2 : Int)) then (bif (m4 == (2 : Int)) then (bif subB data.length none (some y_9.2.1) then (F11_j10 n d_Blocks d_Sense y_7 m4 y_9 (data.take y_9.2.1.toNat)) else none) else (F11_j10 n d_Blocks d_Sense y_7 m4 y_9 ([] : List UInt8))) else (F11_j9 n y_7 y_9 (([] : List UInt8), d_Blocks, d_Sense, y_9.2.2.2.1))))
def F11_j6 (n : Nat) (d_Blocks : List (List UInt8)) (d_Sense : Int) (data : List UInt8) (y_7 : Int × Int × Bool × Int × (List UInt8) × Int) : Int → Option ((List (List UInt8)) × Int × (List UInt8) × (List UInt8) × Int)
  | m4 => ((F31 n d_Blocks d_Sense y_7.2.2.2.2.1).bind fun y_8 => ((F30 n m4 y_7.2.1 y_8.1 y_8.2).bind fun y_9 => (bif (m4 == (2 : Int)) then (bif (y_9.2.2.2.1 != (2 : Int)) then (F11_j7 n d_Blocks d_Sense data y_7 m4 y_9 (((data.length : Nat) : Int) != y_7.2.1)) else (F11_j7 n d_Blocks d_Sense data y_7 m4 y_9 false)) else (F11_j7 n d_Blocks d_Sense data y_7 m4 y_9 false))))
def F11 (n : Nat) (d_Blocks : List (List UInt8)) (d_Sense : Int) (wrap : List UInt8) (data : List UInt8) : Option ((List (List UInt8)) × Int × (List UInt8) × (List UInt8) × Int) := (bif (decide (d_Blocks.length ≤ 8796093022208)) then ((F22 n d_Blocks d_Sense).bind fun y_6 => (bif (y_6 != (0 : Int)) then (some (d_Blocks, d_Sense, ([] : List UInt8), ([] : List UInt8), y_6)) else ((F29 n wrap).bind fun y_7 => (bif (y_7.2.2.2.2.2 != (0 : Int)) then (some (d_Blocks, d_Sense, ([] : List UInt8), ([] : List UInt8), (8 : Int))) else (bif (y_7.2.2.2.1 != (0 : Int)) then (some (d_Blocks, d_Sense, ([] : List UInt8), ([] : List UInt8), (8 : Int))) else (bif (y_7.2.1 == (0 : Int)) then (F11_j6 n d_Blocks d_Sense data y_7 (0 : Int)) else (bif y_7.2.2.1 then (F11_j6 n d_Blocks d_Sense data y_7 (1 : Int)) else (F11_j6 n d_Blocks d_Sense data y_7 (2 : Int))))))))) else none)
theorem F11_ok (n : Nat) (d_Blocks : List (List UInt8)) (d_Sense : Int) (wrap : List UInt8) (data : List UInt8) (r : (List (List UInt8)) × Int × (List UInt8) × (List UInt8) × Int) (h : F11 n d_Blocks d_Sense wrap data = some r) : PureC Try.prog 11 [(.st (.cons (.sl .str d_Blocks) (.int .i64 d_Sense))), (.str wrap), (.str data)] (.tup (.cons (.st (.cons (.sl .str r.1) (.int .i64 r.2.1))) (.cons (.str r.2.2.1) (.cons (.str r.2.2.2.1) (.cons (.int .i64 r.2.2.2.2) .nil))))) [] := by
  refine PureC.mkS Try.func11 rfl rfl ?_
  intro w0 fz0 hfz
  replace h : (bif (decide (d_Blocks.length ≤ 8796093022208)) then ((F22 n d_Blocks d_Sense).bind fun y_6 => (bif (y_6 != (0 : Int)) then (some (d_Blocks, d_Sense, ([] : List UInt8), ([] : List UInt8), y_6)) else ((F29 n wrap).bind fun y_7 => (bif (y_7.2.2.2.2.2 != (0 : Int)) then (some (d_Blocks, d_Sense, ([] : List UInt8), ([] : List UInt8), (8 : Int))) else (bif (y_7.2.2.2.1 != (0 : Int)) then (some (d_Blocks, d_Sense, ([] : List UInt8), ([] : List UInt8), (8 : Int))) else (bif (y_7.2.1 == (0 : Int)) then (F11_j6 n d_Blocks d_Sense data y_7 (0 : Int)) else (bif y_7.2.2.1 then (F11_j6 n d_Blocks d_Sense data y_7 (1 : Int)) else (F11_j6 n d_Blocks d_Sense data y_7 (2 : Int))))))))) else none) = some r := h
  refine TS.seq ?_
  have hq : (True) ∧ ((True) ∧ ((True) ∧ ((True) ∧ ((True) ∧ (True))))) := ⟨trivial, ⟨trivial, ⟨trivial, ⟨trivial, ⟨trivial, trivial⟩⟩⟩⟩⟩
  refine TS.reg [] ?_ ?_
  · apply prop_of ?_ hq
    kernel_rfl
  refine XS.then ?_
  refine TS.seq ?_
  obtain ⟨t1, h⟩ := test_some h
  have hq : (True) ∧ ((True) ∧ ((d_Blocks.length ≤ 8796093022208) ∧ ((True) ∧ ((True) ∧ (True))))) := ⟨trivial, ⟨trivial, ⟨of_decide_eq_true t1, ⟨trivial, ⟨trivial, trivial⟩⟩⟩⟩⟩
  refine TS.reg [] ?_ ?_
  · apply prop_of ?_ hq
    kernel_rfl
  refine XS.then ?_
  refine TS.seq ?_
  refine TS.seq ?_
  obtain ⟨y_6, hx2, h⟩ := bind_some' h
  have hq : (True) ∧ (((((True) ∧ (True)) ∧ (True)) ∧ PureC Try.prog 22 [(.st (.cons (.sl .str d_Blocks) (.int .i64 d_Sense)))] (.int .i64 y_6) []) ∧ ((True) ∧ (True))) := ⟨trivial, ⟨⟨⟨⟨trivial, trivial⟩, trivial⟩, F22_ok n d_Blocks d_Sense y_6 hx2⟩, ⟨trivial, trivial⟩⟩⟩
  refine TS.reg [.none, (.call (.int .i64 y_6) [])] ?_ ?_
  · apply prop_of ?_ hq
    kernel_rfl
  refine XS.then ?_
  refine TS.seq ?_
  have hq : (True) ∧ ((True) ∧ (True)) := ⟨trivial, ⟨trivial, trivial⟩⟩
  refine TS.reg [] ?_ ?_
  · apply prop_of ?_ hq
    kernel_rfl
  refine XS.then ?_
  rcases bif_some h with ⟨c3, h⟩ | ⟨c4, h⟩
  · refine TS.cond (y_6 != (0 : Int)) ?_ (fun hcz => ?_) (fun hcz => by rw [c3] at hcz; cases hcz)
    · kernel_rfl
    refine TS.seq ?_
    have hq : (True) ∧ ((True) ∧ ((True) ∧ ((True) ∧ ((True) ∧ ((True) ∧ (True)))))) := ⟨trivial, ⟨trivial, ⟨trivial, ⟨trivial, ⟨trivial, ⟨trivial, trivial⟩⟩⟩⟩⟩⟩
    refine TS.reg [] ?_ ?_
    · apply prop_of ?_ hq
      kernel_rfl
    refine XS.then ?_
    refine TS.ret ?_
    refine XS.passR ?_
    obtain rfl : (d_Blocks, d_Sense, ([] : List UInt8), ([] : List UInt8), y_6) = r := Option.some.inj h
    refine XS.wk (.frz 2) ?_
    exact XS.fin [] ((True) ∧ ((True) ∧ ((True) ∧ ((True) ∧ (True))))) (by kernel_rfl) ⟨trivial, ⟨trivial, ⟨trivial, ⟨trivial, trivial⟩⟩⟩⟩
  · refine TS.cond (y_6 != (0 : Int)) ?_ (fun hcz => by rw [c4] at hcz; cases hcz) (fun hcz => ?_)
    · kernel_rfl
    refine TS.skip ?_
    refine XS.then ?_
    refine TS.seq ?_
    obtain ⟨y_7, hx5, h⟩ := bind_some' h
    have hq : (True) ∧ ((PureC Try.prog 29 [(.str wrap)] (.tup (.cons (.st (.cons (.int .i64 y_7.1) (.cons (.int .i64 y_7.2.1) (.cons (.bool y_7.2.2.1) (.cons (.int .i64 y_7.2.2.2.1) (.str y_7.2.2.2.2.1)))))) (.cons (.int .i64 y_7.2.2.2.2.2) .nil))) []) ∧ ((True) ∧ ((True) ∧ ((True) ∧ ((True) ∧ ((True) ∧ ((True) ∧ (True)))))))) := ⟨trivial, ⟨F29_ok n wrap y_7 hx5, ⟨trivial, ⟨trivial, ⟨trivial, ⟨trivial, ⟨trivial, ⟨trivial, trivial⟩⟩⟩⟩⟩⟩⟩⟩
    refine TS.reg [.none, (.call (.tup (.cons (.st (.cons (.int .i64 y_7.1) (.cons (.int .i64 y_7.2.1) (.cons (.bool y_7.2.2.1) (.cons (.int .i64 y_7.2.2.2.1) (.str y_7.2.2.2.2.1)))))) (.cons (.int .i64 y_7.2.2.2.2.2) .nil))) [])] ?_ ?_
    · apply prop_of ?_ hq
      kernel_rfl
    refine XS.then ?_
    refine TS.seq ?_
    refine TS.seq ?_
    rcases bif_some h with ⟨c6, h⟩ | ⟨c7, h⟩
    · have hq : (True) ∧ ((True) ∧ (((True) ∧ (y_7.2.2.2.2.2 != (0 : Int)) = true) ∧ ((True) ∧ (True)))) := ⟨trivial, ⟨trivial, ⟨⟨trivial, c6⟩, ⟨trivial, trivial⟩⟩⟩⟩
      refine TS.reg [.none, .none, .dec true] ?_ ?_
      · apply prop_of ?_ hq
        kernel_rfl
      refine XS.then ?_
      refine TS.yes ?_ ?_
      · kernel_rfl
      refine TS.seq ?_
      have hq : (True) ∧ ((True) ∧ ((True) ∧ ((True) ∧ ((True) ∧ (True))))) := ⟨trivial, ⟨trivial, ⟨trivial, ⟨trivial, ⟨trivial, trivial⟩⟩⟩⟩⟩
      refine TS.reg [] ?_ ?_
      · apply prop_of ?_ hq
        kernel_rfl
      refine XS.then ?_
      refine TS.ret ?_
      refine XS.passR ?_
      obtain rfl : (d_Blocks, d_Sense, ([] : List UInt8), ([] : List UInt8), (8 : Int)) = r := Option.some.inj h
      refine XS.wk (.frz 2) ?_
      exact XS.fin [] ((True) ∧ ((True) ∧ ((True) ∧ ((True) ∧ (True))))) (by kernel_rfl) ⟨trivial, ⟨trivial, ⟨trivial, ⟨trivial, trivial⟩⟩⟩⟩
    · have hq : (True) ∧ ((True) ∧ (((True) ∧ (y_7.2.2.2.2.2 != (0 : Int)) = false) ∧ ((True) ∧ ((True) ∧ ((True) ∧ ((True) ∧ (True))))))) := ⟨trivial, ⟨trivial, ⟨⟨trivial, c7⟩, ⟨trivial, ⟨trivial, ⟨trivial, ⟨trivial, trivial⟩⟩⟩⟩⟩⟩⟩
      refine TS.reg [.none, .none, .dec false] ?_ ?_
      · apply prop_of ?_ hq
        kernel_rfl
      refine XS.then ?_
      rcases bif_some h with ⟨c8, h⟩ | ⟨c9, h⟩
      · refine TS.cond (y_7.2.2.2.1 != (0 : Int)) ?_ (fun hcz => ?_) (fun hcz => by rw [c8] at hcz; cases hcz)
        · kernel_rfl
        refine TS.seq ?_
        have hq : (True) ∧ ((True) ∧ ((True) ∧ ((True) ∧ ((True) ∧ (True))))) := ⟨trivial, ⟨trivial, ⟨trivial, ⟨trivial, ⟨trivial, trivial⟩⟩⟩⟩⟩
        refine TS.reg [] ?_ ?_
        · apply prop_of ?_ hq
          kernel_rfl
        refine XS.then ?_
        refine TS.ret ?_
        refine XS.passR ?_
        obtain rfl : (d_Blocks, d_Sense, ([] : List UInt8), ([] : List UInt8), (8 : Int)) = r := Option.some.inj h
        refine XS.wk (.frz 2) ?_
        exact XS.fin [] ((True) ∧ ((True) ∧ ((True) ∧ ((True) ∧ (True))))) (by kernel_rfl) ⟨trivial, ⟨trivial, ⟨trivial, ⟨trivial, trivial⟩⟩⟩⟩
      · refine TS.cond (y_7.2.2.2.1 != (0 : Int)) ?_ (fun hcz => by rw [c9] at hcz; cases hcz) (fun hcz => ?_)
        · kernel_rfl
        refine TS.skip ?_
        refine XS.then ?_
        refine TS.seq ?_
        have hq : (True) ∧ ((True) ∧ (((True) ∧ (True)) ∧ ((True) ∧ ((True) ∧ (True))))) := ⟨trivial, ⟨trivial, ⟨⟨trivial, trivial⟩, ⟨trivial, ⟨trivial, trivial⟩⟩⟩⟩⟩
        refine TS.reg [] ?_ ?_
        · apply prop_of ?_ hq
          kernel_rfl
        refine XS.then ?_
        refine TS.seq ?_
        refine TS.cut (D := Int) (fun d => match d with | m4 => (mkTs 129 [(2, (.str data)), (3, (.ptr 0 [])), (6, (.ptr 2 [])), (11, (.ptr 3 [])), (13, (.ptr 4 []))], [(.box 24 (.st (.cons (.row 1) (.int .i64 d_Sense)))), (.row 9 .str d_Blocks), (.box 24 (.st (.cons .nilS (.int .i64 (0 : Int))))), (.box 35 (.st (.cons (.int .i64 y_7.1) (.cons (.int .i64 y_7.2.1) (.cons (.bool y_7.2.2.1) (.cons (.int .i64 y_7.2.2.2.1) (.str y_7.2.2.2.2.1))))))), (.box 70 (.st (.cons (.int .i64 m4) (.int .i64 y_7.2.1))))])) (fun d => F11_j6 n d_Blocks d_Sense data y_7 d = some r) ?_ ?_
        · rintro m4 h
          replace h : ((F31 n d_Blocks d_Sense y_7.2.2.2.2.1).bind fun y_8 => ((F30 n m4 y_7.2.1 y_8.1 y_8.2).bind fun y_9 => (bif (m4 == (2 : Int)) then (bif (y_9.2.2.2.1 != (2 : Int)) then (F11_j7 n d_Blocks d_Sense data y_7 m4 y_9 (((data.length : Nat) : Int) != y_7.2.1)) else (F11_j7 n d_Blocks d_Sense data y_7 m4 y_9 false)) else (F11_j7 n d_Blocks d_Sense data y_7 m4 y_9 false)))) = some r := h
          refine XS.then ?_
          refine TS.seq ?_
          obtain ⟨y_8, hx10, h⟩ := bind_some' h
          obtain ⟨y_9, hx11, h⟩ := bind_some' h
          have hq : ((True) ∧ ((True) ∧ ((True) ∧ ((True) ∧ (((((True) ∧ (True)) ∧ ((True) ∧ (True))) ∧ PureC Try.prog 31 [(.st (.cons (.sl .str d_Blocks) (.int .i64 d_Sense))), (.str y_7.2.2.2.2.1)] (.st (.cons (.int .i64 y_8.1) (.int .i64 y_8.2))) []) ∧ ((PureC Try.prog 30 [(.st (.cons (.int .i64 m4) (.int .i64 y_7.2.1))), (.st (.cons (.int .i64 y_8.1) (.int .i64 y_8.2)))] (.tup (.cons (.st (.cons (.int .i64 y_9.1) (.cons (.int .i64 y_9.2.1) (.cons (.int .i64 y_9.2.2.1) (.int .i64 y_9.2.2.2.1))))) (.cons (.int .i64 y_9.2.2.2.2) .nil))) []) ∧ ((True) ∧ ((True) ∧ ((True) ∧ ((True) ∧ ((True) ∧ (True)))))))))))) ∧ ((True) ∧ (True)) := ⟨⟨trivial, ⟨trivial, ⟨trivial, ⟨trivial, ⟨⟨⟨⟨trivial, trivial⟩, ⟨trivial, trivial⟩⟩, F31_ok n d_Blocks d_Sense y_7.2.2.2.2.1 y_8 hx10⟩, ⟨F30_ok n m4 y_7.2.1 y_8.1 y_8.2 y_9 hx11, ⟨trivial, ⟨trivial, ⟨trivial, ⟨trivial, ⟨trivial, trivial⟩⟩⟩⟩⟩⟩⟩⟩⟩⟩⟩, ⟨trivial, trivial⟩⟩
          refine TS.draw 11 [(10, 5)] [.none, .none, .none, .none, (.call (.st (.cons (.int .i64 y_8.1) (.int .i64 y_8.2))) []), (.call (.tup (.cons (.st (.cons (.int .i64 y_9.1) (.cons (.int .i64 y_9.2.1) (.cons (.int .i64 y_9.2.2.1) (.int .i64 y_9.2.2.2.1))))) (.cons (.int .i64 y_9.2.2.2.2) .nil))) [])] (by kernel_rfl) ?_ ?_
          · apply prop_of ?_ hq
            kernel_rfl
          refine XS.then ?_
          refine TS.seq ?_
          refine TS.seq ?_
          refine TS.cut (D := Bool) (fun d => match d with | x => (mkTs 129 [(2, (.str data)), (3, (.ptr 0 [])), (6, (.ptr 2 [])), (11, (.ptr 3 [])), (13, (.ptr 4 [])), (14, (.ptr 5 [])), (81, (.bool x))], [(.box 24 (.st (.cons (.row 1) (.int .i64 d_Sense)))), (.row 9 .str d_Blocks), (.box 24 (.st (.cons .nilS (.int .i64 (0 : Int))))), (.box 35 (.st (.cons (.int .i64 y_7.1) (.cons (.int .i64 y_7.2.1) (.cons (.bool y_7.2.2.1) (.cons (.int .i64 y_7.2.2.2.1) (.str y_7.2.2.2.2.1))))))), (.box 70 (.st (.cons (.int .i64 m4) (.int .i64 y_7.2.1)))), (.box 72 (.st (.cons (.int .i64 y_9.1) (.cons (.int .i64 y_9.2.1) (.cons (.int .i64 y_9.2.2.1) (.int .i64 y_9.2.2.2.1))))))])) (fun d => F11_j7 n d_Blocks d_Sense data y_7 m4 y_9 d = some r) ?_ ?_
          · rintro x h
            replace h : (bif x then (some (d_Blocks, d_Sense, ([] : List UInt8), ([] : List UInt8), (3 : Int))) else (bif (y_9.2.2.2.1 != (2 : Int)) then (bif (m4 == (2 : Int)) then (bif subB data.length none (some y_9.2.1) then (F11_j10 n d_Blocks d_Sense y_7 m4 y_9 (data.take y_9.2.1.toNat)) else none) else (F11_j10 n d_Blocks d_Sense y_7 m4 y_9 ([] : List UInt8))) else (F11_j9 n y_7 y_9 (([] : List UInt8), d_Blocks, d_Sense, y_9.2.2.2.1)))) = some r := h
            refine XS.then ?_
            rcases bif_some h with ⟨c12, h⟩ | ⟨c13, h⟩
            · refine TS.cond x ?_ (fun hcz => ?_) (fun hcz => by rw [c12] at hcz; cases hcz)
              · kernel_rfl
              refine TS.seq ?_
              have hq : (True) ∧ ((True) ∧ ((True) ∧ ((True) ∧ ((True) ∧ (True))))) := ⟨trivial, ⟨trivial, ⟨trivial, ⟨trivial, ⟨trivial, trivial⟩⟩⟩⟩⟩
              refine TS.reg [] ?_ ?_
              · apply prop_of ?_ hq
                kernel_rfl
              refine XS.then ?_
              refine TS.ret ?_
              refine XS.passR ?_
              obtain rfl : (d_Blocks, d_Sense, ([] : List UInt8), ([] : List UInt8), (3 : Int)) = r := Option.some.inj h
              refine XS.wk (.frz 1) ?_
              exact XS.fin [] ((True) ∧ ((True) ∧ ((True) ∧ ((True) ∧ (True))))) (by kernel_rfl) ⟨trivial, ⟨trivial, ⟨trivial, ⟨trivial, trivial⟩⟩⟩⟩
            · refine TS.cond x ?_ (fun hcz => by rw [c13] at hcz; cases hcz) (fun hcz => ?_)
              · kernel_rfl
              refine TS.skip ?_
              refine XS.then ?_
              refine TS.seq ?_
              have hq : (True) ∧ (True) := ⟨trivial, trivial⟩
              refine TS.reg [] ?_ ?_
              · apply prop_of ?_ hq
                kernel_rfl
              refine XS.then ?_
              refine TS.seq ?_
              refine TS.seq ?_
              have hq : (True) ∧ ((True) ∧ ((True) ∧ (True))) := ⟨trivial, ⟨trivial, ⟨trivial, trivial⟩⟩⟩
              refine TS.reg [] ?_ ?_
              · apply prop_of ?_ hq
                kernel_rfl
              refine XS.then ?_
              refine TS.cut (D := (List UInt8) × (List (List UInt8)) × Int × Int) (fun d => match d with | (answer, m0, m0_2, m3) => (mkTs 129 [(3, (.ptr 0 [])), (6, (.ptr 1 [])), (11, (.ptr 2 [])), (14, (.ptr 3 [])), (16, (.str answer))], [(.box 24 (.st (.cons (.sl .str m0) (.int .i64 m0_2)))), (.box 24 (.st (.cons .nilS (.int .i64 (0 : Int))))), (.box 35 (.st (.cons (.int .i64 y_7.1) (.cons (.int .i64 y_7.2.1) (.cons (.bool y_7.2.2.1) (.cons (.int .i64 y_7.2.2.2.1) (.str y_7.2.2.2.2.1))))))), (.box 72 (.st (.cons (.int .i64 y_9.1) (.cons (.int .i64 y_9.2.1) (.cons (.int .i64 y_9.2.2.1) (.int .i64 m3))))))])) (fun d => F11_j9 n y_7 y_9 d = some r) ?_ ?_
              · rintro ⟨answer, m0, m0_2, m3⟩ h
                replace h : ((F32 n y_7.1 y_9.2.2.1 m3).bind fun y_10 => (some (m0, m0_2, answer, y_10.1, (0 : Int)))) = some r := h
                refine XS.then ?_
                refine TS.seq ?_
                obtain ⟨y_10, hx14, h⟩ := bind_some' h
                have hq : (True) ∧ ((True) ∧ ((True) ∧ ((True) ∧ ((True) ∧ ((True) ∧ (((True) ∧ ((True) ∧ ((True) ∧ (True)))) ∧ ((PureC Try.prog 32 [(.st (.cons (.int .i64 y_7.1) (.cons (.int .i64 y_9.2.2.1) (.int .i64 m3))))] (.tup (.cons (.str y_10.1) (.cons (.int .i64 y_10.2) .nil))) []) ∧ ((True) ∧ ((True) ∧ ((True) ∧ ((True) ∧ ((True) ∧ (True))))))))))))) := ⟨trivial, ⟨trivial, ⟨trivial, ⟨trivial, ⟨trivial, ⟨trivial, ⟨⟨trivial, ⟨trivial, ⟨trivial, trivial⟩⟩⟩, ⟨F32_ok n y_7.1 y_9.2.2.1 m3 y_10 hx14, ⟨trivial, ⟨trivial, ⟨trivial, ⟨trivial, ⟨trivial, trivial⟩⟩⟩⟩⟩⟩⟩⟩⟩⟩⟩⟩⟩
                refine TS.reg [.none, .none, .none, .none, .none, .none, .none, (.call (.tup (.cons (.str y_10.1) (.cons (.int .i64 y_10.2) .nil))) [])] ?_ ?_
                · apply prop_of ?_ hq
                  kernel_rfl
                refine XS.then ?_
                refine TS.seq ?_
                have hq : (True) ∧ ((True) ∧ ((True) ∧ ((True) ∧ ((True) ∧ ((True) ∧ ((True) ∧ (True))))))) := ⟨trivial, ⟨trivial, ⟨trivial, ⟨trivial, ⟨trivial, ⟨trivial, ⟨trivial, trivial⟩⟩⟩⟩⟩⟩⟩
                refine TS.reg [] ?_ ?_
                · apply prop_of ?_ hq
                  kernel_rfl
                refine XS.then ?_
                refine TS.ret ?_
                obtain rfl : (m0, m0_2, answer, y_10.1, (0 : Int)) = r := Option.some.inj h
                exact XS.fin [] ((True) ∧ ((True) ∧ ((True) ∧ ((True) ∧ (True))))) (by kernel_rfl) ⟨trivial, ⟨trivial, ⟨trivial, ⟨trivial, trivial⟩⟩⟩⟩
              · rcases bif_some h with ⟨c15, h⟩ | ⟨c16, h⟩
                · refine TS.cond (y_9.2.2.2.1 != (2 : Int)) ?_ (fun hcz => ?_) (fun hcz => by rw [c15] at hcz; cases hcz)
                  · kernel_rfl
                  refine TS.seq ?_
                  have hq : (True) ∧ (True) := ⟨trivial, trivial⟩
                  refine TS.reg [] ?_ ?_
                  · apply prop_of ?_ hq
                    kernel_rfl
                  refine XS.then ?_
                  refine TS.seq ?_
                  refine TS.seq ?_
                  have hq : (True) ∧ ((True) ∧ ((True) ∧ (True))) := ⟨trivial, ⟨trivial, ⟨trivial, trivial⟩⟩⟩
                  refine TS.reg [] ?_ ?_
                  · apply prop_of ?_ hq
                    kernel_rfl
                  refine XS.then ?_
                  refine TS.cut (D := List UInt8) (fun d => match d with | sent => (mkTs 129 [(3, (.ptr 0 [])), (6, (.ptr 2 [])), (11, (.ptr 3 [])), (13, (.ptr 4 [])), (14, (.ptr 5 [])), (16, (.str ([] : List UInt8))), (17, (.str sent))], [(.box 24 (.st (.cons (.row 1) (.int .i64 d_Sense)))), (.row 9 .str d_Blocks), (.box 24 (.st (.cons .nilS (.int .i64 (0 : Int))))), (.box 35 (.st (.cons (.int .i64 y_7.1) (.cons (.int .i64 y_7.2.1) (.cons (.bool y_7.2.2.1) (.cons (.int .i64 y_7.2.2.2.1) (.str y_7.2.2.2.2.1))))))), (.box 70 (.st (.cons (.int .i64 m4) (.int .i64 y_7.2.1)))), (.box 72 (.st (.cons (.int .i64 y_9.1) (.cons (.int .i64 y_9.2.1) (.cons (.int .i64 y_9.2.2.1) (.int .i64 y_9.2.2.2.1))))))])) (fun d => F11_j10 n d_Blocks d_Sense y_7 m4 y_9 d = some r) ?_ ?_
                  · rintro sent h
                    replace h : ((F8 n d_Blocks d_Sense y_7.2.2.2.2.1 sent).bind fun y_11 => (bif (y_11.2.2.2 != (0 : Int)) then (F11_j9 n y_7 y_9 (([] : List UInt8), y_11.1, y_11.2.1, (1 : Int))) else (bif (m4 == (1 : Int)) then (bif subB y_11.2.2.1.length none (some y_9.2.1) then (F11_j9 n y_7 y_9 ((y_11.2.2.1.take y_9.2.1.toNat), y_11.1, y_11.2.1, y_9.2.2.2.1)) else none) else (F11_j9 n y_7 y_9 (([] : List UInt8), y_11.1, y_11.2.1, y_9.2.2.2.1))))) = some r := h
                    refine XS.then ?_
                    refine TS.seq ?_
                    refine TS.wk (.frz 1) ?_
                    obtain ⟨y_11, hx17, h⟩ := bind_some' h
                    have hq : (True) ∧ ((True) ∧ ((True) ∧ ((True) ∧ ((PureC Try.prog 8 [(.st (.cons (.sl .str d_Blocks) (.int .i64 d_Sense))), (.str y_7.2.2.2.2.1), (.str sent)] (.tup (.cons (.st (.cons (.sl .str y_11.1) (.int .i64 y_11.2.1))) (.cons (.str y_11.2.2.1) (.cons (.int .i64 y_11.2.2.2) .nil)))) []) ∧ ((True) ∧ ((True) ∧ ((True) ∧ ((True) ∧ ((True) ∧ ((True) ∧ ((True) ∧ ((True) ∧ (True))))))))))))) := ⟨trivial, ⟨trivial, ⟨trivial, ⟨trivial, ⟨F8_ok n d_Blocks d_Sense y_7.2.2.2.2.1 sent y_11 hx17, ⟨trivial, ⟨trivial, ⟨trivial, ⟨trivial, ⟨trivial, ⟨trivial, ⟨trivial, ⟨trivial, trivial⟩⟩⟩⟩⟩⟩⟩⟩⟩⟩⟩⟩⟩
                    refine TS.reg [.none, .none, .none, .none, (.call (.tup (.cons (.st (.cons (.sl .str y_11.1) (.int .i64 y_11.2.1))) (.cons (.str y_11.2.2.1) (.cons (.int .i64 y_11.2.2.2) .nil)))) [])] ?_ ?_
                    · apply prop_of ?_ hq
                      kernel_rfl
                    refine XS.then ?_
                    refine TS.seq ?_
                    have hq : (True) ∧ ((True) ∧ (True)) := ⟨trivial, ⟨trivial, trivial⟩⟩
                    refine TS.reg [] ?_ ?_
                    · apply prop_of ?_ hq
                      kernel_rfl
                    refine XS.then ?_
                    refine TS.block ?_
                    refine TS.seq ?_
                    have hq : (True) ∧ ((True) ∧ ((True) ∧ (True))) := ⟨trivial, ⟨trivial, ⟨trivial, trivial⟩⟩⟩
                    refine TS.reg [] ?_ ?_
                    · apply prop_of ?_ hq
                      kernel_rfl
                    refine XS.then ?_
                    rcases bif_some h with ⟨c18, h⟩ | ⟨c19, h⟩
                    · refine TS.cond (y_11.2.2.2 != (0 : Int)) ?_ (fun hcz => ?_) (fun hcz => by rw [c18] at hcz; cases hcz)
                      · kernel_rfl
                      have hq : (True) ∧ ((True) ∧ (True)) := ⟨trivial, ⟨trivial, trivial⟩⟩
                      refine TS.reg [] ?_ ?_
                      · apply prop_of ?_ hq
                        kernel_rfl
                      refine XS.blockEnd ?_
                      refine XS.reAny [0, 2, 3, 5] (mkMask 129 [3, 6, 11, 14, 16]) (([] : List UInt8), y_11.1, y_11.2.1, (1 : Int)) h ?_
                      kernel_rfl
                    · refine TS.cond (y_11.2.2.2 != (0 : Int)) ?_ (fun hcz => by rw [c19] at hcz; cases hcz) (fun hcz => ?_)
                      · kernel_rfl
                      refine TS.seq ?_
                      have hq : (True) ∧ ((True) ∧ ((True) ∧ ((True) ∧ (True)))) := ⟨trivial, ⟨trivial, ⟨trivial, ⟨trivial, trivial⟩⟩⟩⟩
                      refine TS.reg [] ?_ ?_
                      · apply prop_of ?_ hq
                        kernel_rfl
                      refine XS.then ?_
                      rcases bif_some h with ⟨c20, h⟩ | ⟨c21, h⟩
                      · refine TS.cond (m4 == (1 : Int)) ?_ (fun hcz => ?_) (fun hcz => by rw [c20] at hcz; cases hcz)
                        · kernel_rfl
                        obtain ⟨t22, h⟩ := test_some h
                        have hq : (True) ∧ ((True) ∧ ((True) ∧ ((subC y_11.2.2.1.length none (some y_9.2.1)) ∧ ((True) ∧ (True))))) := ⟨trivial, ⟨trivial, ⟨trivial, ⟨subB_ok t22, ⟨trivial, trivial⟩⟩⟩⟩⟩
                        refine TS.reg [] ?_ ?_
                        · apply prop_of ?_ hq
                          kernel_rfl
                        refine XS.blockEnd ?_
                        refine XS.reAny [0, 2, 3, 5] (mkMask 129 [3, 6, 11, 14, 16]) ((y_11.2.2.1.take y_9.2.1.toNat), y_11.1, y_11.2.1, y_9.2.2.2.1) h ?_
                        kernel_rfl
                      · refine TS.cond (m4 == (1 : Int)) ?_ (fun hcz => by rw [c21] at hcz; cases hcz) (fun hcz => ?_)
                        · kernel_rfl
                        refine TS.skip ?_
                        refine XS.blockEnd ?_
                        refine XS.reAny [0, 2, 3, 5] (mkMask 129 [3, 6, 11, 14, 16]) (([] : List UInt8), y_11.1, y_11.2.1, y_9.2.2.2.1) h ?_
                        kernel_rfl
                  · rcases bif_some h with ⟨c23, h⟩ | ⟨c24, h⟩
                    · refine TS.cond (m4 == (2 : Int)) ?_ (fun hcz => ?_) (fun hcz => by rw [c23] at hcz; cases hcz)
                      · kernel_rfl
                      obtain ⟨t25, h⟩ := test_some h
                      have hq : (True) ∧ ((True) ∧ ((True) ∧ ((subC data.length none (some y_9.2.1)) ∧ ((True) ∧ (True))))) := ⟨trivial, ⟨trivial, ⟨trivial, ⟨subB_ok t25, ⟨trivial, trivial⟩⟩⟩⟩⟩
                      refine TS.reg [] ?_ ?_
                      · apply prop_of ?_ hq
                        kernel_rfl
                      refine XS.reAny [0, 1, 2, 3, 4, 5] (mkMask 129 [3, 6, 11, 13, 14, 16, 17]) (data.take y_9.2.1.toNat) h ?_
                      kernel_rfl
                    · refine TS.cond (m4 == (2 : Int)) ?_ (fun hcz => by rw [c24] at hcz; cases hcz) (fun hcz => ?_)
                      · kernel_rfl
                      refine TS.skip ?_
                      refine XS.reAny [0, 1, 2, 3, 4, 5] (mkMask 129 [3, 6, 11, 13, 14, 16, 17]) ([] : List UInt8) h ?_
                      kernel_rfl
                · refine TS.cond (y_9.2.2.2.1 != (2 : Int)) ?_ (fun hcz => by rw [c16] at hcz; cases hcz) (fun hcz => ?_)
                  · kernel_rfl
                  refine TS.skip ?_
                  refine XS.wk (.frz 1) ?_
                  refine XS.reAny [0, 2, 3, 5] (mkMask 129 [3, 6, 11, 14, 16]) (([] : List UInt8), d_Blocks, d_Sense, y_9.2.2.2.1) h ?_
                  kernel_rfl
          · rcases bif_some h with ⟨c26, h⟩ | ⟨c27, h⟩
            · rcases bif_some h with ⟨c28, h⟩ | ⟨c29, h⟩
              · have hq : (True) ∧ ((True) ∧ ((True) ∧ (((True) ∧ (m4 == (2 : Int)) = true) ∧ ((True) ∧ ((True) ∧ ((True) ∧ ((True) ∧ (((True) ∧ (y_9.2.2.2.1 != (2 : Int)) = true) ∧ ((True) ∧ ((True) ∧ ((True) ∧ ((True) ∧ ((True) ∧ ((True) ∧ (True))))))))))))))) := ⟨trivial, ⟨trivial, ⟨trivial, ⟨⟨trivial, c26⟩, ⟨trivial, ⟨trivial, ⟨trivial, ⟨trivial, ⟨⟨trivial, c28⟩, ⟨trivial, ⟨trivial, ⟨trivial, ⟨trivial, ⟨trivial, ⟨trivial, trivial⟩⟩⟩⟩⟩⟩⟩⟩⟩⟩⟩⟩⟩⟩⟩
                refine TS.reg [.none, .none, .none, .dec true, .none, .none, .none, .none, .dec true] ?_ ?_
                · apply prop_of ?_ hq
                  kernel_rfl
                refine XS.reAny [0, 1, 2, 3, 4, 5] (mkMask 129 [2, 3, 6, 11, 13, 14, 81]) (((data.length : Nat) : Int) != y_7.2.1) h ?_
                kernel_rfl
              · have hq : (True) ∧ ((True) ∧ ((True) ∧ (((True) ∧ (m4 == (2 : Int)) = true) ∧ ((True) ∧ ((True) ∧ ((True) ∧ ((True) ∧ (((True) ∧ (y_9.2.2.2.1 != (2 : Int)) = false) ∧ ((True) ∧ (True)))))))))) := ⟨trivial, ⟨trivial, ⟨trivial, ⟨⟨trivial, c26⟩, ⟨trivial, ⟨trivial, ⟨trivial, ⟨trivial, ⟨⟨trivial, c29⟩, ⟨trivial, trivial⟩⟩⟩⟩⟩⟩⟩⟩⟩⟩
                refine TS.reg [.none, .none, .none, .dec true, .none, .none, .none, .none, .dec false] ?_ ?_
                · apply prop_of ?_ hq
                  kernel_rfl
                refine XS.reAny [0, 1, 2, 3, 4, 5] (mkMask 129 [2, 3, 6, 11, 13, 14, 81]) false h ?_
                kernel_rfl
            · have hq : (True) ∧ ((True) ∧ ((True) ∧ (((True) ∧ (m4 == (2 : Int)) = false) ∧ ((True) ∧ ((True) ∧ ((True) ∧ (True))))))) := ⟨trivial, ⟨trivial, ⟨trivial, ⟨⟨trivial, c27⟩, ⟨trivial, ⟨trivial, ⟨trivial, trivial⟩⟩⟩⟩⟩⟩⟩
              refine TS.reg [.none, .none, .none, .dec false] ?_ ?_
              · apply prop_of ?_ hq
                kernel_rfl
              refine XS.reAny [0, 1, 2, 3, 4, 5] (mkMask 129 [2, 3, 6, 11, 13, 14, 81]) false h ?_
              kernel_rfl
        · refine TS.block ?_
          refine TS.seq ?_
          have hq : (True) ∧ ((True) ∧ ((True) ∧ ((True) ∧ (True)))) := ⟨trivial, ⟨trivial, ⟨trivial, ⟨trivial, trivial⟩⟩⟩⟩
          refine TS.reg [] ?_ ?_
          · apply prop_of ?_ hq
            kernel_rfl
          refine XS.then ?_
          rcases bif_some h with ⟨c30, h⟩ | ⟨c31, h⟩
          · refine TS.cond (y_7.2.1 == (0 : Int)) ?_ (fun hcz => ?_) (fun hcz => by rw [c30] at hcz; cases hcz)
            · kernel_rfl
            refine TS.skip ?_
            refine XS.blockEnd ?_
            refine XS.reAny [0, 2, 1, 3, 4] (mkMask 129 [2, 3, 6, 11, 13]) (0 : Int) h ?_
            kernel_rfl
          · refine TS.cond (y_7.2.1 == (0 : Int)) ?_ (fun hcz => by rw [c31] at hcz; cases hcz) (fun hcz => ?_)
            · kernel_rfl
            refine TS.seq ?_
            have hq : (True) ∧ ((True) ∧ ((True) ∧ (True))) := ⟨trivial, ⟨trivial, ⟨trivial, trivial⟩⟩⟩
            refine TS.reg [] ?_ ?_
            · apply prop_of ?_ hq
              kernel_rfl
            refine XS.then ?_
            rcases bif_some h with ⟨c32, h⟩ | ⟨c33, h⟩
            · refine TS.cond y_7.2.2.1 ?_ (fun hcz => ?_) (fun hcz => by rw [c32] at hcz; cases hcz)
              · kernel_rfl
              have hq : (True) ∧ ((True) ∧ (True)) := ⟨trivial, ⟨trivial, trivial⟩⟩
              refine TS.reg [] ?_ ?_
              · apply prop_of ?_ hq
                kernel_rfl
              refine XS.blockEnd ?_
              refine XS.reAny [0, 2, 1, 3, 4] (mkMask 129 [2, 3, 6, 11, 13]) (1 : Int) h ?_
              kernel_rfl
            · refine TS.cond y_7.2.2.1 ?_ (fun hcz => by rw [c33] at hcz; cases hcz) (fun hcz => ?_)
              · kernel_rfl
              have hq : (True) ∧ ((True) ∧ (True)) := ⟨trivial, ⟨trivial, trivial⟩⟩
              refine TS.reg [] ?_ ?_
              · apply prop_of ?_ hq
                kernel_rfl
              refine XS.blockEnd ?_
              refine XS.reAny [0, 2, 1, 3, 4] (mkMask 129 [2, 3, 6, 11, 13]) (2 : Int) h ?_
              kernel_rfl

/-! plugtree/plugref.Between -/
def F57 (n : Nat) (vn : Int) (low : Int) (high : Int) : Option Bool := (bif (decide (low ≤ vn)) then (some (decide (vn ≤ high))) else (some false))
theorem F57_ok (n : Nat) (vn : Int) (low : Int) (high : Int) (r : Bool) (h : F57 n vn low high = some r) : PureC Try.prog 57 [(.int .i64 vn), (.int .i64 low), (.int .i64 high)] (.bool r) [] := by
  refine PureC.mkS Try.func57 rfl rfl ?_
  intro w0 fz0 hfz
  replace h : (bif (decide (low ≤ vn)) then (some (decide (vn ≤ high))) else (some false)) = some r := h
  refine TS.seq ?_
  have hq : (True) ∧ (True) := ⟨trivial, trivial⟩
  refine TS.reg [] ?_ ?_
  · apply prop_of ?_ hq
    kernel_rfl
  refine XS.then ?_
  refine TS.seq ?_
  rcases bif_some h with ⟨c1, h⟩ | ⟨c2, h⟩
  · have hq : (True) ∧ ((True) ∧ ((True) ∧ (((True) ∧ (decide (low ≤ vn)) = true) ∧ ((True) ∧ ((True) ∧ ((True) ∧ ((True) ∧ ((True) ∧ (True))))))))) := ⟨trivial, ⟨trivial, ⟨trivial, ⟨⟨trivial, c1⟩, ⟨trivial, ⟨trivial, ⟨trivial, ⟨trivial, ⟨trivial, trivial⟩⟩⟩⟩⟩⟩⟩⟩⟩
    refine TS.reg [.none, .none, .none, .dec true] ?_ ?_
    · apply prop_of ?_ hq
      kernel_rfl
    refine XS.then ?_
    refine TS.ret ?_
    obtain rfl : (decide (vn ≤ high)) = r := Option.some.inj h
    exact XS.fin [] ((True) ∧ (True)) (by kernel_rfl) ⟨trivial, trivial⟩
  · have hq : (True) ∧ ((True) ∧ ((True) ∧ (((True) ∧ (decide (low ≤ vn)) = false) ∧ ((True) ∧ ((True) ∧ (True)))))) := ⟨trivial, ⟨trivial, ⟨trivial, ⟨⟨trivial, c2⟩, ⟨trivial, ⟨trivial, trivial⟩⟩⟩⟩⟩⟩
    refine TS.reg [.none, .none, .none, .dec false] ?_ ?_
    · apply prop_of ?_ hq
      kernel_rfl
    refine XS.then ?_
    refine TS.ret ?_
    obtain rfl : false = r := Option.some.inj h
    exact XS.fin [] ((True) ∧ (True)) (by kernel_rfl) ⟨trivial, trivial⟩

/-! plugtree/plugref.DiskRight -/
def F24_l2 (n : Nat) (d_Blocks : List (List UInt8)) (d_Sense : Int) (k24_2 : Int → Option Int) : Int → Option Int
  | x => (bif (decide (x < ((d_Blocks.length : Nat) : Int))) then (bif inb x d_Blocks.length then (bif ((((d_Blocks.getD x.toNat ([] : List UInt8)).length : Nat) : Int) != (16 : Int)) then (some (4 : Int)) else (k24_2 (IntKind.wrap .i64 (x + (1 : Int))))) else none) else ((F52 n [(0 : Int), (32 : Int), (33 : Int), (36 : Int)] d_Sense).bind fun y_3 => (bif (!y_3) then (some (4 : Int)) else (some (0 : Int)))))
def F24 (n : Nat) (d_Blocks : List (List UInt8)) (d_Sense : Int) : Option Int := ((F57 n ((d_Blocks.length : Nat) : Int) (1 : Int) (64 : Int)).bind fun y_2 => (bif (!y_2) then (some (1 : Int)) else (loopF (F24_l2 n d_Blocks d_Sense) n (0 : Int))))
theorem F24_ok (n : Nat) (d_Blocks : List (List UInt8)) (d_Sense : Int) (r : Int) (h : F24 n d_Blocks d_Sense = some r) : PureC Try.prog 24 [(.st (.cons (.sl .str d_Blocks) (.int .i64 d_Sense)))] (.int .i64 r) [] := by
  refine PureC.mkS Try.func24 rfl rfl ?_
  intro w0 fz0 hfz
  replace h : ((F57 n ((d_Blocks.length : Nat) : Int) (1 : Int) (64 : Int)).bind fun y_2 => (bif (!y_2) then (some (1 : Int)) else (loopF (F24_l2 n d_Blocks d_Sense) n (0 : Int)))) = some r := h
  refine TS.seq ?_
  have hq : (True) ∧ ((True) ∧ (True)) := ⟨trivial, ⟨trivial, trivial⟩⟩
  refine TS.reg [] ?_ ?_
  · apply prop_of ?_ hq
    kernel_rfl
  refine XS.then ?_
  refine TS.seq ?_
  refine TS.seq ?_
  obtain ⟨y_2, hx1, h⟩ := bind_some' h
  have hq : (True) ∧ ((True) ∧ ((True) ∧ ((PureC Try.prog 57 [(.int .i64 ((d_Blocks.length : Nat) : Int)), (.int .i64 (1 : Int)), (.int .i64 (64 : Int))] (.bool y_2) []) ∧ ((True) ∧ (True))))) := ⟨trivial, ⟨trivial, ⟨trivial, ⟨F57_ok n ((d_Blocks.length : Nat) : Int) (1 : Int) (64 : Int) y_2 hx1, ⟨trivial, trivial⟩⟩⟩⟩⟩
  refine TS.reg [.none, .none, .none, (.call (.bool y_2) [])] ?_ ?_
  · apply prop_of ?_ hq
    kernel_rfl
  refine XS.then ?_
  rcases bif_some h with ⟨c2, h⟩ | ⟨c3, h⟩
  · refine TS.cond (!y_2) ?_ (fun hcz => ?_) (fun hcz => by rw [c2] at hcz; cases hcz)
    · kernel_rfl
    refine TS.seq ?_
    have hq : (True) ∧ (True) := ⟨trivial, trivial⟩
    refine TS.reg [] ?_ ?_
    · apply prop_of ?_ hq
      kernel_rfl
    refine XS.then ?_
    refine TS.ret ?_
    refine XS.passR ?_
    obtain rfl : (1 : Int) = r := Option.some.inj h
    exact XS.fin [] ((True) ∧ (True)) (by kernel_rfl) ⟨trivial, trivial⟩
  · refine TS.cond (!y_2) ?_ (fun hcz => by rw [c3] at hcz; cases hcz) (fun hcz => ?_)
    · kernel_rfl
    refine TS.skip ?_
    refine XS.then ?_
    refine TS.seq ?_
    refine TS.seq ?_
    have hq : (True) ∧ ((True) ∧ ((True) ∧ ((True) ∧ (True)))) := ⟨trivial, ⟨trivial, ⟨trivial, ⟨trivial, trivial⟩⟩⟩⟩
    refine TS.reg [] ?_ ?_
    · apply prop_of ?_ hq
      kernel_rfl
    refine XS.then ?_
    refine TS.block ?_
    refine TS.reLoop [0] (mkMask 26 [1, 11, 12, 13]) (D := Int) (fun d => match d with | x => (mkTs 26 [(1, (.ptr 0 [])), (11, (.sl .str d_Blocks)), (12, (.int .i64 ((d_Blocks.length : Nat) : Int))), (13, (.int .i64 x))], [(.box 24 (.st (.cons (.sl .str d_Blocks) (.int .i64 d_Sense))))])) (fun n' d => loopF (F24_l2 n d_Blocks d_Sense) n' d = some r) n (0 : Int) h ?_ (fun d => loopF_zero _ d r) ?_
    · kernel_rfl
    · rintro n2 x h
      replace h : (bif (decide (x < ((d_Blocks.length : Nat) : Int))) then (bif inb x d_Blocks.length then (bif ((((d_Blocks.getD x.toNat ([] : List UInt8)).length : Nat) : Int) != (16 : Int)) then (some (4 : Int)) else ((loopF (F24_l2 n d_Blocks d_Sense) n2) (IntKind.wrap .i64 (x + (1 : Int))))) else none) else ((F52 n [(0 : Int), (32 : Int), (33 : Int), (36 : Int)] d_Sense).bind fun y_3 => (bif (!y_3) then (some (4 : Int)) else (some (0 : Int))))) = some r := h
      refine TS.seq ?_
      have hq : (True) ∧ (True) := ⟨trivial, trivial⟩
      refine TS.reg [] ?_ ?_
      · apply prop_of ?_ hq
        kernel_rfl
      refine XS.then ?_
      refine TS.seq ?_
      rcases bif_some h with ⟨c4, h⟩ | ⟨c5, h⟩
      · refine TS.cond (decide (x < ((d_Blocks.length : Nat) : Int))) ?_ (fun hcz => ?_) (fun hcz => by rw [c4] at hcz; cases hcz)
        · kernel_rfl
        refine TS.skip ?_
        refine XS.then ?_
        refine TS.seq ?_
        refine TS.block ?_
        refine TS.seq ?_
        obtain ⟨t6, h⟩ := test_some h
        have hq : (inR x d_Blocks.length) ∧ ((True) ∧ ((True) ∧ (True))) := ⟨inb_ok t6, ⟨trivial, ⟨trivial, trivial⟩⟩⟩
        refine TS.reg [] ?_ ?_
        · apply prop_of ?_ hq
          kernel_rfl
        refine XS.then ?_
        refine TS.seq ?_
        have hq : (True) ∧ ((True) ∧ ((True) ∧ (True))) := ⟨trivial, ⟨trivial, ⟨trivial, trivial⟩⟩⟩
        refine TS.reg [] ?_ ?_
        · apply prop_of ?_ hq
          kernel_rfl
        refine XS.then ?_
        rcases bif_some h with ⟨c7, h⟩ | ⟨c8, h⟩
        · refine TS.cond ((((d_Blocks.getD x.toNat ([] : List UInt8)).length : Nat) : Int) != (16 : Int)) ?_ (fun hcz => ?_) (fun hcz => by rw [c7] at hcz; cases hcz)
          · kernel_rfl
          refine TS.seq ?_
          have hq : (True) ∧ (True) := ⟨trivial, trivial⟩
          refine TS.reg [] ?_ ?_
          · apply prop_of ?_ hq
            kernel_rfl
          refine XS.then ?_
          refine TS.ret ?_
          refine XS.blockRet ?_
          refine XS.passR ?_
          refine XS.passR ?_
          refine XS.blockRet ?_
          refine XS.passR ?_
          obtain rfl : (4 : Int) = r := Option.some.inj h
          exact XS.fin [] ((True) ∧ (True)) (by kernel_rfl) ⟨trivial, trivial⟩
        · refine TS.cond ((((d_Blocks.getD x.toNat ([] : List UInt8)).length : Nat) : Int) != (16 : Int)) ?_ (fun hcz => by rw [c8] at hcz; cases hcz) (fun hcz => ?_)
          · kernel_rfl
          refine TS.skip ?_
          refine XS.blockEnd ?_
          refine XS.then ?_
          have hq : (True) ∧ ((True) ∧ (True)) := ⟨trivial, ⟨trivial, trivial⟩⟩
          refine TS.reg [] ?_ ?_
          · apply prop_of ?_ hq
            kernel_rfl
          refine XS.reAny [0] (mkMask 26 [1, 11, 12, 13]) (IntKind.wrap .i64 (x + (1 : Int))) h ?_
          kernel_rfl
      · refine TS.cond (decide (x < ((d_Blocks.length : Nat) : Int))) ?_ (fun hcz => by rw [c5] at hcz; cases hcz) (fun hcz => ?_)
        · kernel_rfl
        refine TS.exit ?_
        refine XS.passE ?_
        refine XS.passE ?_
        refine XS.out ?_
        refine XS.then ?_
        refine TS.seq ?_
        refine TS.seq ?_
        obtain ⟨y_3, hx9, h⟩ := bind_some' h
        have hq : ((0 < 4 ∧ True) ∧ ((1 < 4 ∧ True) ∧ ((2 < 4 ∧ True) ∧ ((3 < 4 ∧ True) ∧ (True))))) ∧ ((True) ∧ ((True) ∧ ((((True) ∧ ((True) ∧ (True))) ∧ PureC Try.prog 52 [(.sl (.int .i64) [(0 : Int), (32 : Int), (33 : Int), (36 : Int)]), (.int .i64 d_Sense)] (.bool y_3) []) ∧ ((True) ∧ (True))))) := ⟨⟨⟨by decide, trivial⟩, ⟨⟨by decide, trivial⟩, ⟨⟨by decide, trivial⟩, ⟨⟨by decide, trivial⟩, trivial⟩⟩⟩⟩, ⟨trivial, ⟨trivial, ⟨⟨⟨trivial, ⟨trivial, trivial⟩⟩, F52_ok n [(0 : Int), (32 : Int), (33 : Int), (36 : Int)] d_Sense y_3 hx9⟩, ⟨trivial, trivial⟩⟩⟩⟩⟩
        refine TS.reg [.none, .none, .none, (.call (.bool y_3) [])] ?_ ?_
        · apply prop_of ?_ hq
          kernel_rfl
        refine XS.then ?_
        rcases bif_some h with ⟨c10, h⟩ | ⟨c11, h⟩
        · refine TS.cond (!y_3) ?_ (fun hcz => ?_) (fun hcz => by rw [c10] at hcz; cases hcz)
          · kernel_rfl
          refine TS.seq ?_
          have hq : (True) ∧ (True) := ⟨trivial, trivial⟩
          refine TS.reg [] ?_ ?_
          · apply prop_of ?_ hq
            kernel_rfl
          refine XS.then ?_
          refine TS.ret ?_
          refine XS.passR ?_
          obtain rfl : (4 : Int) = r := Option.some.inj h
          exact XS.fin [] ((True) ∧ (True)) (by kernel_rfl) ⟨trivial, trivial⟩
        · refine TS.cond (!y_3) ?_ (fun hcz => by rw [c11] at hcz; cases hcz) (fun hcz => ?_)
          · kernel_rfl
          refine TS.skip ?_
          refine XS.then ?_
          refine TS.seq ?_
          have hq : (True) ∧ (True) := ⟨trivial, trivial⟩
          refine TS.reg [] ?_ ?_
          · apply prop_of ?_ hq
            kernel_rfl
          refine XS.then ?_
          refine TS.ret ?_
          obtain rfl : (0 : Int) = r := Option.some.inj h
          exact XS.fin [] ((True) ∧ (True)) (by kernel_rfl) ⟨trivial, trivial⟩

/-! plugtree/plugref.WordAt -/
def F88 (n : Nat) (s : List UInt8) (vat : Int) : Option Int := (bif inb (IntKind.wrap .i64 (vat + (1 : Int))) s.length then (bif inb vat s.length then (some (IntKind.wrap .i64 ((IntKind.wrap .i64 ((256 : Int) * (IntKind.wrap .i64 ((((s.getD ((IntKind.wrap .i64 (vat + (1 : Int))).toNat) 0).toNat : Nat) : Int))))) + (IntKind.wrap .i64 ((((s.getD vat.toNat 0).toNat : Nat) : Int)))))) else none) else none)
theorem F88_ok (n : Nat) (s : List UInt8) (vat : Int) (r : Int) (h : F88 n s vat = some r) : PureC Try.prog 88 [(.str s), (.int .i64 vat)] (.int .i64 r) [] := by
  refine PureC.mkS Try.func88 rfl rfl ?_
  intro w0 fz0 hfz
  replace h : (bif inb (IntKind.wrap .i64 (vat + (1 : Int))) s.length then (bif inb vat s.length then (some (IntKind.wrap .i64 ((IntKind.wrap .i64 ((256 : Int) * (IntKind.wrap .i64 ((((s.getD ((IntKind.wrap .i64 (vat + (1 : Int))).toNat) 0).toNat : Nat) : Int))))) + (IntKind.wrap .i64 ((((s.getD vat.toNat 0).toNat : Nat) : Int)))))) else none) else none) = some r := h
  refine TS.seq ?_
  have hq : (True) ∧ (True) := ⟨trivial, trivial⟩
  refine TS.reg [] ?_ ?_
  · apply prop_of ?_ hq
    kernel_rfl
  refine XS.then ?_
  refine TS.seq ?_
  obtain ⟨t1, h⟩ := test_some h
  obtain ⟨t2, h⟩ := test_some h
  have hq : ((True) ∧ ((True) ∧ ((True) ∧ ((inR (IntKind.wrap .i64 (vat + (1 : Int))) s.length) ∧ ((True) ∧ ((True) ∧ ((True) ∧ ((True) ∧ ((inR vat s.length) ∧ ((True) ∧ ((True) ∧ (True)))))))))))) ∧ ((True) ∧ (True)) := ⟨⟨trivial, ⟨trivial, ⟨trivial, ⟨inb_ok t1, ⟨trivial, ⟨trivial, ⟨trivial, ⟨trivial, ⟨inb_ok t2, ⟨trivial, ⟨trivial, trivial⟩⟩⟩⟩⟩⟩⟩⟩⟩⟩⟩, ⟨trivial, trivial⟩⟩
  refine TS.draw 11 [] [] (by kernel_rfl) ?_ ?_
  · apply prop_of ?_ hq
    kernel_rfl
  refine XS.then ?_
  refine TS.ret ?_
  obtain rfl : (IntKind.wrap .i64 ((IntKind.wrap .i64 ((256 : Int) * (IntKind.wrap .i64 ((((s.getD ((IntKind.wrap .i64 (vat + (1 : Int))).toNat) 0).toNat : Nat) : Int))))) + (IntKind.wrap .i64 ((((s.getD vat.toNat 0).toNat : Nat) : Int))))) = r := Option.some.inj h
  exact XS.fin [] ((True) ∧ (True)) (by kernel_rfl) ⟨trivial, trivial⟩

/-! plugtree/plugref.lowNum -/
def F66 (n : Nat) (s : List UInt8) : Option Int := ((F88 n s (0 : Int)).bind fun y_2 => ((F88 n s (2 : Int)).bind fun y_3 => (some (IntKind.wrap .i64 (y_2 + (IntKind.wrap .i64 ((65536 : Int) * y_3)))))))
theorem F66_ok (n : Nat) (s : List UInt8) (r : Int) (h : F66 n s = some r) : PureC Try.prog 66 [(.str s)] (.int .i64 r) [] := by
  refine PureC.mkS Try.func66 rfl rfl ?_
  intro w0 fz0 hfz
  replace h : ((F88 n s (0 : Int)).bind fun y_2 => ((F88 n s (2 : Int)).bind fun y_3 => (some (IntKind.wrap .i64 (y_2 + (IntKind.wrap .i64 ((65536 : Int) * y_3))))))) = some r := h
  refine TS.seq ?_
  have hq : (True) ∧ (True) := ⟨trivial, trivial⟩
  refine TS.reg [] ?_ ?_
  · apply prop_of ?_ hq
    kernel_rfl
  refine XS.then ?_
  refine TS.seq ?_
  obtain ⟨y_2, hx1, h⟩ := bind_some' h
  obtain ⟨y_3, hx2, h⟩ := bind_some' h
  have hq : (True) ∧ ((PureC Try.prog 88 [(.str s), (.int .i64 (0 : Int))] (.int .i64 y_2) []) ∧ ((True) ∧ ((PureC Try.prog 88 [(.str s), (.int .i64 (2 : Int))] (.int .i64 y_3) []) ∧ ((True) ∧ ((True) ∧ ((True) ∧ (True))))))) := ⟨trivial, ⟨F88_ok n s (0 : Int) y_2 hx1, ⟨trivial, ⟨F88_ok n s (2 : Int) y_3 hx2, ⟨trivial, ⟨trivial, ⟨trivial, trivial⟩⟩⟩⟩⟩⟩⟩
  refine TS.reg [.none, (.call (.int .i64 y_2) []), .none, (.call (.int .i64 y_3) [])] ?_ ?_
  · apply prop_of ?_ hq
    kernel_rfl
  refine XS.then ?_
  refine TS.ret ?_
  obtain rfl : (IntKind.wrap .i64 (y_2 + (IntKind.wrap .i64 ((65536 : Int) * y_3)))) = r := Option.some.inj h
  exact XS.fin [] ((True) ∧ (True)) (by kernel_rfl) ⟨trivial, trivial⟩

/-! plugtree/plugref.ReadWrap -/
def F33_j2 (n : Nat) (s : List UInt8) : Bool → Option (Int × Int × Bool × Int × (List UInt8) × Int)
  | x => (bif x then (some ((0 : Int), (0 : Int), false, (0 : Int), ([] : List UInt8), (4 : Int))) else (bif subB s.length (some (4 : Int)) none then ((F66 n (s.drop 4)).bind fun y_7 => (bif subB s.length (some (8 : Int)) none then ((F66 n (s.drop 8)).bind fun y_8 => (bif inb (12 : Int) s.length then (bif inb (13 : Int) s.length then (bif subB s.length (some (15 : Int)) (some (IntKind.wrap .i64 ((15 : Int) + (IntKind.wrap .i64 ((((s.getD 14 0).toNat : Nat) : Int)))))) then (some (y_7, y_8, (decide ((((s.getD 12 0).toNat : Nat) : Int) > (0 : Int))), (IntKind.wrap .i64 ((((s.getD 13 0).toNat : Nat) : Int))), ((s.take (IntKind.wrap .i64 ((15 : Int) + (IntKind.wrap .i64 ((((s.getD 14 0).toNat : Nat) : Int))))).toNat).drop 15), (0 : Int))) else none) else none) else none)) else none)) else none))
def F33 (n : Nat) (s : List UInt8) : Option (Int × Int × Bool × Int × (List UInt8) × Int) := (bif (decide (((s.length : Nat) : Int) < (31 : Int))) then (some ((0 : Int), (0 : Int), false, (0 : Int), ([] : List UInt8), (3 : Int))) else (bif inb (14 : Int) s.length then (bif (decide (((s.length : Nat) : Int) > (31 : Int))) then (F33_j2 n s true) else (bif subB s.length none (some (4 : Int)) then (bif (!((s.take 4) == ([85, 83, 66, 67] : List UInt8))) then (F33_j2 n s true) else (bif inb (12 : Int) s.length then (bif ((((s.getD 12 0).toNat : Nat) : Int) != (0 : Int)) then (bif ((((s.getD 12 0).toNat : Nat) : Int) != (128 : Int)) then (F33_j2 n s true) else (bif inb (13 : Int) s.length then (bif (decide ((((s.getD 13 0).toNat : Nat) : Int) > (15 : Int))) then (F33_j2 n s true) else ((F57 n (IntKind.wrap .i64 ((((s.getD 14 0).toNat : Nat) : Int))) (1 : Int) (16 : Int)).bind fun y_9 => (bif (!y_9) then (F33_j2 n s true) else (bif subB s.length (some (IntKind.wrap .i64 ((15 : Int) + (IntKind.wrap .i64 ((((s.getD 14 0).toNat : Nat) : Int)))))) none then ((F39 n ([0] : List UInt8) (IntKind.wrap .i64 ((16 : Int) - (IntKind.wrap .i64 ((((s.getD 14 0).toNat : Nat) : Int)))))).bind fun y_10 => (F33_j2 n s (!((s.drop (IntKind.wrap .i64 ((15 : Int) + (IntKind.wrap .i64 ((((s.getD 14 0).toNat : Nat) : Int))))).toNat) == y_10)))) else none)))) else none)) else (bif inb (13 : Int) s.length then (bif (decide ((((s.getD 13 0).toNat : Nat) : Int) > (15 : Int))) then (F33_j2 n s true) else ((F57 n (IntKind.wrap .i64 ((((s.getD 14 0).toNat : Nat) : Int))) (1 : Int) (16 : Int)).bind fun y_11 => (bif (!y_11) then (F33_j2 n s true) else (bif subB s.length (some (IntKind.wrap .i64 ((15 : Int) + (IntKind.wrap .i64 ((((s.getD 14 0).toNat : Nat) : Int)))))) none then ((F39 n ([0] : List UInt8) (IntKind.wrap .i64 ((16 : Int) - (IntKind.wrap .i64 ((((s.getD 14 0).toNat : Nat) : Int)))))).bind fun y_12 => (F33_j2 n s (!((s.drop (IntKind.wrap .i64 ((15 : Int) + (IntKind.wrap .i64 ((((s.getD 14 0).toNat : Nat) : Int))))).toNat) == y_12)))) else none)))) else none)) else none)) else none)) else none))
theorem F33_ok (n : Nat) (s : List UInt8) (r : Int × Int × Bool × Int × (List UInt8) × Int) (h : F33 n s = some r) : PureC Try.prog 33 [(.str s)] (.tup (.cons (.st (.cons (.int .i64 r.1) (.cons (.int .i64 r.2.1) (.cons (.bool r.2.2.1) (.cons (.int .i64 r.2.2.2.1) (.str r.2.2.2.2.1)))))) (.cons (.int .i64 r.2.2.2.2.2) .nil))) [] := by
  refine PureC.mkS Try.func33 rfl rfl ?_
  intro w0 fz0 hfz
  replace h : (bif (decide (((s.length : Nat) : Int) < (31 : Int))) then (some ((0 : Int), (0 : Int), false, (0 : Int), ([] : List UInt8), (3 : Int))) else (bif inb (14 : Int) s.length then (bif (decide (((s.length : Nat) : Int) > (31 : Int))) then (F33_j2 n s true) else (bif subB s.length none (some (4 : Int)) then (bif (!((s.take 4) == ([85, 83, 66, 67] : List UInt8))) then (F33_j2 n s true) else (bif inb (12 : Int) s.length then (bif ((((s.getD 12 0).toNat : Nat) : Int) != (0 : Int)) then (bif ((((s.getD 12 0).toNat : Nat) : Int) != (128 : Int)) then (F33_j2 n s true) else (bif inb (13 : Int) s.length then (bif (decide ((((s.getD 13 0).toNat : Nat) : Int) > (15 : Int))) then (F33_j2 n s true) else ((F57 n (IntKind.wrap .i64 ((((s.getD 14 0).toNat : Nat) : Int))) (1 : Int) (16 : Int)).bind fun y_9 => (bif (!y_9) then (F33_j2 n s true) else (bif subB s.length (some (IntKind.wrap .i64 ((15 : Int) + (IntKind.wrap .i64 ((((s.getD 14 0).toNat : Nat) : Int)))))) none then ((F39 n ([0] : List UInt8) (IntKind.wrap .i64 ((16 : Int) - (IntKind.wrap .i64 ((((s.getD 14 0).toNat : Nat) : Int)))))).bind fun y_10 => (F33_j2 n s (!((s.drop (IntKind.wrap .i64 ((15 : Int) + (IntKind.wrap .i64 ((((s.getD 14 0).toNat : Nat) : Int))))).toNat) == y_10)))) else none)))) else none)) else (bif inb (13 : Int) s.length then (bif (decide ((((s.getD 13 0).toNat : Nat) : Int) > (15 : Int))) then (F33_j2 n s true) else ((F57 n (IntKind.wrap .i64 ((((s.getD 14 0).toNat : Nat) : Int))) (1 : Int) (16 : Int)).bind fun y_11 => (bif (!y_11) then (F33_j2 n s true) else (bif subB s.length (some (IntKind.wrap .i64 ((15 : Int) + (IntKind.wrap .i64 ((((s.getD 14 0).toNat : Nat) : Int)))))) none then ((F39 n ([0] : List UInt8) (IntKind.wrap .i64 ((16 : Int) - (IntKind.wrap .i64 ((((s.getD 14 0).toNat : Nat) : Int)))))).bind fun y_12 => (F33_j2 n s (!((s.drop (IntKind.wrap .i64 ((15 : Int) + (IntKind.wrap .i64 ((((s.getD 14 0).toNat : Nat) : Int))))).toNat) == y_12)))) else none)))) else none)) else none)) else none)) else none)) = some r := h
  refine TS.seq ?_
  have hq : (True) ∧ ((True) ∧ (True)) := ⟨trivial, ⟨trivial, trivial⟩⟩
  refine TS.reg [] ?_ ?_
  · apply prop_of ?_ hq
    kernel_rfl
  refine XS.then ?_
  refine TS.seq ?_
  refine TS.seq ?_
  have hq : (True) ∧ ((True) ∧ ((True) ∧ (True))) := ⟨trivial, ⟨trivial, ⟨trivial, trivial⟩⟩⟩
  refine TS.reg [] ?_ ?_
  · apply prop_of ?_ hq
    kernel_rfl
  refine XS.then ?_
  rcases bif_some h with ⟨c1, h⟩ | ⟨c2, h⟩
  · refine TS.cond (decide (((s.length : Nat) : Int) < (31 : Int))) ?_ (fun hcz => ?_) (fun hcz => by rw [c1] at hcz; cases hcz)
    · kernel_rfl
    refine TS.seq ?_
    have hq : (True) ∧ ((True) ∧ ((True) ∧ (True))) := ⟨trivial, ⟨trivial, ⟨trivial, trivial⟩⟩⟩
    refine TS.reg [] ?_ ?_
    · apply prop_of ?_ hq
      kernel_rfl
    refine XS.then ?_
    refine TS.ret ?_
    refine XS.passR ?_
    obtain rfl : ((0 : Int), (0 : Int), false, (0 : Int), ([] : List UInt8), (3 : Int)) = r := Option.some.inj h
    exact XS.fin [] ((True) ∧ ((True) ∧ (True))) (by kernel_rfl) ⟨trivial, ⟨trivial, trivial⟩⟩
  · refine TS.cond (decide (((s.length : Nat) : Int) < (31 : Int))) ?_ (fun hcz => by rw [c2] at hcz; cases hcz) (fun hcz => ?_)
    · kernel_rfl
    refine TS.skip ?_
    refine XS.then ?_
    refine TS.seq ?_
    obtain ⟨t3, h⟩ := test_some h
    have hq : (True) ∧ ((inR (14 : Int) s.length) ∧ ((True) ∧ ((True) ∧ (True)))) := ⟨trivial, ⟨inb_ok t3, ⟨trivial, ⟨trivial, trivial⟩⟩⟩⟩
    refine TS.reg [] ?_ ?_
    · apply prop_of ?_ hq
      kernel_rfl
    refine XS.then ?_
    refine TS.seq ?_
    refine TS.seq ?_
    refine TS.cut (D := Bool) (fun d => match d with | x => (mkTs 68 [(0, (.str s)), (2, (.ptr 0 [])), (4, (.int .i64 (IntKind.wrap .i64 ((((s.getD 14 0).toNat : Nat) : Int))))), (49, (.bool x))], [(.box 35 (.st (.cons (.int .i64 (0 : Int)) (.cons (.int .i64 (0 : Int)) (.cons (.bool false) (.cons (.int .i64 (0 : Int)) (.str ([] : List UInt8))))))))])) (fun d => F33_j2 n s d = some r) ?_ ?_
    · rintro x h
      replace h : (bif x then (some ((0 : Int), (0 : Int), false, (0 : Int), ([] : List UInt8), (4 : Int))) else (bif subB s.length (some (4 : Int)) none then ((F66 n (s.drop 4)).bind fun y_7 => (bif subB s.length (some (8 : Int)) none then ((F66 n (s.drop 8)).bind fun y_8 => (bif inb (12 : Int) s.length then (bif inb (13 : Int) s.length then (bif subB s.length (some (15 : Int)) (some (IntKind.wrap .i64 ((15 : Int) + (IntKind.wrap .i64 ((((s.getD 14 0).toNat : Nat) : Int)))))) then (some (y_7, y_8, (decide ((((s.getD 12 0).toNat : Nat) : Int) > (0 : Int))), (IntKind.wrap .i64 ((((s.getD 13 0).toNat : Nat) : Int))), ((s.take (IntKind.wrap .i64 ((15 : Int) + (IntKind.wrap .i64 ((((s.getD 14 0).toNat : Nat) : Int))))).toNat).drop 15), (0 : Int))) else none) else none) else none)) else none)) else none)) = some r := h
      refine XS.then ?_
      rcases bif_some h with ⟨c4, h⟩ | ⟨c5, h⟩
      · refine TS.cond x ?_ (fun hcz => ?_) (fun hcz => by rw [c4] at hcz; cases hcz)
        · kernel_rfl
        refine TS.seq ?_
        have hq : (True) ∧ ((True) ∧ ((True) ∧ (True))) := ⟨trivial, ⟨trivial, ⟨trivial, trivial⟩⟩⟩
        refine TS.reg [] ?_ ?_
        · apply prop_of ?_ hq
          kernel_rfl
        refine XS.then ?_
        refine TS.ret ?_
        refine XS.passR ?_
        obtain rfl : ((0 : Int), (0 : Int), false, (0 : Int), ([] : List UInt8), (4 : Int)) = r := Option.some.inj h
        exact XS.fin [] ((True) ∧ ((True) ∧ (True))) (by kernel_rfl) ⟨trivial, ⟨trivial, trivial⟩⟩
      · refine TS.cond x ?_ (fun hcz => by rw [c5] at hcz; cases hcz) (fun hcz => ?_)
        · kernel_rfl
        refine TS.skip ?_
        refine XS.then ?_
        refine TS.seq ?_
        obtain ⟨t6, h⟩ := test_some h
        obtain ⟨y_7, hx7, h⟩ := bind_some' h
        obtain ⟨t8, h⟩ := test_some h
        obtain ⟨y_8, hx9, h⟩ := bind_some' h
        obtain ⟨t10, h⟩ := test_some h
        obtain ⟨t11, h⟩ := test_some h
        obtain ⟨t12, h⟩ := test_some h
        have hq : ((True) ∧ ((subC s.length (some (4 : Int)) none) ∧ ((PureC Try.prog 66 [(.str (s.drop 4))] (.int .i64 y_7) []) ∧ ((True) ∧ ((subC s.length (some (8 : Int)) none) ∧ ((PureC Try.prog 66 [(.str (s.drop 8))] (.int .i64 y_8) []) ∧ ((True) ∧ ((inR (12 : Int) s.length) ∧ ((True) ∧ ((True) ∧ ((inR (13 : Int) s.length) ∧ ((True) ∧ ((True) ∧ ((True) ∧ ((True) ∧ ((subC s.length (some (15 : Int)) (some (IntKind.wrap .i64 ((15 : Int) + (IntKind.wrap .i64 ((((s.getD 14 0).toNat : Nat) : Int))))))) ∧ (((True) ∧ ((True) ∧ ((True) ∧ ((True) ∧ ((True) ∧ (True)))))) ∧ (True)))))))))))))))))) ∧ ((True) ∧ ((True) ∧ (True))) := ⟨⟨trivial, ⟨subB_ok t6, ⟨F66_ok n (s.drop 4) y_7 hx7, ⟨trivial, ⟨subB_ok t8, ⟨F66_ok n (s.drop 8) y_8 hx9, ⟨trivial, ⟨inb_ok t10, ⟨trivial, ⟨trivial, ⟨inb_ok t11, ⟨trivial, ⟨trivial, ⟨trivial, ⟨trivial, ⟨subB_ok t12, ⟨⟨trivial, ⟨trivial, ⟨trivial, ⟨trivial, ⟨trivial, trivial⟩⟩⟩⟩⟩, trivial⟩⟩⟩⟩⟩⟩⟩⟩⟩⟩⟩⟩⟩⟩⟩⟩⟩, ⟨trivial, ⟨trivial, trivial⟩⟩⟩
        refine TS.draw 17 [] [.none, .none, (.call (.int .i64 y_7) []), .none, .none, (.call (.int .i64 y_8) [])] (by kernel_rfl) ?_ ?_
        · apply prop_of ?_ hq
          kernel_rfl
        refine XS.then ?_
        refine TS.ret ?_
        obtain rfl : (y_7, y_8, (decide ((((s.getD 12 0).toNat : Nat) : Int) > (0 : Int))), (IntKind.wrap .i64 ((((s.getD 13 0).toNat : Nat) : Int))), ((s.take (IntKind.wrap .i64 ((15 : Int) + (IntKind.wrap .i64 ((((s.getD 14 0).toNat : Nat) : Int))))).toNat).drop 15), (0 : Int)) = r := Option.some.inj h
        exact XS.fin [] ((True) ∧ ((True) ∧ (True))) (by kernel_rfl) ⟨trivial, ⟨trivial, trivial⟩⟩
    · rcases bif_some h with ⟨c13, h⟩ | ⟨c14, h⟩
      · have hq : ((True) ∧ ((True) ∧ ((True) ∧ (((True) ∧ (decide (((s.length : Nat) : Int) > (31 : Int))) = true) ∧ ((True) ∧ ((True) ∧ ((True) ∧ ((True) ∧ ((True) ∧ ((True) ∧ ((True) ∧ ((True) ∧ ((True) ∧ (True)))))))))))))) ∧ (True) := ⟨⟨trivial, ⟨trivial, ⟨trivial, ⟨⟨trivial, c13⟩, ⟨trivial, ⟨trivial, ⟨trivial, ⟨trivial, ⟨trivial, ⟨trivial, ⟨trivial, ⟨trivial, ⟨trivial, trivial⟩⟩⟩⟩⟩⟩⟩⟩⟩⟩⟩⟩⟩, trivial⟩
        refine TS.draw 38 [] [.none, .none, .none, .dec true] (by kernel_rfl) ?_ ?_
        · apply prop_of ?_ hq
          kernel_rfl
        refine XS.reAny [0] (mkMask 68 [0, 2, 4, 49]) true h ?_
        kernel_rfl
      · obtain ⟨t15, h⟩ := test_some h
        rcases bif_some h with ⟨c16, h⟩ | ⟨c17, h⟩
        · have hq : ((True) ∧ ((True) ∧ ((True) ∧ (((True) ∧ (decide (((s.length : Nat) : Int) > (31 : Int))) = false) ∧ ((True) ∧ ((subC s.length none (some (4 : Int))) ∧ ((True) ∧ ((True) ∧ (((True) ∧ (!((s.take 4) == ([85, 83, 66, 67] : List UInt8))) = true) ∧ ((True) ∧ ((True) ∧ ((True) ∧ ((True) ∧ ((True) ∧ ((True) ∧ ((True) ∧ (True))))))))))))))))) ∧ (True) := ⟨⟨trivial, ⟨trivial, ⟨trivial, ⟨⟨trivial, c14⟩, ⟨trivial, ⟨subB_ok t15, ⟨trivial, ⟨trivial, ⟨⟨trivial, c16⟩, ⟨trivial, ⟨trivial, ⟨trivial, ⟨trivial, ⟨trivial, ⟨trivial, ⟨trivial, trivial⟩⟩⟩⟩⟩⟩⟩⟩⟩⟩⟩⟩⟩⟩⟩⟩, trivial⟩
          refine TS.draw 38 [] [.none, .none, .none, .dec false, .none, .none, .none, .none, .dec true] (by kernel_rfl) ?_ ?_
          · apply prop_of ?_ hq
            kernel_rfl
          refine XS.reAny [0] (mkMask 68 [0, 2, 4, 49]) true h ?_
          kernel_rfl
        · obtain ⟨t18, h⟩ := test_some h
          rcases bif_some h with ⟨c19, h⟩ | ⟨c20, h⟩
          · rcases bif_some h with ⟨c21, h⟩ | ⟨c22, h⟩
            · have hq : ((True) ∧ ((True) ∧ ((True) ∧ (((True) ∧ (decide (((s.length : Nat) : Int) > (31 : Int))) = false) ∧ ((True) ∧ ((subC s.length none (some (4 : Int))) ∧ ((True) ∧ ((True) ∧ (((True) ∧ (!((s.take 4) == ([85, 83, 66, 67] : List UInt8))) = false) ∧ ((True) ∧ ((inR (12 : Int) s.length) ∧ ((True) ∧ (((True) ∧ ((((s.getD 12 0).toNat : Nat) : Int) != (0 : Int)) = true) ∧ ((True) ∧ ((inR (12 : Int) s.length) ∧ ((True) ∧ ((True) ∧ ((True) ∧ (((True) ∧ ((((s.getD 12 0).toNat : Nat) : Int) != (128 : Int)) = true) ∧ ((True) ∧ ((True) ∧ ((True) ∧ ((True) ∧ ((True) ∧ (True))))))))))))))))))))))))) ∧ (True) := ⟨⟨trivial, ⟨trivial, ⟨trivial, ⟨⟨trivial, c14⟩, ⟨trivial, ⟨subB_ok t15, ⟨trivial, ⟨trivial, ⟨⟨trivial, c17⟩, ⟨trivial, ⟨inb_ok t18, ⟨trivial, ⟨⟨trivial, c19⟩, ⟨trivial, ⟨inb_ok t18, ⟨trivial, ⟨trivial, ⟨trivial, ⟨⟨trivial, c21⟩, ⟨trivial, ⟨trivial, ⟨trivial, ⟨trivial, ⟨trivial, trivial⟩⟩⟩⟩⟩⟩⟩⟩⟩⟩⟩⟩⟩⟩⟩⟩⟩⟩⟩⟩⟩⟩⟩⟩, trivial⟩
              refine TS.draw 38 [] [.none, .none, .none, .dec false, .none, .none, .none, .none, .dec false, .none, .none, .none, .dec true, .none, .none, .none, .none, .none, .dec true] (by kernel_rfl) ?_ ?_
              · apply prop_of ?_ hq
                kernel_rfl
              refine XS.reAny [0] (mkMask 68 [0, 2, 4, 49]) true h ?_
              kernel_rfl
            · obtain ⟨t23, h⟩ := test_some h
              rcases bif_some h with ⟨c24, h⟩ | ⟨c25, h⟩
              · have hq : ((True) ∧ ((True) ∧ ((True) ∧ (((True) ∧ (decide (((s.length : Nat) : Int) > (31 : Int))) = false) ∧ ((True) ∧ ((subC s.length none (some (4 : Int))) ∧ ((True) ∧ ((True) ∧ (((True) ∧ (!((s.take 4) == ([85, 83, 66, 67] : List UInt8))) = false) ∧ ((True) ∧ ((inR (12 : Int) s.length) ∧ ((True) ∧ (((True) ∧ ((((s.getD 12 0).toNat : Nat) : Int) != (0 : Int)) = true) ∧ ((True) ∧ ((inR (12 : Int) s.length) ∧ ((True) ∧ ((True) ∧ ((True) ∧ (((True) ∧ ((((s.getD 12 0).toNat : Nat) : Int) != (128 : Int)) = false) ∧ ((True) ∧ ((inR (13 : Int) s.length) ∧ ((True) ∧ ((True) ∧ (((True) ∧ (decide ((((s.getD 13 0).toNat : Nat) : Int) > (15 : Int))) = true) ∧ ((True) ∧ ((True) ∧ ((True) ∧ (True)))))))))))))))))))))))))))) ∧ (True) := ⟨⟨trivial, ⟨trivial, ⟨trivial, ⟨⟨trivial, c14⟩, ⟨trivial, ⟨subB_ok t15, ⟨trivial, ⟨trivial, ⟨⟨trivial, c17⟩, ⟨trivial, ⟨inb_ok t18, ⟨trivial, ⟨⟨trivial, c19⟩, ⟨trivial, ⟨inb_ok t18, ⟨trivial, ⟨trivial, ⟨trivial, ⟨⟨trivial, c22⟩, ⟨trivial, ⟨inb_ok t23, ⟨trivial, ⟨trivial, ⟨⟨trivial, c24⟩, ⟨trivial, ⟨trivial, ⟨trivial, trivial⟩⟩⟩⟩⟩⟩⟩⟩⟩⟩⟩⟩⟩⟩⟩⟩⟩⟩⟩⟩⟩⟩⟩⟩⟩⟩⟩, trivial⟩
                refine TS.draw 38 [] [.none, .none, .none, .dec false, .none, .none, .none, .none, .dec false, .none, .none, .none, .dec true, .none, .none, .none, .none, .none, .dec false, .none, .none, .none, .none, .dec true] (by kernel_rfl) ?_ ?_
                · apply prop_of ?_ hq
                  kernel_rfl
                refine XS.reAny [0] (mkMask 68 [0, 2, 4, 49]) true h ?_
                kernel_rfl
              · obtain ⟨y_9, hx26, h⟩ := bind_some' h
                rcases bif_some h with ⟨c27, h⟩ | ⟨c28, h⟩
                · have hq : ((True) ∧ ((True) ∧ ((True) ∧ (((True) ∧ (decide (((s.length : Nat) : Int) > (31 : Int))) = false) ∧ ((True) ∧ ((subC s.length none (some (4 : Int))) ∧ ((True) ∧ ((True) ∧ (((True) ∧ (!((s.take 4) == ([85, 83, 66, 67] : List UInt8))) = false) ∧ ((True) ∧ ((inR (12 : Int) s.length) ∧ ((True) ∧ (((True) ∧ ((((s.getD 12 0).toNat : Nat) : Int) != (0 : Int)) = true) ∧ ((True) ∧ ((inR (12 : Int) s.length) ∧ ((True) ∧ ((True) ∧ ((True) ∧ (((True) ∧ ((((s.getD 12 0).toNat : Nat) : Int) != (128 : Int)) = false) ∧ ((True) ∧ ((inR (13 : Int) s.length) ∧ ((True) ∧ ((True) ∧ (((True) ∧ (decide ((((s.getD 13 0).toNat : Nat) : Int) > (15 : Int))) = false) ∧ ((True) ∧ ((PureC Try.prog 57 [(.int .i64 (IntKind.wrap .i64 ((((s.getD 14 0).toNat : Nat) : Int)))), (.int .i64 (1 : Int)), (.int .i64 (16 : Int))] (.bool y_9) []) ∧ ((True) ∧ ((True) ∧ (((True) ∧ (!y_9) = true) ∧ ((True) ∧ (True))))))))))))))))))))))))))))))) ∧ (True) := ⟨⟨trivial, ⟨trivial, ⟨trivial, ⟨⟨trivial, c14⟩, ⟨trivial, ⟨subB_ok t15, ⟨trivial, ⟨trivial, ⟨⟨trivial, c17⟩, ⟨trivial, ⟨inb_ok t18, ⟨trivial, ⟨⟨trivial, c19⟩, ⟨trivial, ⟨inb_ok t18, ⟨trivial, ⟨trivial, ⟨trivial, ⟨⟨trivial, c22⟩, ⟨trivial, ⟨inb_ok t23, ⟨trivial, ⟨trivial, ⟨⟨trivial, c25⟩, ⟨trivial, ⟨F57_ok n (IntKind.wrap .i64 ((((s.getD 14 0).toNat : Nat) : Int))) (1 : Int) (16 : Int) y_9 hx26, ⟨trivial, ⟨trivial, ⟨⟨trivial, c27⟩, ⟨trivial, trivial⟩⟩⟩⟩⟩⟩⟩⟩⟩⟩⟩⟩⟩⟩⟩⟩⟩⟩⟩⟩⟩⟩⟩⟩⟩⟩⟩⟩⟩⟩, trivial⟩
                  refine TS.draw 38 [] [.none, .none, .none, .dec false, .none, .none, .none, .none, .dec false, .none, .none, .none, .dec true, .none, .none, .none, .none, .none, .dec false, .none, .none, .none, .none, .dec false, .none, (.call (.bool y_9) []), .none, .none, .dec true] (by kernel_rfl) ?_ ?_
                  · apply prop_of ?_ hq
                    kernel_rfl
                  refine XS.reAny [0] (mkMask 68 [0, 2, 4, 49]) true h ?_
                  kernel_rfl
                · obtain ⟨t29, h⟩ := test_some h
                  obtain ⟨y_10, hx30, h⟩ := bind_some' h
                  have hq : ((True) ∧ ((True) ∧ ((True) ∧ (((True) ∧ (decide (((s.length : Nat) : Int) > (31 : Int))) = false) ∧ ((True) ∧ ((subC s.length none (some (4 : Int))) ∧ ((True) ∧ ((True) ∧ (((True) ∧ (!((s.take 4) == ([85, 83, 66, 67] : List UInt8))) = false) ∧ ((True) ∧ ((inR (12 : Int) s.length) ∧ ((True) ∧ (((True) ∧ ((((s.getD 12 0).toNat : Nat) : Int) != (0 : Int)) = true) ∧ ((True) ∧ ((inR (12 : Int) s.length) ∧ ((True) ∧ ((True) ∧ ((True) ∧ (((True) ∧ ((((s.getD 12 0).toNat : Nat) : Int) != (128 : Int)) = false) ∧ ((True) ∧ ((inR (13 : Int) s.length) ∧ ((True) ∧ ((True) ∧ (((True) ∧ (decide ((((s.getD 13 0).toNat : Nat) : Int) > (15 : Int))) = false) ∧ ((True) ∧ ((PureC Try.prog 57 [(.int .i64 (IntKind.wrap .i64 ((((s.getD 14 0).toNat : Nat) : Int)))), (.int .i64 (1 : Int)), (.int .i64 (16 : Int))] (.bool y_9) []) ∧ ((True) ∧ ((True) ∧ (((True) ∧ (!y_9) = false) ∧ ((True) ∧ ((True) ∧ ((True) ∧ ((subC s.length (some (IntKind.wrap .i64 ((15 : Int) + (IntKind.wrap .i64 ((((s.getD 14 0).toNat : Nat) : Int)))))) none) ∧ ((True) ∧ ((True) ∧ ((PureC Try.prog 39 [(.str ([0] : List UInt8)), (.int .i64 (IntKind.wrap .i64 ((16 : Int) - (IntKind.wrap .i64 ((((s.getD 14 0).toNat : Nat) : Int))))))] (.str y_10) []) ∧ ((True) ∧ ((True) ∧ (True))))))))))))))))))))))))))))))))))))))) ∧ (True) := ⟨⟨trivial, ⟨trivial, ⟨trivial, ⟨⟨trivial, c14⟩, ⟨trivial, ⟨subB_ok t15, ⟨trivial, ⟨trivial, ⟨⟨trivial, c17⟩, ⟨trivial, ⟨inb_ok t18, ⟨trivial, ⟨⟨trivial, c19⟩, ⟨trivial, ⟨inb_ok t18, ⟨trivial, ⟨trivial, ⟨trivial, ⟨⟨trivial, c22⟩, ⟨trivial, ⟨inb_ok t23, ⟨trivial, ⟨trivial, ⟨⟨trivial, c25⟩, ⟨trivial, ⟨F57_ok n (IntKind.wrap .i64 ((((s.getD 14 0).toNat : Nat) : Int))) (1 : Int) (16 : Int) y_9 hx26, ⟨trivial, ⟨trivial, ⟨⟨trivial, c28⟩, ⟨trivial, ⟨trivial, ⟨trivial, ⟨subB_ok t29, ⟨trivial, ⟨trivial, ⟨F39_ok n ([0] : List UInt8) (IntKind.wrap .i64 ((16 : Int) - (IntKind.wrap .i64 ((((s.getD 14 0).toNat : Nat) : Int))))) y_10 hx30, ⟨trivial, ⟨trivial, trivial⟩⟩⟩⟩⟩⟩⟩⟩⟩⟩⟩⟩⟩⟩⟩⟩⟩⟩⟩⟩⟩⟩⟩⟩⟩⟩⟩⟩⟩⟩⟩⟩⟩⟩⟩⟩⟩⟩, trivial⟩
                  refine TS.draw 38 [] [.none, .none, .none, .dec false, .none, .none, .none, .none, .dec false, .none, .none, .none, .dec true, .none, .none, .none, .none, .none, .dec false, .none, .none, .none, .none, .dec false, .none, (.call (.bool y_9) []), .none, .none, .dec false, .none, .none, .none, .none, .none, .none, (.call (.str y_10) [])] (by kernel_rfl) ?_ ?_
                  · apply prop_of ?_ hq
                    kernel_rfl
                  refine XS.reAny [0] (mkMask 68 [0, 2, 4, 49]) (!((s.drop (IntKind.wrap .i64 ((15 : Int) + (IntKind.wrap .i64 ((((s.getD 14 0).toNat : Nat) : Int))))).toNat) == y_10)) h ?_
                  kernel_rfl
          · obtain ⟨t31, h⟩ := test_some h
            rcases bif_some h with ⟨c32, h⟩ | ⟨c33, h⟩
            · have hq : ((True) ∧ ((True) ∧ ((True) ∧ (((True) ∧ (decide (((s.length : Nat) : Int) > (31 : Int))) = false) ∧ ((True) ∧ ((subC s.length none (some (4 : Int))) ∧ ((True) ∧ ((True) ∧ (((True) ∧ (!((s.take 4) == ([85, 83, 66, 67] : List UInt8))) = false) ∧ ((True) ∧ ((inR (12 : Int) s.length) ∧ ((True) ∧ (((True) ∧ ((((s.getD 12 0).toNat : Nat) : Int) != (0 : Int)) = false) ∧ ((True) ∧ ((True) ∧ ((True) ∧ ((True) ∧ ((inR (13 : Int) s.length) ∧ ((True) ∧ ((True) ∧ (((True) ∧ (decide ((((s.getD 13 0).toNat : Nat) : Int) > (15 : Int))) = true) ∧ ((True) ∧ ((True) ∧ ((True) ∧ (True))))))))))))))))))))))))) ∧ (True) := ⟨⟨trivial, ⟨trivial, ⟨trivial, ⟨⟨trivial, c14⟩, ⟨trivial, ⟨subB_ok t15, ⟨trivial, ⟨trivial, ⟨⟨trivial, c17⟩, ⟨trivial, ⟨inb_ok t18, ⟨trivial, ⟨⟨trivial, c20⟩, ⟨trivial, ⟨trivial, ⟨trivial, ⟨trivial, ⟨inb_ok t31, ⟨trivial, ⟨trivial, ⟨⟨trivial, c32⟩, ⟨trivial, ⟨trivial, ⟨trivial, trivial⟩⟩⟩⟩⟩⟩⟩⟩⟩⟩⟩⟩⟩⟩⟩⟩⟩⟩⟩⟩⟩⟩⟩⟩, trivial⟩
              refine TS.draw 38 [] [.none, .none, .none, .dec false, .none, .none, .none, .none, .dec false, .none, .none, .none, .dec false, .none, .none, .none, .none, .none, .none, .none, .none, .none, .none, .dec true] (by kernel_rfl) ?_ ?_
              · apply prop_of ?_ hq
                kernel_rfl
              refine XS.reAny [0] (mkMask 68 [0, 2, 4, 49]) true h ?_
              kernel_rfl
            · obtain ⟨y_11, hx34, h⟩ := bind_some' h
              rcases bif_some h with ⟨c35, h⟩ | ⟨c36, h⟩
              · have hq : ((True) ∧ ((True) ∧ ((True) ∧ (((True) ∧ (decide (((s.length : Nat) : Int) > (31 : Int))) = false) ∧ ((True) ∧ ((subC s.length none (some (4 : Int))) ∧ ((True) ∧ ((True) ∧ (((True) ∧ (!((s.take 4) == ([85, 83, 66, 67] : List UInt8))) = false) ∧ ((True) ∧ ((inR (12 : Int) s.length) ∧ ((True) ∧ (((True) ∧ ((((s.getD 12 0).toNat : Nat) : Int) != (0 : Int)) = false) ∧ ((True) ∧ ((True) ∧ ((True) ∧ ((True) ∧ ((inR (13 : Int) s.length) ∧ ((True) ∧ ((True) ∧ (((True) ∧ (decide ((((s.getD 13 0).toNat : Nat) : Int) > (15 : Int))) = false) ∧ ((True) ∧ ((PureC Try.prog 57 [(.int .i64 (IntKind.wrap .i64 ((((s.getD 14 0).toNat : Nat) : Int)))), (.int .i64 (1 : Int)), (.int .i64 (16 : Int))] (.bool y_11) []) ∧ ((True) ∧ ((True) ∧ (((True) ∧ (!y_11) = true) ∧ ((True) ∧ (True)))))))))))))))))))))))))))) ∧ (True) := ⟨⟨trivial, ⟨trivial, ⟨trivial, ⟨⟨trivial, c14⟩, ⟨trivial, ⟨subB_ok t15, ⟨trivial, ⟨trivial, ⟨⟨trivial, c17⟩, ⟨trivial, ⟨inb_ok t18, ⟨trivial, ⟨⟨trivial, c20⟩, ⟨trivial, ⟨trivial, ⟨trivial, ⟨trivial, ⟨inb_ok t31, ⟨trivial, ⟨trivial, ⟨⟨trivial, c33⟩, ⟨trivial, ⟨F57_ok n (IntKind.wrap .i64 ((((s.getD 14 0).toNat : Nat) : Int))) (1 : Int) (16 : Int) y_11 hx34, ⟨trivial, ⟨trivial, ⟨⟨trivial, c35⟩, ⟨trivial, trivial⟩⟩⟩⟩⟩⟩⟩⟩⟩⟩⟩⟩⟩⟩⟩⟩⟩⟩⟩⟩⟩⟩⟩⟩⟩⟩⟩, trivial⟩
                refine TS.draw 38 [] [.none, .none, .none, .dec false, .none, .none, .none, .none, .dec false, .none, .none, .none, .dec false, .none, .none, .none, .none, .none, .none, .none, .none, .none, .none, .dec false, .none, (.call (.bool y_11) []), .none, .none, .dec true] (by kernel_rfl) ?_ ?_
                · apply prop_of ?_ hq
                  kernel_rfl
                refine XS.reAny [0] (mkMask 68 [0, 2, 4, 49]) true h ?_
                kernel_rfl
              · obtain ⟨t37, h⟩ := test_some h
                obtain ⟨y_12, hx38, h⟩ := bind_some' h
                have hq : ((True) ∧ ((True) ∧ ((True) ∧ (((True) ∧ (decide (((s.length : Nat) : Int) > (31 : Int))) = false) ∧ ((True) ∧ ((subC s.length none (some (4 : Int))) ∧ ((True) ∧ ((True) ∧ (((True) ∧ (!((s.take 4) == ([85, 83, 66, 67] : List UInt8))) = false) ∧ ((True) ∧ ((inR (12 : Int) s.length) ∧ ((True) ∧ (((True) ∧ ((((s.getD 12 0).toNat : Nat) : Int) != (0 : Int)) = false) ∧ ((True) ∧ ((True) ∧ ((True) ∧ ((True) ∧ ((inR (13 : Int) s.length) ∧ ((True) ∧ ((True) ∧ (((True) ∧ (decide ((((s.getD 13 0).toNat : Nat) : Int) > (15 : Int))) = false) ∧ ((True) ∧ ((PureC Try.prog 57 [(.int .i64 (IntKind.wrap .i64 ((((s.getD 14 0).toNat : Nat) : Int)))), (.int .i64 (1 : Int)), (.int .i64 (16 : Int))] (.bool y_11) []) ∧ ((True) ∧ ((True) ∧ (((True) ∧ (!y_11) = false) ∧ ((True) ∧ ((True) ∧ ((True) ∧ ((subC s.length (some (IntKind.wrap .i64 ((15 : Int) + (IntKind.wrap .i64 ((((s.getD 14 0).toNat : Nat) : Int)))))) none) ∧ ((True) ∧ ((True) ∧ ((PureC Try.prog 39 [(.str ([0] : List UInt8)), (.int .i64 (IntKind.wrap .i64 ((16 : Int) - (IntKind.wrap .i64 ((((s.getD 14 0).toNat : Nat) : Int))))))] (.str y_12) []) ∧ ((True) ∧ ((True) ∧ (True)))))))))))))))))))))))))))))))))))) ∧ (True) := ⟨⟨trivial, ⟨trivial, ⟨trivial, ⟨⟨trivial, c14⟩, ⟨trivial, ⟨subB_ok t15, ⟨trivial, ⟨trivial, ⟨⟨trivial, c17⟩, ⟨trivial, ⟨inb_ok t18, ⟨trivial, ⟨⟨trivial, c20⟩, ⟨trivial, ⟨trivial, ⟨trivial, ⟨trivial, ⟨inb_ok t31, ⟨trivial, ⟨trivial, ⟨⟨trivial, c33⟩, ⟨trivial, ⟨F57_ok n (IntKind.wrap .i64 ((((s.getD 14 0).toNat : Nat) : Int))) (1 : Int) (16 : Int) y_11 hx34, ⟨trivial, ⟨trivial, ⟨⟨trivial, c36⟩, ⟨trivial, ⟨trivial, ⟨trivial, ⟨subB_ok t37, ⟨trivial, ⟨trivial, ⟨F39_ok n ([0] : List UInt8) (IntKind.wrap .i64 ((16 : Int) - (IntKind.wrap .i64 ((((s.getD 14 0).toNat : Nat) : Int))))) y_12 hx38, ⟨trivial, ⟨trivial, trivial⟩⟩⟩⟩⟩⟩⟩⟩⟩⟩⟩⟩⟩⟩⟩⟩⟩⟩⟩⟩⟩⟩⟩⟩⟩⟩⟩⟩⟩⟩⟩⟩⟩⟩⟩, trivial⟩
                refine TS.draw 38 [] [.none, .none, .none, .dec false, .none, .none, .none, .none, .dec false, .none, .none, .none, .dec false, .none, .none, .none, .none, .none, .none, .none, .none, .none, .none, .dec false, .none, (.call (.bool y_11) []), .none, .none, .dec false, .none, .none, .none, .none, .none, .none, (.call (.str y_12) [])] (by kernel_rfl) ?_ ?_
                · apply prop_of ?_ hq
                  kernel_rfl
                refine XS.reAny [0] (mkMask 68 [0, 2, 4, 49]) (!((s.drop (IntKind.wrap .i64 ((15 : Int) + (IntKind.wrap .i64 ((((s.getD 14 0).toNat : Nat) : Int))))).toNat) == y_12)) h ?_
                kernel_rfl

/-! plugtree/plugref.mask -/
def F58_j2 (n : Nat) (first : Int) : Bool → Option (List UInt8)
  | x => (bif x then (some ([48, 48, 48, 48, 110, 48] : List UInt8)) else (bif (first == (26 : Int)) then (some ([48, 48, 110, 48, 110, 48] : List UInt8)) else (bif (first == (37 : Int)) then (some ([48, 48, 48, 48, 48, 48, 48, 48, 48, 48] : List UInt8)) else (bif (first == (40 : Int)) then (some ([48, 48, 110, 110, 110, 110, 48, 110, 110, 48] : List UInt8)) else (bif (first == (42 : Int)) then (some ([48, 48, 110, 110, 110, 110, 48, 110, 110, 48] : List UInt8)) else (bif (first == (53 : Int)) then (some ([48, 48, 110, 110, 110, 110, 48, 110, 110, 48] : List UInt8)) else (some ([] : List UInt8))))))))
def F58 (n : Nat) (first : Int) : Option (List UInt8) := (bif (first == (0 : Int)) then (some ([48, 48, 48, 48, 48, 48] : List UInt8)) else (bif (first == (3 : Int)) then (F58_j2 n first (first == (3 : Int))) else (F58_j2 n first (first == (18 : Int)))))
theorem F58_ok (n : Nat) (first : Int) (r : List UInt8) (h : F58 n first = some r) : PureC Try.prog 58 [(.int .u8 first)] (.str r) [] := by
  refine PureC.mkS Try.func58 rfl rfl ?_
  intro w0 fz0 hfz
  replace h : (bif (first == (0 : Int)) then (some ([48, 48, 48, 48, 48, 48] : List UInt8)) else (bif (first == (3 : Int)) then (F58_j2 n first (first == (3 : Int))) else (F58_j2 n first (first == (18 : Int))))) = some r := h
  refine TS.seq ?_
  have hq : (True) ∧ (True) := ⟨trivial, trivial⟩
  refine TS.reg [] ?_ ?_
  · apply prop_of ?_ hq
    kernel_rfl
  refine XS.then ?_
  refine TS.seq ?_
  refine TS.seq ?_
  have hq : (True) ∧ (True) := ⟨trivial, trivial⟩
  refine TS.reg [] ?_ ?_
  · apply prop_of ?_ hq
    kernel_rfl
  refine XS.then ?_
  refine TS.block ?_
  refine TS.seq ?_
  have hq : (True) ∧ ((True) ∧ (True)) := ⟨trivial, ⟨trivial, trivial⟩⟩
  refine TS.reg [] ?_ ?_
  · apply prop_of ?_ hq
    kernel_rfl
  refine XS.then ?_
  rcases bif_some h with ⟨c1, h⟩ | ⟨c2, h⟩
  · refine TS.cond (first == (0 : Int)) ?_ (fun hcz => ?_) (fun hcz => by rw [c1] at hcz; cases hcz)
    · kernel_rfl
    refine TS.seq ?_
    have hq : (True) ∧ (True) := ⟨trivial, trivial⟩
    refine TS.reg [] ?_ ?_
    · apply prop_of ?_ hq
      kernel_rfl
    refine XS.then ?_
    refine TS.ret ?_
    refine XS.blockRet ?_
    refine XS.passR ?_
    obtain rfl : ([48, 48, 48, 48, 48, 48] : List UInt8) = r := Option.some.inj h
    exact XS.fin [] ((True) ∧ (True)) (by kernel_rfl) ⟨trivial, trivial⟩
  · refine TS.cond (first == (0 : Int)) ?_ (fun hcz => by rw [c2] at hcz; cases hcz) (fun hcz => ?_)
    · kernel_rfl
    refine TS.seq ?_
    refine TS.seq ?_
    have hq : (True) ∧ ((True) ∧ (True)) := ⟨trivial, ⟨trivial, trivial⟩⟩
    refine TS.reg [] ?_ ?_
    · apply prop_of ?_ hq
      kernel_rfl
    refine XS.then ?_
    refine TS.cut (D := Bool) (fun d => match d with | x => (mkTs 17 [(3, (.int .u8 first)), (6, (.bool x))], [])) (fun d => F58_j2 n first d = some r) ?_ ?_
    · rintro x h
      replace h : (bif x then (some ([48, 48, 48, 48, 110, 48] : List UInt8)) else (bif (first == (26 : Int)) then (some ([48, 48, 110, 48, 110, 48] : List UInt8)) else (bif (first == (37 : Int)) then (some ([48, 48, 48, 48, 48, 48, 48, 48, 48, 48] : List UInt8)) else (bif (first == (40 : Int)) then (some ([48, 48, 110, 110, 110, 110, 48, 110, 110, 48] : List UInt8)) else (bif (first == (42 : Int)) then (some ([48, 48, 110, 110, 110, 110, 48, 110, 110, 48] : List UInt8)) else (bif (first == (53 : Int)) then (some ([48, 48, 110, 110, 110, 110, 48, 110, 110, 48] : List UInt8)) else (some ([] : List UInt8)))))))) = some r := h
      refine XS.then ?_
      rcases bif_some h with ⟨c3, h⟩ | ⟨c4, h⟩
      · refine TS.cond x ?_ (fun hcz => ?_) (fun hcz => by rw [c3] at hcz; cases hcz)
        · kernel_rfl
        refine TS.seq ?_
        have hq : (True) ∧ (True) := ⟨trivial, trivial⟩
        refine TS.reg [] ?_ ?_
        · apply prop_of ?_ hq
          kernel_rfl
        refine XS.then ?_
        refine TS.ret ?_
        refine XS.blockRet ?_
        refine XS.passR ?_
        obtain rfl : ([48, 48, 48, 48, 110, 48] : List UInt8) = r := Option.some.inj h
        exact XS.fin [] ((True) ∧ (True)) (by kernel_rfl) ⟨trivial, trivial⟩
      · refine TS.cond x ?_ (fun hcz => by rw [c4] at hcz; cases hcz) (fun hcz => ?_)
        · kernel_rfl
        refine TS.seq ?_
        have hq : (True) ∧ ((True) ∧ (True)) := ⟨trivial, ⟨trivial, trivial⟩⟩
        refine TS.reg [] ?_ ?_
        · apply prop_of ?_ hq
          kernel_rfl
        refine XS.then ?_
        rcases bif_some h with ⟨c5, h⟩ | ⟨c6, h⟩
        · refine TS.cond (first == (26 : Int)) ?_ (fun hcz => ?_) (fun hcz => by rw [c5] at hcz; cases hcz)
          · kernel_rfl
          refine TS.seq ?_
          have hq : (True) ∧ (True) := ⟨trivial, trivial⟩
          refine TS.reg [] ?_ ?_
          · apply prop_of ?_ hq
            kernel_rfl
          refine XS.then ?_
          refine TS.ret ?_
          refine XS.blockRet ?_
          refine XS.passR ?_
          obtain rfl : ([48, 48, 110, 48, 110, 48] : List UInt8) = r := Option.some.inj h
          exact XS.fin [] ((True) ∧ (True)) (by kernel_rfl) ⟨trivial, trivial⟩
        · refine TS.cond (first == (26 : Int)) ?_ (fun hcz => by rw [c6] at hcz; cases hcz) (fun hcz => ?_)
          · kernel_rfl
          refine TS.seq ?_
          have hq : (True) ∧ ((True) ∧ (True)) := ⟨trivial, ⟨trivial, trivial⟩⟩
          refine TS.reg [] ?_ ?_
          · apply prop_of ?_ hq
            kernel_rfl
          refine XS.then ?_
          rcases bif_some h with ⟨c7, h⟩ | ⟨c8, h⟩
          · refine TS.cond (first == (37 : Int)) ?_ (fun hcz => ?_) (fun hcz => by rw [c7] at hcz; cases hcz)
            · kernel_rfl
            refine TS.seq ?_
            have hq : (True) ∧ (True) := ⟨trivial, trivial⟩
            refine TS.reg [] ?_ ?_
            · apply prop_of ?_ hq
              kernel_rfl
            refine XS.then ?_
            refine TS.ret ?_
            refine XS.blockRet ?_
            refine XS.passR ?_
            obtain rfl : ([48, 48, 48, 48, 48, 48, 48, 48, 48, 48] : List UInt8) = r := Option.some.inj h
            exact XS.fin [] ((True) ∧ (True)) (by kernel_rfl) ⟨trivial, trivial⟩
          · refine TS.cond (first == (37 : Int)) ?_ (fun hcz => by rw [c8] at hcz; cases hcz) (fun hcz => ?_)
            · kernel_rfl
            refine TS.seq ?_
            refine TS.seq ?_
            have hq : (True) ∧ ((True) ∧ (True)) := ⟨trivial, ⟨trivial, trivial⟩⟩
            refine TS.reg [] ?_ ?_
            · apply prop_of ?_ hq
              kernel_rfl
            refine XS.then ?_
            rcases bif_some h with ⟨c9, h⟩ | ⟨c10, h⟩
            · refine TS.cond (first == (40 : Int)) ?_ (fun hcz => ?_) (fun hcz => by rw [c9] at hcz; cases hcz)
              · kernel_rfl
              refine TS.skip ?_
              refine XS.then ?_
              refine TS.cond (first == (40 : Int)) ?_ (fun hcz => ?_) (fun hcz => by rw [c9] at hcz; cases hcz)
              · kernel_rfl
              refine TS.seq ?_
              have hq : (True) ∧ (True) := ⟨trivial, trivial⟩
              refine TS.reg [] ?_ ?_
              · apply prop_of ?_ hq
                kernel_rfl
              refine XS.then ?_
              refine TS.ret ?_
              refine XS.blockRet ?_
              refine XS.passR ?_
              obtain rfl : ([48, 48, 110, 110, 110, 110, 48, 110, 110, 48] : List UInt8) = r := Option.some.inj h
              exact XS.fin [] ((True) ∧ (True)) (by kernel_rfl) ⟨trivial, trivial⟩
            · refine TS.cond (first == (40 : Int)) ?_ (fun hcz => by rw [c10] at hcz; cases hcz) (fun hcz => ?_)
              · kernel_rfl
              refine TS.seq ?_
              have hq : (True) ∧ ((True) ∧ (True)) := ⟨trivial, ⟨trivial, trivial⟩⟩
              refine TS.reg [] ?_ ?_
              · apply prop_of ?_ hq
                kernel_rfl
              refine XS.then ?_
              rcases bif_some h with ⟨c11, h⟩ | ⟨c12, h⟩
              · refine TS.cond (first == (42 : Int)) ?_ (fun hcz => ?_) (fun hcz => by rw [c11] at hcz; cases hcz)
                · kernel_rfl
                refine TS.skip ?_
                refine XS.then ?_
                refine TS.cond (first == (42 : Int)) ?_ (fun hcz => ?_) (fun hcz => by rw [c11] at hcz; cases hcz)
                · kernel_rfl
                refine TS.seq ?_
                have hq : (True) ∧ (True) := ⟨trivial, trivial⟩
                refine TS.reg [] ?_ ?_
                · apply prop_of ?_ hq
                  kernel_rfl
                refine XS.then ?_
                refine TS.ret ?_
                refine XS.blockRet ?_
                refine XS.passR ?_
                obtain rfl : ([48, 48, 110, 110, 110, 110, 48, 110, 110, 48] : List UInt8) = r := Option.some.inj h
                exact XS.fin [] ((True) ∧ (True)) (by kernel_rfl) ⟨trivial, trivial⟩
              · refine TS.cond (first == (42 : Int)) ?_ (fun hcz => by rw [c12] at hcz; cases hcz) (fun hcz => ?_)
                · kernel_rfl
                have hq : (True) ∧ ((True) ∧ (True)) := ⟨trivial, ⟨trivial, trivial⟩⟩
                refine TS.reg [] ?_ ?_
                · apply prop_of ?_ hq
                  kernel_rfl
                refine XS.then ?_
                rcases bif_some h with ⟨c13, h⟩ | ⟨c14, h⟩
                · refine TS.cond (first == (53 : Int)) ?_ (fun hcz => ?_) (fun hcz => by rw [c13] at hcz; cases hcz)
                  · kernel_rfl
                  refine TS.seq ?_
                  have hq : (True) ∧ (True) := ⟨trivial, trivial⟩
                  refine TS.reg [] ?_ ?_
                  · apply prop_of ?_ hq
                    kernel_rfl
                  refine XS.then ?_
                  refine TS.ret ?_
                  refine XS.blockRet ?_
                  refine XS.passR ?_
                  obtain rfl : ([48, 48, 110, 110, 110, 110, 48, 110, 110, 48] : List UInt8) = r := Option.some.inj h
                  exact XS.fin [] ((True) ∧ (True)) (by kernel_rfl) ⟨trivial, trivial⟩
                · refine TS.cond (first == (53 : Int)) ?_ (fun hcz => by rw [c14] at hcz; cases hcz) (fun hcz => ?_)
                  · kernel_rfl
                  refine TS.skip ?_
                  refine XS.blockEnd ?_
                  refine XS.then ?_
                  refine TS.seq ?_
                  have hq : (True) ∧ (True) := ⟨trivial, trivial⟩
                  refine TS.reg [] ?_ ?_
                  · apply prop_of ?_ hq
                    kernel_rfl
                  refine XS.then ?_
                  refine TS.ret ?_
                  obtain rfl : ([] : List UInt8) = r := Option.some.inj h
                  exact XS.fin [] ((True) ∧ (True)) (by kernel_rfl) ⟨trivial, trivial⟩
    · rcases bif_some h with ⟨c15, h⟩ | ⟨c16, h⟩
      · refine TS.cond (first == (3 : Int)) ?_ (fun hcz => ?_) (fun hcz => by rw [c15] at hcz; cases hcz)
        · kernel_rfl
        refine TS.skip ?_
        refine XS.reAny [] (mkMask 17 [3, 6]) (first == (3 : Int)) h ?_
        kernel_rfl
      · refine TS.cond (first == (3 : Int)) ?_ (fun hcz => by rw [c16] at hcz; cases hcz) (fun hcz => ?_)
        · kernel_rfl
        have hq : (True) ∧ ((True) ∧ (True)) := ⟨trivial, ⟨trivial, trivial⟩⟩
        refine TS.reg [] ?_ ?_
        · apply prop_of ?_ hq
          kernel_rfl
        refine XS.reAny [] (mkMask 17 [3, 6]) (first == (18 : Int)) h ?_
        kernel_rfl

/-! plugtree/plugref.Sensed -/
def F25_l13 (n : Nat) (d_Blocks : List (List UInt8)) (c : List UInt8) (data : List UInt8) (k25_13 : (Int × Int) → Option (Int × Int × Int)) : (Int × Int) → Option (Int × Int × Int)
  | (lba, x) => (bif (decide (x < (([(2 : Int), (3 : Int), (4 : Int), (5 : Int)].length : Nat) : Int))) then (bif inb x ([(2 : Int), (3 : Int), (4 : Int), (5 : Int)].length) then (bif inb ([(2 : Int), (3 : Int), (4 : Int), (5 : Int)].getD x.toNat (0 : Int)) c.length then (k25_13 ((IntKind.wrap .i64 ((IntKind.wrap .i64 ((256 : Int) * lba)) + (IntKind.wrap .i64 ((((c.getD (([(2 : Int), (3 : Int), (4 : Int), (5 : Int)].getD x.toNat (0 : Int)).toNat) 0).toNat : Nat) : Int))))), (IntKind.wrap .i64 (x + (1 : Int))))) else none) else none) else (bif (decide ((IntKind.wrap .i64 (lba + (IntKind.wrap .i64 ((IntKind.wrap .i64 ((IntKind.wrap .i64 ((((c.getD 7 0).toNat : Nat) : Int))) * (256 : Int))) + (IntKind.wrap .i64 ((((c.getD 8 0).toNat : Nat) : Int))))))) > ((d_Blocks.length : Nat) : Int))) then (some ((33 : Int), (0 : Int), (0 : Int))) else (bif ((((c.getD 0 0).toNat : Nat) : Int) == (42 : Int)) then (bif (((data.length : Nat) : Int) != (IntKind.wrap .i64 ((16 : Int) * (IntKind.wrap .i64 ((IntKind.wrap .i64 ((IntKind.wrap .i64 ((((c.getD 7 0).toNat : Nat) : Int))) * (256 : Int))) + (IntKind.wrap .i64 ((((c.getD 8 0).toNat : Nat) : Int)))))))) then (some ((36 : Int), (0 : Int), (0 : Int))) else (some ((0 : Int), lba, (IntKind.wrap .i64 ((IntKind.wrap .i64 ((IntKind.wrap .i64 ((((c.getD 7 0).toNat : Nat) : Int))) * (256 : Int))) + (IntKind.wrap .i64 ((((c.getD 8 0).toNat : Nat) : Int)))))))) else (some ((0 : Int), lba, (IntKind.wrap .i64 ((IntKind.wrap .i64 ((IntKind.wrap .i64 ((((c.getD 7 0).toNat : Nat) : Int))) * (256 : Int))) + (IntKind.wrap .i64 ((((c.getD 8 0).toNat : Nat) : Int))))))))))
def F25_l14 (n : Nat) (d_Blocks : List (List UInt8)) (c : List UInt8) (data : List UInt8) (k25_14 : (Int × Int) → Option (Int × Int × Int)) : (Int × Int) → Option (Int × Int × Int)
  | (lba_2, x_2) => (bif (decide (x_2 < (([(2 : Int), (3 : Int), (4 : Int), (5 : Int)].length : Nat) : Int))) then (bif inb x_2 ([(2 : Int), (3 : Int), (4 : Int), (5 : Int)].length) then (bif inb ([(2 : Int), (3 : Int), (4 : Int), (5 : Int)].getD x_2.toNat (0 : Int)) c.length then (k25_14 ((IntKind.wrap .i64 ((IntKind.wrap .i64 ((256 : Int) * lba_2)) + (IntKind.wrap .i64 ((((c.getD (([(2 : Int), (3 : Int), (4 : Int), (5 : Int)].getD x_2.toNat (0 : Int)).toNat) 0).toNat : Nat) : Int))))), (IntKind.wrap .i64 (x_2 + (1 : Int))))) else none) else none) else (bif (decide ((IntKind.wrap .i64 (lba_2 + (IntKind.wrap .i64 ((IntKind.wrap .i64 ((IntKind.wrap .i64 ((((c.getD 7 0).toNat : Nat) : Int))) * (256 : Int))) + (IntKind.wrap .i64 ((((c.getD 8 0).toNat : Nat) : Int))))))) > ((d_Blocks.length : Nat) : Int))) then (some ((33 : Int), (0 : Int), (0 : Int))) else (bif ((((c.getD 0 0).toNat : Nat) : Int) == (42 : Int)) then (bif (((data.length : Nat) : Int) != (IntKind.wrap .i64 ((16 : Int) * (IntKind.wrap .i64 ((IntKind.wrap .i64 ((IntKind.wrap .i64 ((((c.getD 7 0).toNat : Nat) : Int))) * (256 : Int))) + (IntKind.wrap .i64 ((((c.getD 8 0).toNat : Nat) : Int)))))))) then (some ((36 : Int), (0 : Int), (0 : Int))) else (some ((0 : Int), lba_2, (IntKind.wrap .i64 ((IntKind.wrap .i64 ((IntKind.wrap .i64 ((((c.getD 7 0).toNat : Nat) : Int))) * (256 : Int))) + (IntKind.wrap .i64 ((((c.getD 8 0).toNat : Nat) : Int)))))))) else (some ((0 : Int), lba_2, (IntKind.wrap .i64 ((IntKind.wrap .i64 ((IntKind.wrap .i64 ((((c.getD 7 0).toNat : Nat) : Int))) * (256 : Int))) + (IntKind.wrap .i64 ((((c.getD 8 0).toNat : Nat) : Int))))))))))
def F25_l12 (n : Nat) (d_Blocks : List (List UInt8)) (c : List UInt8) (data : List UInt8) (y_4 : List UInt8) (k25_12 : Nat → Option (Int × Int × Int)) : Nat → Option (Int × Int × Int)
  | m1 => (bif (decide (m1 < y_4.length)) then (bif (decide (((m1 : Nat) : Int) > (0 : Int))) then (bif inb ((m1 : Nat) : Int) y_4.length then (bif ((((y_4.getD (((m1 : Nat) : Int).toNat) 0).toNat : Nat) : Int) == (48 : Int)) then (bif inb ((m1 : Nat) : Int) c.length then (bif (decide ((((c.getD (((m1 : Nat) : Int).toNat) 0).toNat : Nat) : Int) > (0 : Int))) then (some ((36 : Int), (0 : Int), (0 : Int))) else (k25_12 (m1 + (runeAt y_4 m1).2))) else none) else (k25_12 (m1 + (runeAt y_4 m1).2))) else none) else (k25_12 (m1 + (runeAt y_4 m1).2))) else (bif ((((c.getD 0 0).toNat : Nat) : Int) == (26 : Int)) then (bif inb (2 : Int) c.length then (bif ((((c.getD 2 0).toNat : Nat) : Int) != (63 : Int)) then (some ((36 : Int), (0 : Int), (0 : Int))) else (bif (((c.length : Nat) : Int) == (6 : Int)) then (some ((0 : Int), (0 : Int), (0 : Int))) else (bif ((((c.getD 0 0).toNat : Nat) : Int) == (37 : Int)) then (some ((0 : Int), (0 : Int), (0 : Int))) else (bif inb (7 : Int) c.length then (bif inb (8 : Int) c.length then (loopF (F25_l13 n d_Blocks c data) n ((0 : Int), (0 : Int))) else none) else none)))) else none) else (bif (((c.length : Nat) : Int) == (6 : Int)) then (some ((0 : Int), (0 : Int), (0 : Int))) else (bif ((((c.getD 0 0).toNat : Nat) : Int) == (37 : Int)) then (some ((0 : Int), (0 : Int), (0 : Int))) else (bif inb (7 : Int) c.length then (bif inb (8 : Int) c.length then (loopF (F25_l14 n d_Blocks c data) n ((0 : Int), (0 : Int))) else none) else none)))))
def F25 (n : Nat) (d_Blocks : List (List UInt8)) (d_Sense : Int) (c : List UInt8) (data : List UInt8) : Option (Int × Int × Int) := (bif (c == ([] : List UInt8)) then (some ((32 : Int), (0 : Int), (0 : Int))) else (bif inb (0 : Int) c.length then ((F58 n (((c.getD 0 0).toNat : Nat) : Int)).bind fun y_4 => (bif (y_4 == ([] : List UInt8)) then (some ((32 : Int), (0 : Int), (0 : Int))) else (bif (((y_4.length : Nat) : Int) != ((c.length : Nat) : Int)) then (some ((36 : Int), (0 : Int), (0 : Int))) else (loopF (F25_l12 n d_Blocks c data y_4) n 0)))) else none))
theorem F25_ok (n : Nat) (d_Blocks : List (List UInt8)) (d_Sense : Int) (c : List UInt8) (data : List UInt8) (r : Int × Int × Int) (h : F25 n d_Blocks d_Sense c data = some r) : PureC Try.prog 25 [(.st (.cons (.sl .str d_Blocks) (.int .i64 d_Sense))), (.str c), (.str data)] (.tup (.cons (.int .i64 r.1) (.cons (.int .i64 r.2.1) (.cons (.int .i64 r.2.2) .nil)))) [] := by
  refine PureC.mkS Try.func25 rfl rfl ?_
  intro w0 fz0 hfz
  replace h : (bif (c == ([] : List UInt8)) then (some ((32 : Int), (0 : Int), (0 : Int))) else (bif inb (0 : Int) c.length then ((F58 n (((c.getD 0 0).toNat : Nat) : Int)).bind fun y_4 => (bif (y_4 == ([] : List UInt8)) then (some ((32 : Int), (0 : Int), (0 : Int))) else (bif (((y_4.length : Nat) : Int) != ((c.length : Nat) : Int)) then (some ((36 : Int), (0 : Int), (0 : Int))) else (loopF (F25_l12 n d_Blocks c data y_4) n 0)))) else none)) = some r := h
  refine TS.seq ?_
  have hq : (True) ∧ ((True) ∧ ((True) ∧ ((True) ∧ (True)))) := ⟨trivial, ⟨trivial, ⟨trivial, ⟨trivial, trivial⟩⟩⟩⟩
  refine TS.reg [] ?_ ?_
  · apply prop_of ?_ hq
    kernel_rfl
  refine XS.then ?_
  refine TS.seq ?_
  refine TS.seq ?_
  rcases bif_some h with ⟨c1, h⟩ | ⟨c2, h⟩
  · have hq : (True) ∧ ((True) ∧ (((True) ∧ (c == ([] : List UInt8)) = true) ∧ ((True) ∧ (True)))) := ⟨trivial, ⟨trivial, ⟨⟨trivial, c1⟩, ⟨trivial, trivial⟩⟩⟩⟩
    refine TS.reg [.none, .none, .dec true] ?_ ?_
    · apply prop_of ?_ hq
      kernel_rfl
    refine XS.then ?_
    refine TS.yes ?_ ?_
    · kernel_rfl
    refine TS.seq ?_
    have hq : (True) ∧ ((True) ∧ ((True) ∧ (True))) := ⟨trivial, ⟨trivial, ⟨trivial, trivial⟩⟩⟩
    refine TS.reg [] ?_ ?_
    · apply prop_of ?_ hq
      kernel_rfl
    refine XS.then ?_
    refine TS.ret ?_
    refine XS.passR ?_
    obtain rfl : ((32 : Int), (0 : Int), (0 : Int)) = r := Option.some.inj h
    exact XS.fin [] ((True) ∧ ((True) ∧ ((True) ∧ (True)))) (by kernel_rfl) ⟨trivial, ⟨trivial, ⟨trivial, trivial⟩⟩⟩
  · obtain ⟨t3, h⟩ := test_some h
    obtain ⟨y_4, hx4, h⟩ := bind_some' h
    have hq : (True) ∧ ((True) ∧ (((True) ∧ (c == ([] : List UInt8)) = false) ∧ ((True) ∧ ((inR (0 : Int) c.length) ∧ ((PureC Try.prog 58 [(.int .u8 (((c.getD 0 0).toNat : Nat) : Int))] (.str y_4) []) ∧ ((True) ∧ ((True) ∧ (True)))))))) := ⟨trivial, ⟨trivial, ⟨⟨trivial, c2⟩, ⟨trivial, ⟨inb_ok t3, ⟨F58_ok n (((c.getD 0 0).toNat : Nat) : Int) y_4 hx4, ⟨trivial, ⟨trivial, trivial⟩⟩⟩⟩⟩⟩⟩⟩
    refine TS.reg [.none, .none, .dec false, .none, .none, (.call (.str y_4) [])] ?_ ?_
    · apply prop_of ?_ hq
      kernel_rfl
    refine XS.then ?_
    rcases bif_some h with ⟨c5, h⟩ | ⟨c6, h⟩
    · refine TS.cond (y_4 == ([] : List UInt8)) ?_ (fun hcz => ?_) (fun hcz => by rw [c5] at hcz; cases hcz)
      · kernel_rfl
      refine TS.seq ?_
      have hq : (True) ∧ ((True) ∧ ((True) ∧ (True))) := ⟨trivial, ⟨trivial, ⟨trivial, trivial⟩⟩⟩
      refine TS.reg [] ?_ ?_
      · apply prop_of ?_ hq
        kernel_rfl
      refine XS.then ?_
      refine TS.ret ?_
      refine XS.passR ?_
      obtain rfl : ((32 : Int), (0 : Int), (0 : Int)) = r := Option.some.inj h
      exact XS.fin [] ((True) ∧ ((True) ∧ ((True) ∧ (True)))) (by kernel_rfl) ⟨trivial, ⟨trivial, ⟨trivial, trivial⟩⟩⟩
    · refine TS.cond (y_4 == ([] : List UInt8)) ?_ (fun hcz => by rw [c6] at hcz; cases hcz) (fun hcz => ?_)
      · kernel_rfl
      refine TS.skip ?_
      refine XS.then ?_
      refine TS.seq ?_
      have hq : (True) ∧ ((inR (0 : Int) c.length) ∧ ((PureC Try.prog 58 [(.int .u8 (((c.getD 0 0).toNat : Nat) : Int))] (.str y_4) []) ∧ ((True) ∧ (True)))) := ⟨trivial, ⟨inb_ok t3, ⟨F58_ok n (((c.getD 0 0).toNat : Nat) : Int) y_4 hx4, ⟨trivial, trivial⟩⟩⟩⟩
      refine TS.reg [.none, .none, (.call (.str y_4) [])] ?_ ?_
      · apply prop_of ?_ hq
        kernel_rfl
      refine XS.then ?_
      refine TS.seq ?_
      refine TS.seq ?_
      have hq : (True) ∧ ((True) ∧ ((True) ∧ ((True) ∧ ((True) ∧ (True))))) := ⟨trivial, ⟨trivial, ⟨trivial, ⟨trivial, ⟨trivial, trivial⟩⟩⟩⟩⟩
      refine TS.reg [] ?_ ?_
      · apply prop_of ?_ hq
        kernel_rfl
      refine XS.then ?_
      rcases bif_some h with ⟨c7, h⟩ | ⟨c8, h⟩
      · refine TS.cond (((y_4.length : Nat) : Int) != ((c.length : Nat) : Int)) ?_ (fun hcz => ?_) (fun hcz => by rw [c7] at hcz; cases hcz)
        · kernel_rfl
        refine TS.seq ?_
        have hq : (True) ∧ ((True) ∧ ((True) ∧ (True))) := ⟨trivial, ⟨trivial, ⟨trivial, trivial⟩⟩⟩
        refine TS.reg [] ?_ ?_
        · apply prop_of ?_ hq
          kernel_rfl
        refine XS.then ?_
        refine TS.ret ?_
        refine XS.passR ?_
        obtain rfl : ((36 : Int), (0 : Int), (0 : Int)) = r := Option.some.inj h
        exact XS.fin [] ((True) ∧ ((True) ∧ ((True) ∧ (True)))) (by kernel_rfl) ⟨trivial, ⟨trivial, ⟨trivial, trivial⟩⟩⟩
      · refine TS.cond (((y_4.length : Nat) : Int) != ((c.length : Nat) : Int)) ?_ (fun hcz => by rw [c8] at hcz; cases hcz) (fun hcz => ?_)
        · kernel_rfl
        refine TS.skip ?_
        refine XS.then ?_
        refine TS.seq ?_
        refine TS.seq ?_
        have hq : (True) ∧ ((True) ∧ (True)) := ⟨trivial, ⟨trivial, trivial⟩⟩
        refine TS.reg [] ?_ ?_
        · apply prop_of ?_ hq
          kernel_rfl
        refine XS.then ?_
        refine TS.block ?_
        refine TS.reLoop [0, 1] (mkMask 107 [1, 2, 3, 9, 32]) (D := Nat) (fun d => match d with | m1 => (mkTs 107 [(1, (.str c)), (2, (.str data)), (3, (.ptr 0 [])), (9, (.str y_4)), (32, (.ptr 1 []))], [(.box 24 (.st (.cons (.sl .str d_Blocks) (.int .i64 d_Sense)))), (.iter y_4 m1)])) (fun n' d => loopF (F25_l12 n d_Blocks c data y_4) n' d = some r) n 0 h ?_ (fun d => loopF_zero _ d r) ?_
        · kernel_rfl
        · rintro n12 m1 h
          replace h : (bif (decide (m1 < y_4.length)) then (bif (decide (((m1 : Nat) : Int) > (0 : Int))) then (bif inb ((m1 : Nat) : Int) y_4.length then (bif ((((y_4.getD (((m1 : Nat) : Int).toNat) 0).toNat : Nat) : Int) == (48 : Int)) then (bif inb ((m1 : Nat) : Int) c.length then (bif (decide ((((c.getD (((m1 : Nat) : Int).toNat) 0).toNat : Nat) : Int) > (0 : Int))) then (some ((36 : Int), (0 : Int), (0 : Int))) else ((loopF (F25_l12 n d_Blocks c data y_4) n12) (m1 + (runeAt y_4 m1).2))) else none) else ((loopF (F25_l12 n d_Blocks c data y_4) n12) (m1 + (runeAt y_4 m1).2))) else none) else ((loopF (F25_l12 n d_Blocks c data y_4) n12) (m1 + (runeAt y_4 m1).2))) else (bif ((((c.getD 0 0).toNat : Nat) : Int) == (26 : Int)) then (bif inb (2 : Int) c.length then (bif ((((c.getD 2 0).toNat : Nat) : Int) != (63 : Int)) then (some ((36 : Int), (0 : Int), (0 : Int))) else (bif (((c.length : Nat) : Int) == (6 : Int)) then (some ((0 : Int), (0 : Int), (0 : Int))) else (bif ((((c.getD 0 0).toNat : Nat) : Int) == (37 : Int)) then (some ((0 : Int), (0 : Int), (0 : Int))) else (bif inb (7 : Int) c.length then (bif inb (8 : Int) c.length then (loopF (F25_l13 n d_Blocks c data) n ((0 : Int), (0 : Int))) else none) else none)))) else none) else (bif (((c.length : Nat) : Int) == (6 : Int)) then (some ((0 : Int), (0 : Int), (0 : Int))) else (bif ((((c.getD 0 0).toNat : Nat) : Int) == (37 : Int)) then (some ((0 : Int), (0 : Int), (0 : Int))) else (bif inb (7 : Int) c.length then (bif inb (8 : Int) c.length then (loopF (F25_l14 n d_Blocks c data) n ((0 : Int), (0 : Int))) else none) else none))))) = some r := h
          refine TS.seq ?_
          rcases bif_some h with ⟨c9, h⟩ | ⟨c10, h⟩
          · have hq : (m1 < y_4.length) ∧ ((True) ∧ (True)) := ⟨of_decide_eq_true c9, ⟨trivial, trivial⟩⟩
            refine TS.reg [.dec true] ?_ ?_
            · apply prop_of ?_ hq
              kernel_rfl
            refine XS.then ?_
            refine TS.seq ?_
            refine TS.yes ?_ ?_
            · kernel_rfl
            refine TS.skip ?_
            refine XS.then ?_
            refine TS.block ?_
            refine TS.seq ?_
            have hq : (True) ∧ ((True) ∧ (True)) := ⟨trivial, ⟨trivial, trivial⟩⟩
            refine TS.reg [] ?_ ?_
            · apply prop_of ?_ hq
              kernel_rfl
            refine XS.then ?_
            refine TS.seq ?_
            rcases bif_some h with ⟨c11, h⟩ | ⟨c12, h⟩
            · obtain ⟨t13, h⟩ := test_some h
              rcases bif_some h with ⟨c14, h⟩ | ⟨c15, h⟩
              · obtain ⟨t16, h⟩ := test_some h
                have hq : (True) ∧ ((True) ∧ (((True) ∧ (decide (((m1 : Nat) : Int) > (0 : Int))) = true) ∧ ((True) ∧ ((True) ∧ ((inR ((m1 : Nat) : Int) y_4.length) ∧ ((True) ∧ ((True) ∧ (((True) ∧ ((((y_4.getD (((m1 : Nat) : Int).toNat) 0).toNat : Nat) : Int) == (48 : Int)) = true) ∧ ((True) ∧ ((True) ∧ ((inR ((m1 : Nat) : Int) c.length) ∧ ((True) ∧ ((True) ∧ (True)))))))))))))) := ⟨trivial, ⟨trivial, ⟨⟨trivial, c11⟩, ⟨trivial, ⟨trivial, ⟨inb_ok t13, ⟨trivial, ⟨trivial, ⟨⟨trivial, c14⟩, ⟨trivial, ⟨trivial, ⟨inb_ok t16, ⟨trivial, ⟨trivial, trivial⟩⟩⟩⟩⟩⟩⟩⟩⟩⟩⟩⟩⟩⟩
                refine TS.reg [.none, .none, .dec true, .none, .none, .none, .none, .none, .dec true] ?_ ?_
                · apply prop_of ?_ hq
                  kernel_rfl
                refine XS.then ?_
                rcases bif_some h with ⟨c17, h⟩ | ⟨c18, h⟩
                · refine TS.cond (decide ((((c.getD (((m1 : Nat) : Int).toNat) 0).toNat : Nat) : Int) > (0 : Int))) ?_ (fun hcz => ?_) (fun hcz => by rw [c17] at hcz; cases hcz)
                  · kernel_rfl
                  refine TS.seq ?_
                  have hq : (True) ∧ ((True) ∧ ((True) ∧ (True))) := ⟨trivial, ⟨trivial, ⟨trivial, trivial⟩⟩⟩
                  refine TS.reg [] ?_ ?_
                  · apply prop_of ?_ hq
                    kernel_rfl
                  refine XS.then ?_
                  refine TS.ret ?_
                  refine XS.blockRet ?_
                  refine XS.passR ?_
                  refine XS.blockRet ?_
                  refine XS.passR ?_
                  obtain rfl : ((36 : Int), (0 : Int), (0 : Int)) = r := Option.some.inj h
                  exact XS.fin [] ((True) ∧ ((True) ∧ ((True) ∧ (True)))) (by kernel_rfl) ⟨trivial, ⟨trivial, ⟨trivial, trivial⟩⟩⟩
                · refine TS.cond (decide ((((c.getD (((m1 : Nat) : Int).toNat) 0).toNat : Nat) : Int) > (0 : Int))) ?_ (fun hcz => by rw [c18] at hcz; cases hcz) (fun hcz => ?_)
                  · kernel_rfl
                  refine TS.skip ?_
                  refine XS.blockEnd ?_
                  refine XS.reAny [0, 1] (mkMask 107 [1, 2, 3, 9, 32]) (m1 + (runeAt y_4 m1).2) h ?_
                  kernel_rfl
              · have hq : (True) ∧ ((True) ∧ (((True) ∧ (decide (((m1 : Nat) : Int) > (0 : Int))) = true) ∧ ((True) ∧ ((True) ∧ ((inR ((m1 : Nat) : Int) y_4.length) ∧ ((True) ∧ ((True) ∧ (((True) ∧ ((((y_4.getD (((m1 : Nat) : Int).toNat) 0).toNat : Nat) : Int) == (48 : Int)) = false) ∧ ((True) ∧ (True)))))))))) := ⟨trivial, ⟨trivial, ⟨⟨trivial, c11⟩, ⟨trivial, ⟨trivial, ⟨inb_ok t13, ⟨trivial, ⟨trivial, ⟨⟨trivial, c15⟩, ⟨trivial, trivial⟩⟩⟩⟩⟩⟩⟩⟩⟩⟩
                refine TS.reg [.none, .none, .dec true, .none, .none, .none, .none, .none, .dec false] ?_ ?_
                · apply prop_of ?_ hq
                  kernel_rfl
                refine XS.then ?_
                refine TS.no ?_ ?_
                · kernel_rfl
                refine TS.skip ?_
                refine XS.blockEnd ?_
                refine XS.reAny [0, 1] (mkMask 107 [1, 2, 3, 9, 32]) (m1 + (runeAt y_4 m1).2) h ?_
                kernel_rfl
            · have hq : (True) ∧ ((True) ∧ (((True) ∧ (decide (((m1 : Nat) : Int) > (0 : Int))) = false) ∧ ((True) ∧ ((True) ∧ ((True) ∧ (True)))))) := ⟨trivial, ⟨trivial, ⟨⟨trivial, c12⟩, ⟨trivial, ⟨trivial, ⟨trivial, trivial⟩⟩⟩⟩⟩⟩
              refine TS.reg [.none, .none, .dec false] ?_ ?_
              · apply prop_of ?_ hq
                kernel_rfl
              refine XS.then ?_
              refine TS.no ?_ ?_
              · kernel_rfl
              refine TS.skip ?_
              refine XS.blockEnd ?_
              refine XS.reAny [0, 1] (mkMask 107 [1, 2, 3, 9, 32]) (m1 + (runeAt y_4 m1).2) h ?_
              kernel_rfl
          · have hq : (¬ m1 < y_4.length) ∧ ((True) ∧ (True)) := ⟨of_decide_eq_false c10, ⟨trivial, trivial⟩⟩
            refine TS.reg [.dec false] ?_ ?_
            · apply prop_of ?_ hq
              kernel_rfl
            refine XS.then ?_
            refine TS.seq ?_
            refine TS.no ?_ ?_
            · kernel_rfl
            refine TS.exit ?_
            refine XS.passE ?_
            refine XS.passE ?_
            refine XS.out ?_
            refine XS.then ?_
            refine TS.seq ?_
            refine TS.seq ?_
            rcases bif_some h with ⟨c19, h⟩ | ⟨c20, h⟩
            · obtain ⟨t21, h⟩ := test_some h
              have hq : (True) ∧ ((inR (0 : Int) c.length) ∧ ((True) ∧ (((True) ∧ ((((c.getD 0 0).toNat : Nat) : Int) == (26 : Int)) = true) ∧ ((True) ∧ ((inR (2 : Int) c.length) ∧ ((True) ∧ ((True) ∧ (True)))))))) := ⟨trivial, ⟨inb_ok t3, ⟨trivial, ⟨⟨trivial, c19⟩, ⟨trivial, ⟨inb_ok t21, ⟨trivial, ⟨trivial, trivial⟩⟩⟩⟩⟩⟩⟩⟩
              refine TS.reg [.none, .none, .none, .dec true] ?_ ?_
              · apply prop_of ?_ hq
                kernel_rfl
              refine XS.then ?_
              rcases bif_some h with ⟨c22, h⟩ | ⟨c23, h⟩
              · refine TS.cond ((((c.getD 2 0).toNat : Nat) : Int) != (63 : Int)) ?_ (fun hcz => ?_) (fun hcz => by rw [c22] at hcz; cases hcz)
                · kernel_rfl
                refine TS.seq ?_
                have hq : (True) ∧ ((True) ∧ ((True) ∧ (True))) := ⟨trivial, ⟨trivial, ⟨trivial, trivial⟩⟩⟩
                refine TS.reg [] ?_ ?_
                · apply prop_of ?_ hq
                  kernel_rfl
                refine XS.then ?_
                refine TS.ret ?_
                refine XS.passR ?_
                obtain rfl : ((36 : Int), (0 : Int), (0 : Int)) = r := Option.some.inj h
                exact XS.fin [] ((True) ∧ ((True) ∧ ((True) ∧ (True)))) (by kernel_rfl) ⟨trivial, ⟨trivial, ⟨trivial, trivial⟩⟩⟩
              · refine TS.cond ((((c.getD 2 0).toNat : Nat) : Int) != (63 : Int)) ?_ (fun hcz => by rw [c23] at hcz; cases hcz) (fun hcz => ?_)
                · kernel_rfl
                refine TS.skip ?_
                refine XS.then ?_
                refine TS.seq ?_
                refine TS.seq ?_
                rcases bif_some h with ⟨c24, h⟩ | ⟨c25, h⟩
                · have hq : (True) ∧ ((True) ∧ ((True) ∧ (((True) ∧ (((c.length : Nat) : Int) == (6 : Int)) = true) ∧ ((True) ∧ (True))))) := ⟨trivial, ⟨trivial, ⟨trivial, ⟨⟨trivial, c24⟩, ⟨trivial, trivial⟩⟩⟩⟩⟩
                  refine TS.reg [.none, .none, .none, .dec true] ?_ ?_
                  · apply prop_of ?_ hq
                    kernel_rfl
                  refine XS.then ?_
                  refine TS.yes ?_ ?_
                  · kernel_rfl
                  refine TS.seq ?_
                  have hq : (True) ∧ ((True) ∧ ((True) ∧ (True))) := ⟨trivial, ⟨trivial, ⟨trivial, trivial⟩⟩⟩
                  refine TS.reg [] ?_ ?_
                  · apply prop_of ?_ hq
                    kernel_rfl
                  refine XS.then ?_
                  refine TS.ret ?_
                  refine XS.passR ?_
                  obtain rfl : ((0 : Int), (0 : Int), (0 : Int)) = r := Option.some.inj h
                  exact XS.fin [] ((True) ∧ ((True) ∧ ((True) ∧ (True)))) (by kernel_rfl) ⟨trivial, ⟨trivial, ⟨trivial, trivial⟩⟩⟩
                · have hq : (True) ∧ ((True) ∧ ((True) ∧ (((True) ∧ (((c.length : Nat) : Int) == (6 : Int)) = false) ∧ ((True) ∧ ((inR (0 : Int) c.length) ∧ ((True) ∧ ((True) ∧ (True)))))))) := ⟨trivial, ⟨trivial, ⟨trivial, ⟨⟨trivial, c25⟩, ⟨trivial, ⟨inb_ok t3, ⟨trivial, ⟨trivial, trivial⟩⟩⟩⟩⟩⟩⟩⟩
                  refine TS.reg [.none, .none, .none, .dec false] ?_ ?_
                  · apply prop_of ?_ hq
                    kernel_rfl
                  refine XS.then ?_
                  rcases bif_some h with ⟨c26, h⟩ | ⟨c27, h⟩
                  · refine TS.cond ((((c.getD 0 0).toNat : Nat) : Int) == (37 : Int)) ?_ (fun hcz => ?_) (fun hcz => by rw [c26] at hcz; cases hcz)
                    · kernel_rfl
                    refine TS.seq ?_
                    have hq : (True) ∧ ((True) ∧ ((True) ∧ (True))) := ⟨trivial, ⟨trivial, ⟨trivial, trivial⟩⟩⟩
                    refine TS.reg [] ?_ ?_
                    · apply prop_of ?_ hq
                      kernel_rfl
                    refine XS.then ?_
                    refine TS.ret ?_
                    refine XS.passR ?_
                    obtain rfl : ((0 : Int), (0 : Int), (0 : Int)) = r := Option.some.inj h
                    exact XS.fin [] ((True) ∧ ((True) ∧ ((True) ∧ (True)))) (by kernel_rfl) ⟨trivial, ⟨trivial, ⟨trivial, trivial⟩⟩⟩
                  · refine TS.cond ((((c.getD 0 0).toNat : Nat) : Int) == (37 : Int)) ?_ (fun hcz => by rw [c27] at hcz; cases hcz) (fun hcz => ?_)
                    · kernel_rfl
                    refine TS.skip ?_
                    refine XS.then ?_
                    refine TS.seq ?_
                    obtain ⟨t28, h⟩ := test_some h
                    obtain ⟨t29, h⟩ := test_some h
                    have hq : ((True) ∧ ((inR (7 : Int) c.length) ∧ ((True) ∧ ((True) ∧ ((True) ∧ ((inR (8 : Int) c.length) ∧ ((True) ∧ ((True) ∧ ((True) ∧ (True)))))))))) ∧ ((True) ∧ (True)) := ⟨⟨trivial, ⟨inb_ok t28, ⟨trivial, ⟨trivial, ⟨trivial, ⟨inb_ok t29, ⟨trivial, ⟨trivial, ⟨trivial, trivial⟩⟩⟩⟩⟩⟩⟩⟩⟩, ⟨trivial, trivial⟩⟩
                    refine TS.draw 9 [] [] (by kernel_rfl) ?_ ?_
                    · apply prop_of ?_ hq
                      kernel_rfl
                    refine XS.then ?_
                    refine TS.seq ?_
                    refine TS.seq ?_
                    have hq : ((0 < 4 ∧ True) ∧ ((1 < 4 ∧ True) ∧ ((2 < 4 ∧ True) ∧ ((3 < 4 ∧ True) ∧ (True))))) ∧ ((True) ∧ ((True) ∧ (True))) := ⟨⟨⟨by decide, trivial⟩, ⟨⟨by decide, trivial⟩, ⟨⟨by decide, trivial⟩, ⟨⟨by decide, trivial⟩, trivial⟩⟩⟩⟩, ⟨trivial, ⟨trivial, trivial⟩⟩⟩
                    refine TS.reg [] ?_ ?_
                    · apply prop_of ?_ hq
                      kernel_rfl
                    refine XS.then ?_
                    refine TS.block ?_
                    refine TS.reLoop [0, 2] (mkMask 107 [1, 2, 3, 11, 12, 74, 75, 76]) (D := Int × Int) (fun d => match d with | (lba, x) => (mkTs 107 [(1, (.str c)), (2, (.str data)), (3, (.ptr 0 [])), (11, (.int .i64 lba)), (12, (.int .i64 (IntKind.wrap .i64 ((IntKind.wrap .i64 ((IntKind.wrap .i64 ((((c.getD 7 0).toNat : Nat) : Int))) * (256 : Int))) + (IntKind.wrap .i64 ((((c.getD 8 0).toNat : Nat) : Int))))))), (74, (.row 1)), (75, (.int .i64 (([(2 : Int), (3 : Int), (4 : Int), (5 : Int)].length : Nat) : Int))), (76, (.int .i64 x))], [(.box 24 (.st (.cons (.sl .str d_Blocks) (.int .i64 d_Sense)))), (.row 3 (.int .i64) [(2 : Int), (3 : Int), (4 : Int), (5 : Int)])])) (fun n' d => loopF (F25_l13 n d_Blocks c data) n' d = some r) n ((0 : Int), (0 : Int)) h ?_ (fun d => loopF_zero _ d r) ?_
                    · kernel_rfl
                    · rintro n13 ⟨lba, x⟩ h
                      replace h : (bif (decide (x < (([(2 : Int), (3 : Int), (4 : Int), (5 : Int)].length : Nat) : Int))) then (bif inb x ([(2 : Int), (3 : Int), (4 : Int), (5 : Int)].length) then (bif inb ([(2 : Int), (3 : Int), (4 : Int), (5 : Int)].getD x.toNat (0 : Int)) c.length then ((loopF (F25_l13 n d_Blocks c data) n13) ((IntKind.wrap .i64 ((IntKind.wrap .i64 ((256 : Int) * lba)) + (IntKind.wrap .i64 ((((c.getD (([(2 : Int), (3 : Int), (4 : Int), (5 : Int)].getD x.toNat (0 : Int)).toNat) 0).toNat : Nat) : Int))))), (IntKind.wrap .i64 (x + (1 : Int))))) else none) else none) else (bif (decide ((IntKind.wrap .i64 (lba + (IntKind.wrap .i64 ((IntKind.wrap .i64 ((IntKind.wrap .i64 ((((c.getD 7 0).toNat : Nat) : Int))) * (256 : Int))) + (IntKind.wrap .i64 ((((c.getD 8 0).toNat : Nat) : Int))))))) > ((d_Blocks.length : Nat) : Int))) then (some ((33 : Int), (0 : Int), (0 : Int))) else (bif ((((c.getD 0 0).toNat : Nat) : Int) == (42 : Int)) then (bif (((data.length : Nat) : Int) != (IntKind.wrap .i64 ((16 : Int) * (IntKind.wrap .i64 ((IntKind.wrap .i64 ((IntKind.wrap .i64 ((((c.getD 7 0).toNat : Nat) : Int))) * (256 : Int))) + (IntKind.wrap .i64 ((((c.getD 8 0).toNat : Nat) : Int)))))))) then (some ((36 : Int), (0 : Int), (0 : Int))) else (some ((0 : Int), lba, (IntKind.wrap .i64 ((IntKind.wrap .i64 ((IntKind.wrap .i64 ((((c.getD 7 0).toNat : Nat) : Int))) * (256 : Int))) + (IntKind.wrap .i64 ((((c.getD 8 0).toNat : Nat) : Int)))))))) else (some ((0 : Int), lba, (IntKind.wrap .i64 ((IntKind.wrap .i64 ((IntKind.wrap .i64 ((((c.getD 7 0).toNat : Nat) : Int))) * (256 : Int))) + (IntKind.wrap .i64 ((((c.getD 8 0).toNat : Nat) : Int)))))))))) = some r := h
                      refine TS.seq ?_
                      have hq : (True) ∧ (True) := ⟨trivial, trivial⟩
                      refine TS.reg [] ?_ ?_
                      · apply prop_of ?_ hq
                        kernel_rfl
                      refine XS.then ?_
                      refine TS.seq ?_
                      rcases bif_some h with ⟨c30, h⟩ | ⟨c31, h⟩
                      · refine TS.cond (decide (x < (([(2 : Int), (3 : Int), (4 : Int), (5 : Int)].length : Nat) : Int))) ?_ (fun hcz => ?_) (fun hcz => by rw [c30] at hcz; cases hcz)
                        · kernel_rfl
                        refine TS.skip ?_
                        refine XS.then ?_
                        refine TS.seq ?_
                        refine TS.block ?_
                        refine TS.seq ?_
                        obtain ⟨t32, h⟩ := test_some h
                        have hq : (inR x ([(2 : Int), (3 : Int), (4 : Int), (5 : Int)].length)) ∧ ((x.toNat < [(2 : Int), (3 : Int), (4 : Int), (5 : Int)].length ∧ (True)) ∧ ((True) ∧ (True))) := ⟨inb_ok t32, ⟨⟨inR_lt (inb_ok t32), trivial⟩, ⟨trivial, trivial⟩⟩⟩
                        refine TS.reg [] ?_ ?_
                        · apply prop_of ?_ hq
                          kernel_rfl
                        refine XS.then ?_
                        obtain ⟨t33, h⟩ := test_some h
                        have hq : (True) ∧ ((True) ∧ ((True) ∧ ((True) ∧ ((inR ([(2 : Int), (3 : Int), (4 : Int), (5 : Int)].getD x.toNat (0 : Int)) c.length) ∧ ((True) ∧ ((True) ∧ ((True) ∧ (True)))))))) := ⟨trivial, ⟨trivial, ⟨trivial, ⟨trivial, ⟨inb_ok t33, ⟨trivial, ⟨trivial, ⟨trivial, trivial⟩⟩⟩⟩⟩⟩⟩⟩
                        refine TS.reg [] ?_ ?_
                        · apply prop_of ?_ hq
                          kernel_rfl
                        refine XS.blockEnd ?_
                        refine XS.then ?_
                        have hq : (True) ∧ ((True) ∧ (True)) := ⟨trivial, ⟨trivial, trivial⟩⟩
                        refine TS.reg [] ?_ ?_
                        · apply prop_of ?_ hq
                          kernel_rfl
                        refine XS.reAny [0, 1] (mkMask 107 [1, 2, 3, 11, 12, 74, 75, 76]) ((IntKind.wrap .i64 ((IntKind.wrap .i64 ((256 : Int) * lba)) + (IntKind.wrap .i64 ((((c.getD (([(2 : Int), (3 : Int), (4 : Int), (5 : Int)].getD x.toNat (0 : Int)).toNat) 0).toNat : Nat) : Int))))), (IntKind.wrap .i64 (x + (1 : Int)))) h ?_
                        kernel_rfl
                      · refine TS.cond (decide (x < (([(2 : Int), (3 : Int), (4 : Int), (5 : Int)].length : Nat) : Int))) ?_ (fun hcz => by rw [c31] at hcz; cases hcz) (fun hcz => ?_)
                        · kernel_rfl
                        refine TS.exit ?_
                        refine XS.passE ?_
                        refine XS.passE ?_
                        refine XS.out ?_
                        refine XS.then ?_
                        refine TS.seq ?_
                        refine TS.seq ?_
                        have hq : (True) ∧ ((True) ∧ ((True) ∧ ((True) ∧ ((True) ∧ ((True) ∧ ((True) ∧ (True))))))) := ⟨trivial, ⟨trivial, ⟨trivial, ⟨trivial, ⟨trivial, ⟨trivial, ⟨trivial, trivial⟩⟩⟩⟩⟩⟩⟩
                        refine TS.reg [] ?_ ?_
                        · apply prop_of ?_ hq
                          kernel_rfl
                        refine XS.then ?_
                        rcases bif_some h with ⟨c34, h⟩ | ⟨c35, h⟩
                        · refine TS.cond (decide ((IntKind.wrap .i64 (lba + (IntKind.wrap .i64 ((IntKind.wrap .i64 ((IntKind.wrap .i64 ((((c.getD 7 0).toNat : Nat) : Int))) * (256 : Int))) + (IntKind.wrap .i64 ((((c.getD 8 0).toNat : Nat) : Int))))))) > ((d_Blocks.length : Nat) : Int))) ?_ (fun hcz => ?_) (fun hcz => by rw [c34] at hcz; cases hcz)
                          · kernel_rfl
                          refine TS.seq ?_
                          have hq : (True) ∧ ((True) ∧ ((True) ∧ (True))) := ⟨trivial, ⟨trivial, ⟨trivial, trivial⟩⟩⟩
                          refine TS.reg [] ?_ ?_
                          · apply prop_of ?_ hq
                            kernel_rfl
                          refine XS.then ?_
                          refine TS.ret ?_
                          refine XS.passR ?_
                          obtain rfl : ((33 : Int), (0 : Int), (0 : Int)) = r := Option.some.inj h
                          exact XS.fin [] ((True) ∧ ((True) ∧ ((True) ∧ (True)))) (by kernel_rfl) ⟨trivial, ⟨trivial, ⟨trivial, trivial⟩⟩⟩
                        · refine TS.cond (decide ((IntKind.wrap .i64 (lba + (IntKind.wrap .i64 ((IntKind.wrap .i64 ((IntKind.wrap .i64 ((((c.getD 7 0).toNat : Nat) : Int))) * (256 : Int))) + (IntKind.wrap .i64 ((((c.getD 8 0).toNat : Nat) : Int))))))) > ((d_Blocks.length : Nat) : Int))) ?_ (fun hcz => by rw [c35] at hcz; cases hcz) (fun hcz => ?_)
                          · kernel_rfl
                          refine TS.skip ?_
                          refine XS.then ?_
                          refine TS.seq ?_
                          refine TS.seq ?_
                          rcases bif_some h with ⟨c36, h⟩ | ⟨c37, h⟩
                          · have hq : (True) ∧ ((inR (0 : Int) c.length) ∧ ((True) ∧ (((True) ∧ ((((c.getD 0 0).toNat : Nat) : Int) == (42 : Int)) = true) ∧ ((True) ∧ ((True) ∧ ((True) ∧ ((True) ∧ ((True) ∧ ((True) ∧ (True)))))))))) := ⟨trivial, ⟨inb_ok t3, ⟨trivial, ⟨⟨trivial, c36⟩, ⟨trivial, ⟨trivial, ⟨trivial, ⟨trivial, ⟨trivial, ⟨trivial, trivial⟩⟩⟩⟩⟩⟩⟩⟩⟩⟩
                            refine TS.reg [.none, .none, .none, .dec true] ?_ ?_
                            · apply prop_of ?_ hq
                              kernel_rfl
                            refine XS.then ?_
                            rcases bif_some h with ⟨c38, h⟩ | ⟨c39, h⟩
                            · refine TS.cond (((data.length : Nat) : Int) != (IntKind.wrap .i64 ((16 : Int) * (IntKind.wrap .i64 ((IntKind.wrap .i64 ((IntKind.wrap .i64 ((((c.getD 7 0).toNat : Nat) : Int))) * (256 : Int))) + (IntKind.wrap .i64 ((((c.getD 8 0).toNat : Nat) : Int)))))))) ?_ (fun hcz => ?_) (fun hcz => by rw [c38] at hcz; cases hcz)
                              · kernel_rfl
                              refine TS.seq ?_
                              have hq : (True) ∧ ((True) ∧ ((True) ∧ (True))) := ⟨trivial, ⟨trivial, ⟨trivial, trivial⟩⟩⟩
                              refine TS.reg [] ?_ ?_
                              · apply prop_of ?_ hq
                                kernel_rfl
                              refine XS.then ?_
                              refine TS.ret ?_
                              refine XS.passR ?_
                              obtain rfl : ((36 : Int), (0 : Int), (0 : Int)) = r := Option.some.inj h
                              exact XS.fin [] ((True) ∧ ((True) ∧ ((True) ∧ (True)))) (by kernel_rfl) ⟨trivial, ⟨trivial, ⟨trivial, trivial⟩⟩⟩
                            · refine TS.cond (((data.length : Nat) : Int) != (IntKind.wrap .i64 ((16 : Int) * (IntKind.wrap .i64 ((IntKind.wrap .i64 ((IntKind.wrap .i64 ((((c.getD 7 0).toNat : Nat) : Int))) * (256 : Int))) + (IntKind.wrap .i64 ((((c.getD 8 0).toNat : Nat) : Int)))))))) ?_ (fun hcz => by rw [c39] at hcz; cases hcz) (fun hcz => ?_)
                              · kernel_rfl
                              refine TS.skip ?_
                              refine XS.then ?_
                              refine TS.seq ?_
                              have hq : (True) ∧ ((True) ∧ ((True) ∧ ((True) ∧ ((True) ∧ (True))))) := ⟨trivial, ⟨trivial, ⟨trivial, ⟨trivial, ⟨trivial, trivial⟩⟩⟩⟩⟩
                              refine TS.reg [] ?_ ?_
                              · apply prop_of ?_ hq
                                kernel_rfl
                              refine XS.then ?_
                              refine TS.ret ?_
                              obtain rfl : ((0 : Int), lba, (IntKind.wrap .i64 ((IntKind.wrap .i64 ((IntKind.wrap .i64 ((((c.getD 7 0).toNat : Nat) : Int))) * (256 : Int))) + (IntKind.wrap .i64 ((((c.getD 8 0).toNat : Nat) : Int)))))) = r := Option.some.inj h
                              exact XS.fin [] ((True) ∧ ((True) ∧ ((True) ∧ (True)))) (by kernel_rfl) ⟨trivial, ⟨trivial, ⟨trivial, trivial⟩⟩⟩
                          · have hq : (True) ∧ ((inR (0 : Int) c.length) ∧ ((True) ∧ (((True) ∧ ((((c.getD 0 0).toNat : Nat) : Int) == (42 : Int)) = false) ∧ ((True) ∧ (True))))) := ⟨trivial, ⟨inb_ok t3, ⟨trivial, ⟨⟨trivial, c37⟩, ⟨trivial, trivial⟩⟩⟩⟩⟩
                            refine TS.reg [.none, .none, .none, .dec false] ?_ ?_
                            · apply prop_of ?_ hq
                              kernel_rfl
                            refine XS.then ?_
                            refine TS.no ?_ ?_
                            · kernel_rfl
                            refine TS.skip ?_
                            refine XS.then ?_
                            refine TS.seq ?_
                            have hq : (True) ∧ ((True) ∧ ((True) ∧ ((True) ∧ ((True) ∧ (True))))) := ⟨trivial, ⟨trivial, ⟨trivial, ⟨trivial, ⟨trivial, trivial⟩⟩⟩⟩⟩
                            refine TS.reg [] ?_ ?_
                            · apply prop_of ?_ hq
                              kernel_rfl
                            refine XS.then ?_
                            refine TS.ret ?_
                            obtain rfl : ((0 : Int), lba, (IntKind.wrap .i64 ((IntKind.wrap .i64 ((IntKind.wrap .i64 ((((c.getD 7 0).toNat : Nat) : Int))) * (256 : Int))) + (IntKind.wrap .i64 ((((c.getD 8 0).toNat : Nat) : Int)))))) = r := Option.some.inj h
                            exact XS.fin [] ((True) ∧ ((True) ∧ ((True) ∧ (True)))) (by kernel_rfl) ⟨trivial, ⟨trivial, ⟨trivial, trivial⟩⟩⟩
            · have hq : (True) ∧ ((inR (0 : Int) c.length) ∧ ((True) ∧ (((True) ∧ ((((c.getD 0 0).toNat : Nat) : Int) == (26 : Int)) = false) ∧ ((True) ∧ (True))))) := ⟨trivial, ⟨inb_ok t3, ⟨trivial, ⟨⟨trivial, c20⟩, ⟨trivial, trivial⟩⟩⟩⟩⟩
              refine TS.reg [.none, .none, .none, .dec false] ?_ ?_
              · apply prop_of ?_ hq
                kernel_rfl
              refine XS.then ?_
              refine TS.no ?_ ?_
              · kernel_rfl
              refine TS.skip ?_
              refine XS.then ?_
              refine TS.seq ?_
              refine TS.seq ?_
              rcases bif_some h with ⟨c40, h⟩ | ⟨c41, h⟩
              · have hq : (True) ∧ ((True) ∧ ((True) ∧ (((True) ∧ (((c.length : Nat) : Int) == (6 : Int)) = true) ∧ ((True) ∧ (True))))) := ⟨trivial, ⟨trivial, ⟨trivial, ⟨⟨trivial, c40⟩, ⟨trivial, trivial⟩⟩⟩⟩⟩
                refine TS.reg [.none, .none, .none, .dec true] ?_ ?_
                · apply prop_of ?_ hq
                  kernel_rfl
                refine XS.then ?_
                refine TS.yes ?_ ?_
                · kernel_rfl
                refine TS.seq ?_
                have hq : (True) ∧ ((True) ∧ ((True) ∧ (True))) := ⟨trivial, ⟨trivial, ⟨trivial, trivial⟩⟩⟩
                refine TS.reg [] ?_ ?_
                · apply prop_of ?_ hq
                  kernel_rfl
                refine XS.then ?_
                refine TS.ret ?_
                refine XS.passR ?_
                obtain rfl : ((0 : Int), (0 : Int), (0 : Int)) = r := Option.some.inj h
                exact XS.fin [] ((True) ∧ ((True) ∧ ((True) ∧ (True)))) (by kernel_rfl) ⟨trivial, ⟨trivial, ⟨trivial, trivial⟩⟩⟩
              · have hq : (True) ∧ ((True) ∧ ((True) ∧ (((True) ∧ (((c.length : Nat) : Int) == (6 : Int)) = false) ∧ ((True) ∧ ((inR (0 : Int) c.length) ∧ ((True) ∧ ((True) ∧ (True)))))))) := ⟨trivial, ⟨trivial, ⟨trivial, ⟨⟨trivial, c41⟩, ⟨trivial, ⟨inb_ok t3, ⟨trivial, ⟨trivial, trivial⟩⟩⟩⟩⟩⟩⟩⟩
                refine TS.reg [.none, .none, .none, .dec false] ?_ ?_
                · apply prop_of ?_ hq
                  kernel_rfl
                refine XS.then ?_
                rcases bif_some h with ⟨c42, h⟩ | ⟨c43, h⟩
                · refine TS.cond ((((c.getD 0 0).toNat : Nat) : Int) == (37 : Int)) ?_ (fun hcz => ?_) (fun hcz => by rw [c42] at hcz; cases hcz)
                  · kernel_rfl
                  refine TS.seq ?_
                  have hq : (True) ∧ ((True) ∧ ((True) ∧ (True))) := ⟨trivial, ⟨trivial, ⟨trivial, trivial⟩⟩⟩
                  refine TS.reg [] ?_ ?_
                  · apply prop_of ?_ hq
                    kernel_rfl
                  refine XS.then ?_
                  refine TS.ret ?_
                  refine XS.passR ?_
                  obtain rfl : ((0 : Int), (0 : Int), (0 : Int)) = r := Option.some.inj h
                  exact XS.fin [] ((True) ∧ ((True) ∧ ((True) ∧ (True)))) (by kernel_rfl) ⟨trivial, ⟨trivial, ⟨trivial, trivial⟩⟩⟩
                · refine TS.cond ((((c.getD 0 0).toNat : Nat) : Int) == (37 : Int)) ?_ (fun hcz => by rw [c43] at hcz; cases hcz) (fun hcz => ?_)
                  · kernel_rfl
                  refine TS.skip ?_
                  refine XS.then ?_
                  refine TS.seq ?_
                  obtain ⟨t44, h⟩ := test_some h
                  obtain ⟨t45, h⟩ := test_some h
                  have hq : ((True) ∧ ((inR (7 : Int) c.length) ∧ ((True) ∧ ((True) ∧ ((True) ∧ ((inR (8 : Int) c.length) ∧ ((True) ∧ ((True) ∧ ((True) ∧ (True)))))))))) ∧ ((True) ∧ (True)) := ⟨⟨trivial, ⟨inb_ok t44, ⟨trivial, ⟨trivial, ⟨trivial, ⟨inb_ok t45, ⟨trivial, ⟨trivial, ⟨trivial, trivial⟩⟩⟩⟩⟩⟩⟩⟩⟩, ⟨trivial, trivial⟩⟩
                  refine TS.draw 9 [] [] (by kernel_rfl) ?_ ?_
                  · apply prop_of ?_ hq
                    kernel_rfl
                  refine XS.then ?_
                  refine TS.seq ?_
                  refine TS.seq ?_
                  have hq : ((0 < 4 ∧ True) ∧ ((1 < 4 ∧ True) ∧ ((2 < 4 ∧ True) ∧ ((3 < 4 ∧ True) ∧ (True))))) ∧ ((True) ∧ ((True) ∧ (True))) := ⟨⟨⟨by decide, trivial⟩, ⟨⟨by decide, trivial⟩, ⟨⟨by decide, trivial⟩, ⟨⟨by decide, trivial⟩, trivial⟩⟩⟩⟩, ⟨trivial, ⟨trivial, trivial⟩⟩⟩
                  refine TS.reg [] ?_ ?_
                  · apply prop_of ?_ hq
                    kernel_rfl
                  refine XS.then ?_
                  refine TS.block ?_
                  refine TS.reLoop [0, 2] (mkMask 107 [1, 2, 3, 11, 12, 74, 75, 76]) (D := Int × Int) (fun d => match d with | (lba_2, x_2) => (mkTs 107 [(1, (.str c)), (2, (.str data)), (3, (.ptr 0 [])), (11, (.int .i64 lba_2)), (12, (.int .i64 (IntKind.wrap .i64 ((IntKind.wrap .i64 ((IntKind.wrap .i64 ((((c.getD 7 0).toNat : Nat) : Int))) * (256 : Int))) + (IntKind.wrap .i64 ((((c.getD 8 0).toNat : Nat) : Int))))))), (74, (.row 1)), (75, (.int .i64 (([(2 : Int), (3 : Int), (4 : Int), (5 : Int)].length : Nat) : Int))), (76, (.int .i64 x_2))], [(.box 24 (.st (.cons (.sl .str d_Blocks) (.int .i64 d_Sense)))), (.row 3 (.int .i64) [(2 : Int), (3 : Int), (4 : Int), (5 : Int)])])) (fun n' d => loopF (F25_l14 n d_Blocks c data) n' d = some r) n ((0 : Int), (0 : Int)) h ?_ (fun d => loopF_zero _ d r) ?_
                  · kernel_rfl
                  · rintro n14 ⟨lba_2, x_2⟩ h
                    replace h : (bif (decide (x_2 < (([(2 : Int), (3 : Int), (4 : Int), (5 : Int)].length : Nat) : Int))) then (bif inb x_2 ([(2 : Int), (3 : Int), (4 : Int), (5 : Int)].length) then (bif inb ([(2 : Int), (3 : Int), (4 : Int), (5 : Int)].getD x_2.toNat (0 : Int)) c.length then ((loopF (F25_l14 n d_Blocks c data) n14) ((IntKind.wrap .i64 ((IntKind.wrap .i64 ((256 : Int) * lba_2)) + (IntKind.wrap .i64 ((((c.getD (([(2 : Int), (3 : Int), (4 : Int), (5 : Int)].getD x_2.toNat (0 : Int)).toNat) 0).toNat : Nat) : Int))))), (IntKind.wrap .i64 (x_2 + (1 : Int))))) else none) else none) else (bif (decide ((IntKind.wrap .i64 (lba_2 + (IntKind.wrap .i64 ((IntKind.wrap .i64 ((IntKind.wrap .i64 ((((c.getD 7 0).toNat : Nat) : Int))) * (256 : Int))) + (IntKind.wrap .i64 ((((c.getD 8 0).toNat : Nat) : Int))))))) > ((d_Blocks.length : Nat) : Int))) then (some ((33 : Int), (0 : Int), (0 : Int))) else (bif ((((c.getD 0 0).toNat : Nat) : Int) == (42 : Int)) then (bif (((data.length : Nat) : Int) != (IntKind.wrap .i64 ((16 : Int) * (IntKind.wrap .i64 ((IntKind.wrap .i64 ((IntKind.wrap .i64 ((((c.getD 7 0).toNat : Nat) : Int))) * (256 : Int))) + (IntKind.wrap .i64 ((((c.getD 8 0).toNat : Nat) : Int)))))))) then (some ((36 : Int), (0 : Int), (0 : Int))) else (some ((0 : Int), lba_2, (IntKind.wrap .i64 ((IntKind.wrap .i64 ((IntKind.wrap .i64 ((((c.getD 7 0).toNat : Nat) : Int))) * (256 : Int))) + (IntKind.wrap .i64 ((((c.getD 8 0).toNat : Nat) : Int)))))))) else (some ((0 : Int), lba_2, (IntKind.wrap .i64 ((IntKind.wrap .i64 ((IntKind.wrap .i64 ((((c.getD 7 0).toNat : Nat) : Int))) * (256 : Int))) + (IntKind.wrap .i64 ((((c.getD 8 0).toNat : Nat) : Int)))))))))) = some r := h
                    refine TS.seq ?_
                    have hq : (True) ∧ (True) := ⟨trivial, trivial⟩
                    refine TS.reg [] ?_ ?_
                    · apply prop_of ?_ hq
                      kernel_rfl
                    refine XS.then ?_
                    refine TS.seq ?_
                    rcases bif_some h with ⟨c46, h⟩ | ⟨c47, h⟩
                    · refine TS.cond (decide (x_2 < (([(2 : Int), (3 : Int), (4 : Int), (5 : Int)].length : Nat) : Int))) ?_ (fun hcz => ?_) (fun hcz => by rw [c46] at hcz; cases hcz)
                      · kernel_rfl
                      refine TS.skip ?_
                      refine XS.then ?_
                      refine TS.seq ?_
                      refine TS.block ?_
                      refine TS.seq ?_
                      obtain ⟨t48, h⟩ := test_some h
                      have hq : (inR x_2 ([(2 : Int), (3 : Int), (4 : Int), (5 : Int)].length)) ∧ ((x_2.toNat < [(2 : Int), (3 : Int), (4 : Int), (5 : Int)].length ∧ (True)) ∧ ((True) ∧ (True))) := ⟨inb_ok t48, ⟨⟨inR_lt (inb_ok t48), trivial⟩, ⟨trivial, trivial⟩⟩⟩
                      refine TS.reg [] ?_ ?_
                      · apply prop_of ?_ hq
                        kernel_rfl
                      refine XS.then ?_
                      obtain ⟨t49, h⟩ := test_some h
                      have hq : (True) ∧ ((True) ∧ ((True) ∧ ((True) ∧ ((inR ([(2 : Int), (3 : Int), (4 : Int), (5 : Int)].getD x_2.toNat (0 : Int)) c.length) ∧ ((True) ∧ ((True) ∧ ((True) ∧ (True)))))))) := ⟨trivial, ⟨trivial, ⟨trivial, ⟨trivial, ⟨inb_ok t49, ⟨trivial, ⟨trivial, ⟨trivial, trivial⟩⟩⟩⟩⟩⟩⟩⟩
                      refine TS.reg [] ?_ ?_
                      · apply prop_of ?_ hq
                        kernel_rfl
                      refine XS.blockEnd ?_
                      refine XS.then ?_
                      have hq : (True) ∧ ((True) ∧ (True)) := ⟨trivial, ⟨trivial, trivial⟩⟩
                      refine TS.reg [] ?_ ?_
                      · apply prop_of ?_ hq
                        kernel_rfl
                      refine XS.reAny [0, 1] (mkMask 107 [1, 2, 3, 11, 12, 74, 75, 76]) ((IntKind.wrap .i64 ((IntKind.wrap .i64 ((256 : Int) * lba_2)) + (IntKind.wrap .i64 ((((c.getD (([(2 : Int), (3 : Int), (4 : Int), (5 : Int)].getD x_2.toNat (0 : Int)).toNat) 0).toNat : Nat) : Int))))), (IntKind.wrap .i64 (x_2 + (1 : Int)))) h ?_
                      kernel_rfl
                    · refine TS.cond (decide (x_2 < (([(2 : Int), (3 : Int), (4 : Int), (5 : Int)].length : Nat) : Int))) ?_ (fun hcz => by rw [c47] at hcz; cases hcz) (fun hcz => ?_)
                      · kernel_rfl
                      refine TS.exit ?_
                      refine XS.passE ?_
                      refine XS.passE ?_
                      refine XS.out ?_
                      refine XS.then ?_
                      refine TS.seq ?_
                      refine TS.seq ?_
                      have hq : (True) ∧ ((True) ∧ ((True) ∧ ((True) ∧ ((True) ∧ ((True) ∧ ((True) ∧ (True))))))) := ⟨trivial, ⟨trivial, ⟨trivial, ⟨trivial, ⟨trivial, ⟨trivial, ⟨trivial, trivial⟩⟩⟩⟩⟩⟩⟩
                      refine TS.reg [] ?_ ?_
                      · apply prop_of ?_ hq
                        kernel_rfl
                      refine XS.then ?_
                      rcases bif_some h with ⟨c50, h⟩ | ⟨c51, h⟩
                      · refine TS.cond (decide ((IntKind.wrap .i64 (lba_2 + (IntKind.wrap .i64 ((IntKind.wrap .i64 ((IntKind.wrap .i64 ((((c.getD 7 0).toNat : Nat) : Int))) * (256 : Int))) + (IntKind.wrap .i64 ((((c.getD 8 0).toNat : Nat) : Int))))))) > ((d_Blocks.length : Nat) : Int))) ?_ (fun hcz => ?_) (fun hcz => by rw [c50] at hcz; cases hcz)
                        · kernel_rfl
                        refine TS.seq ?_
                        have hq : (True) ∧ ((True) ∧ ((True) ∧ (True))) := ⟨trivial, ⟨trivial, ⟨trivial, trivial⟩⟩⟩
                        refine TS.reg [] ?_ ?_
                        · apply prop_of ?_ hq
                          kernel_rfl
                        refine XS.then ?_
                        refine TS.ret ?_
                        refine XS.passR ?_
                        obtain rfl : ((33 : Int), (0 : Int), (0 : Int)) = r := Option.some.inj h
                        exact XS.fin [] ((True) ∧ ((True) ∧ ((True) ∧ (True)))) (by kernel_rfl) ⟨trivial, ⟨trivial, ⟨trivial, trivial⟩⟩⟩
                      · refine TS.cond (decide ((IntKind.wrap .i64 (lba_2 + (IntKind.wrap .i64 ((IntKind.wrap .i64 ((IntKind.wrap .i64 ((((c.getD 7 0).toNat : Nat) : Int))) * (256 : Int))) + (IntKind.wrap .i64 ((((c.getD 8 0).toNat : Nat) : Int))))))) > ((d_Blocks.length : Nat) : Int))) ?_ (fun hcz => by rw [c51] at hcz; cases hcz) (fun hcz => ?_)
                        · kernel_rfl
                        refine TS.skip ?_
                        refine XS.then ?_
                        refine TS.seq ?_
                        refine TS.seq ?_
                        rcases bif_some h with ⟨c52, h⟩ | ⟨c53, h⟩
                        · have hq : (True) ∧ ((inR (0 : Int) c.length) ∧ ((True) ∧ (((True) ∧ ((((c.getD 0 0).toNat : Nat) : Int) == (42 : Int)) = true) ∧ ((True) ∧ ((True) ∧ ((True) ∧ ((True) ∧ ((True) ∧ ((True) ∧ (True)))))))))) := ⟨trivial, ⟨inb_ok t3, ⟨trivial, ⟨⟨trivial, c52⟩, ⟨trivial, ⟨trivial, ⟨trivial, ⟨trivial, ⟨trivial, ⟨trivial, trivial⟩⟩⟩⟩⟩⟩⟩⟩⟩⟩
                          refine TS.reg [.none, .none, .none, .dec true] ?_ ?_
                          · apply prop_of ?_ hq
                            kernel_rfl
                          refine XS.then ?_
                          rcases bif_some h with ⟨c54, h⟩ | ⟨c55, h⟩
                          · refine TS.cond (((data.length : Nat) : Int) != (IntKind.wrap .i64 ((16 : Int) * (IntKind.wrap .i64 ((IntKind.wrap .i64 ((IntKind.wrap .i64 ((((c.getD 7 0).toNat : Nat) : Int))) * (256 : Int))) + (IntKind.wrap .i64 ((((c.getD 8 0).toNat : Nat) : Int)))))))) ?_ (fun hcz => ?_) (fun hcz => by rw [c54] at hcz; cases hcz)
                            · kernel_rfl
                            refine TS.seq ?_
                            have hq : (True) ∧ ((True) ∧ ((True) ∧ (True))) := ⟨trivial, ⟨trivial, ⟨trivial, trivial⟩⟩⟩
                            refine TS.reg [] ?_ ?_
                            · apply prop_of ?_ hq
                              kernel_rfl
                            refine XS.then ?_
                            refine TS.ret ?_
                            refine XS.passR ?_
                            obtain rfl : ((36 : Int), (0 : Int), (0 : Int)) = r := Option.some.inj h
                            exact XS.fin [] ((True) ∧ ((True) ∧ ((True) ∧ (True)))) (by kernel_rfl) ⟨trivial, ⟨trivial, ⟨trivial, trivial⟩⟩⟩
                          · refine TS.cond (((data.length : Nat) : Int) != (IntKind.wrap .i64 ((16 : Int) * (IntKind.wrap .i64 ((IntKind.wrap .i64 ((IntKind.wrap .i64 ((((c.getD 7 0).toNat : Nat) : Int))) * (256 : Int))) + (IntKind.wrap .i64 ((((c.getD 8 0).toNat : Nat) : Int)))))))) ?_ (fun hcz => by rw [c55] at hcz; cases hcz) (fun hcz => ?_)
                            · kernel_rfl
                            refine TS.skip ?_
                            refine XS.then ?_
                            refine TS.seq ?_
                            have hq : (True) ∧ ((True) ∧ ((True) ∧ ((True) ∧ ((True) ∧ (True))))) := ⟨trivial, ⟨trivial, ⟨trivial, ⟨trivial, ⟨trivial, trivial⟩⟩⟩⟩⟩
                            refine TS.reg [] ?_ ?_
                            · apply prop_of ?_ hq
                              kernel_rfl
                            refine XS.then ?_
                            refine TS.ret ?_
                            obtain rfl : ((0 : Int), lba_2, (IntKind.wrap .i64 ((IntKind.wrap .i64 ((IntKind.wrap .i64 ((((c.getD 7 0).toNat : Nat) : Int))) * (256 : Int))) + (IntKind.wrap .i64 ((((c.getD 8 0).toNat : Nat) : Int)))))) = r := Option.some.inj h
                            exact XS.fin [] ((True) ∧ ((True) ∧ ((True) ∧ (True)))) (by kernel_rfl) ⟨trivial, ⟨trivial, ⟨trivial, trivial⟩⟩⟩
                        · have hq : (True) ∧ ((inR (0 : Int) c.length) ∧ ((True) ∧ (((True) ∧ ((((c.getD 0 0).toNat : Nat) : Int) == (42 : Int)) = false) ∧ ((True) ∧ (True))))) := ⟨trivial, ⟨inb_ok t3, ⟨trivial, ⟨⟨trivial, c53⟩, ⟨trivial, trivial⟩⟩⟩⟩⟩
                          refine TS.reg [.none, .none, .none, .dec false] ?_ ?_
                          · apply prop_of ?_ hq
                            kernel_rfl
                          refine XS.then ?_
                          refine TS.no ?_ ?_
                          · kernel_rfl
                          refine TS.skip ?_
                          refine XS.then ?_
                          refine TS.seq ?_
                          have hq : (True) ∧ ((True) ∧ ((True) ∧ ((True) ∧ ((True) ∧ (True))))) := ⟨trivial, ⟨trivial, ⟨trivial, ⟨trivial, ⟨trivial, trivial⟩⟩⟩⟩⟩
                          refine TS.reg [] ?_ ?_
                          · apply prop_of ?_ hq
                            kernel_rfl
                          refine XS.then ?_
                          refine TS.ret ?_
                          obtain rfl : ((0 : Int), lba_2, (IntKind.wrap .i64 ((IntKind.wrap .i64 ((IntKind.wrap .i64 ((((c.getD 7 0).toNat : Nat) : Int))) * (256 : Int))) + (IntKind.wrap .i64 ((((c.getD 8 0).toNat : Nat) : Int)))))) = r := Option.some.inj h
                          exact XS.fin [] ((True) ∧ ((True) ∧ ((True) ∧ (True)))) (by kernel_rfl) ⟨trivial, ⟨trivial, ⟨trivial, trivial⟩⟩⟩

/-! plugtree/plugref.High -/
def F27_l2 (n : Nat) (vn : Int) (k27_2 : (Int × (List UInt8) × Int) → Option (List UInt8)) : (Int × (List UInt8) × Int) → Option (List UInt8)
  | (x_2, vout, x_3) => (bif (decide (x_3 < vn)) then (bif (decide ((strOf [(IntKind.wrap .u8 ((x_2.tmod (256 : Int))))]).length + vout.length ≤ 9223372036854775807)) then (k27_2 ((IntKind.wrap .i64 (x_2.tdiv (256 : Int))), ((strOf [(IntKind.wrap .u8 ((x_2.tmod (256 : Int))))]) ++ vout), (IntKind.wrap .i64 (x_3 + (1 : Int))))) else none) else (some vout))
def F27 (n : Nat) (x : Int) (vn : Int) : Option (List UInt8) := (loopF (F27_l2 n vn) n (x, ([] : List UInt8), (0 : Int)))
theorem F27_ok (n : Nat) (x : Int) (vn : Int) (r : List UInt8) (h : F27 n x vn = some r) : PureC Try.prog 27 [(.int .i64 x), (.int .i64 vn)] (.str r) [] := by
  refine PureC.mkS Try.func27 rfl rfl ?_
  intro w0 fz0 hfz
  replace h : (loopF (F27_l2 n vn) n (x, ([] : List UInt8), (0 : Int))) = some r := h
  refine TS.seq ?_
  have hq : (True) ∧ (True) := ⟨trivial, trivial⟩
  refine TS.reg [] ?_ ?_
  · apply prop_of ?_ hq
    kernel_rfl
  refine XS.then ?_
  refine TS.seq ?_
  have hq : (True) ∧ (True) := ⟨trivial, trivial⟩
  refine TS.reg [] ?_ ?_
  · apply prop_of ?_ hq
    kernel_rfl
  refine XS.then ?_
  refine TS.seq ?_
  refine TS.seq ?_
  have hq : (True) ∧ ((True) ∧ (True)) := ⟨trivial, ⟨trivial, trivial⟩⟩
  refine TS.reg [] ?_ ?_
  · apply prop_of ?_ hq
    kernel_rfl
  refine XS.then ?_
  refine TS.block ?_
  refine TS.reLoop [] (mkMask 20 [0, 5, 6, 7]) (D := Int × (List UInt8) × Int) (fun d => match d with | (x_2, vout, x_3) => (mkTs 20 [(0, (.int .i64 x_2)), (5, (.str vout)), (6, (.int .i64 vn)), (7, (.int .i64 x_3))], [])) (fun n' d => loopF (F27_l2 n vn) n' d = some r) n (x, ([] : List UInt8), (0 : Int)) h ?_ (fun d => loopF_zero _ d r) ?_
  · kernel_rfl
  · rintro n2 ⟨x_2, vout, x_3⟩ h
    replace h : (bif (decide (x_3 < vn)) then (bif (decide ((strOf [(IntKind.wrap .u8 ((x_2.tmod (256 : Int))))]).length + vout.length ≤ 9223372036854775807)) then ((loopF (F27_l2 n vn) n2) ((IntKind.wrap .i64 (x_2.tdiv (256 : Int))), ((strOf [(IntKind.wrap .u8 ((x_2.tmod (256 : Int))))]) ++ vout), (IntKind.wrap .i64 (x_3 + (1 : Int))))) else none) else (some vout)) = some r := h
    refine TS.seq ?_
    have hq : (True) ∧ (True) := ⟨trivial, trivial⟩
    refine TS.reg [] ?_ ?_
    · apply prop_of ?_ hq
      kernel_rfl
    refine XS.then ?_
    refine TS.seq ?_
    rcases bif_some h with ⟨c1, h⟩ | ⟨c2, h⟩
    · refine TS.cond (decide (x_3 < vn)) ?_ (fun hcz => ?_) (fun hcz => by rw [c1] at hcz; cases hcz)
      · kernel_rfl
      refine TS.skip ?_
      refine XS.then ?_
      refine TS.seq ?_
      refine TS.block ?_
      refine TS.seq ?_
      obtain ⟨t3, h⟩ := test_some h
      have hq : (True) ∧ (((256 : Int) ≠ 0) ∧ ((True) ∧ (((0 < 1 ∧ True) ∧ (True)) ∧ ((True) ∧ ((True) ∧ (((strOf [(IntKind.wrap .u8 ((x_2.tmod (256 : Int))))]).length + vout.length ≤ 9223372036854775807) ∧ ((True) ∧ (True)))))))) := ⟨trivial, ⟨by decide, ⟨trivial, ⟨⟨⟨by decide, trivial⟩, trivial⟩, ⟨trivial, ⟨trivial, ⟨of_decide_eq_true t3, ⟨trivial, trivial⟩⟩⟩⟩⟩⟩⟩⟩
      refine TS.reg [] ?_ ?_
      · apply prop_of ?_ hq
        kernel_rfl
      refine XS.then ?_
      have hq : (True) ∧ (((256 : Int) ≠ 0) ∧ ((True) ∧ (True))) := ⟨trivial, ⟨by decide, ⟨trivial, trivial⟩⟩⟩
      refine TS.reg [] ?_ ?_
      · apply prop_of ?_ hq
        kernel_rfl
      refine XS.blockEnd ?_
      refine XS.then ?_
      have hq : (True) ∧ ((True) ∧ (True)) := ⟨trivial, ⟨trivial, trivial⟩⟩
      refine TS.reg [] ?_ ?_
      · apply prop_of ?_ hq
        kernel_rfl
      refine XS.reAny [] (mkMask 20 [0, 5, 6, 7]) ((IntKind.wrap .i64 (x_2.tdiv (256 : Int))), ((strOf [(IntKind.wrap .u8 ((x_2.tmod (256 : Int))))]) ++ vout), (IntKind.wrap .i64 (x_3 + (1 : Int)))) h ?_
      kernel_rfl
    · refine TS.cond (decide (x_3 < vn)) ?_ (fun hcz => by rw [c2] at hcz; cases hcz) (fun hcz => ?_)
      · kernel_rfl
      refine TS.exit ?_
      refine XS.passE ?_
      refine XS.passE ?_
      refine XS.out ?_
      refine XS.then ?_
      refine TS.seq ?_
      have hq : (True) ∧ ((True) ∧ (True)) := ⟨trivial, ⟨trivial, trivial⟩⟩
      refine TS.reg [] ?_ ?_
      · apply prop_of ?_ hq
        kernel_rfl
      refine XS.then ?_
      refine TS.ret ?_
      obtain rfl : vout = r := Option.some.inj h
      exact XS.fin [] ((True) ∧ (True)) (by kernel_rfl) ⟨trivial, trivial⟩

/-! plugtree/plugref.DiskDone -/
def F9_l7 (n : Nat) (vout_2 : List UInt8) (k9_7 : ((List UInt8) × (List (List UInt8))) → Option ((List (List UInt8)) × Int × (List UInt8) × Int)) : ((List UInt8) × (List (List UInt8))) → Option ((List (List UInt8)) × Int × (List UInt8) × Int)
  | (all_2, m2) => (bif (!(all_2 == ([] : List UInt8))) then (bif subB all_2.length none (some (16 : Int)) then (bif (decide (m2.length + [(all_2.take 16)].length ≤ 8796093022208)) then (bif subB all_2.length (some (16 : Int)) none then (k9_7 ((all_2.drop 16), (m2 ++ [(all_2.take 16)]))) else none) else none) else none) else (some (m2, (0 : Int), vout_2, (0 : Int))))
def F9_j6 (n : Nat) (all : List UInt8) : (List UInt8) → Option ((List (List UInt8)) × Int × (List UInt8) × Int)
  | vout_2 => (loopF (F9_l7 n vout_2) n (all, ([] : List (List UInt8))))
def F9_l8 (n : Nat) (vout : List UInt8) (k9_8 : ((List UInt8) × (List (List UInt8))) → Option ((List (List UInt8)) × Int × (List UInt8) × Int)) : ((List UInt8) × (List (List UInt8))) → Option ((List (List UInt8)) × Int × (List UInt8) × Int)
  | (all_3, m2_2) => (bif (!(all_3 == ([] : List UInt8))) then (bif subB all_3.length none (some (16 : Int)) then (bif (decide (m2_2.length + [(all_3.take 16)].length ≤ 8796093022208)) then (bif subB all_3.length (some (16 : Int)) none then (k9_8 ((all_3.drop 16), (m2_2 ++ [(all_3.take 16)]))) else none) else none) else none) else (some (m2_2, (0 : Int), vout, (0 : Int))))
def F9_j5 (n : Nat) (c : List UInt8) : ((List UInt8) × (List UInt8)) → Option ((List (List UInt8)) × Int × (List UInt8) × Int)
  | (all, vout) => (bif (((c.length : Nat) : Int) == (6 : Int)) then (bif inb (4 : Int) c.length then (bif (decide (((vout.length : Nat) : Int) > (IntKind.wrap .i64 ((((c.getD 4 0).toNat : Nat) : Int))))) then (bif subB vout.length none (some (((c.getD 4 0).toNat : Nat) : Int)) then (F9_j6 n all (vout.take (((c.getD 4 0).toNat : Nat) : Int).toNat)) else none) else (F9_j6 n all vout)) else none) else (loopF (F9_l8 n vout) n (all, ([] : List (List UInt8)))))
def F9 (n : Nat) (d_Blocks : List (List UInt8)) (d_Sense : Int) (c : List UInt8) (data : List UInt8) : Option ((List (List UInt8)) × Int × (List UInt8) × Int) := ((F24 n d_Blocks d_Sense).bind fun y_5 => (bif (y_5 != (0 : Int)) then (some (d_Blocks, d_Sense, ([] : List UInt8), y_5)) else ((F25 n d_Blocks d_Sense c data).bind fun y_6 => (bif (decide (y_6.1 > (0 : Int))) then (some (d_Blocks, y_6.1, ([] : List UInt8), (14 : Int))) else ((F26 n d_Blocks ([] : List UInt8)).bind fun y_7 => (bif inb (0 : Int) c.length then (bif ((((c.getD 0 0).toNat : Nat) : Int) == (3 : Int)) then ((F27 n (if (5 : Int) < d_Sense then (5 : Int) else d_Sense) (1 : Int)).bind fun y_8 => (bif (decide (([112, 0] : List UInt8).length + y_8.length ≤ 9223372036854775807)) then (bif (decide ((([112, 0] : List UInt8) ++ y_8).length + ([0, 0, 0, 0, 10, 0, 0, 0, 0] : List UInt8).length ≤ 9223372036854775807)) then ((F27 n d_Sense (1 : Int)).bind fun y_9 => (bif (decide (((([112, 0] : List UInt8) ++ y_8) ++ ([0, 0, 0, 0, 10, 0, 0, 0, 0] : List UInt8)).length + y_9.length ≤ 9223372036854775807)) then (bif (decide ((((([112, 0] : List UInt8) ++ y_8) ++ ([0, 0, 0, 0, 10, 0, 0, 0, 0] : List UInt8)) ++ y_9).length + ([0, 0, 0, 0, 0] : List UInt8).length ≤ 9223372036854775807)) then (F9_j5 n c (y_7, ((((([112, 0] : List UInt8) ++ y_8) ++ ([0, 0, 0, 0, 10, 0, 0, 0, 0] : List UInt8)) ++ y_9) ++ ([0, 0, 0, 0, 0] : List UInt8)))) else none) else none)) else none) else none)) else (bif ((((c.getD 0 0).toNat : Nat) : Int) == (18 : Int)) then (F9_j5 n c (y_7, ([0, 128, 4, 2, 31, 0, 0, 0, 112, 108, 117, 103, 116, 114, 101, 101, 100, 105, 115, 107, 32, 32, 32, 32, 32, 32, 32, 32, 32, 32, 32, 32, 49, 32, 32, 32] : List UInt8))) else (bif ((((c.getD 0 0).toNat : Nat) : Int) == (26 : Int)) then (F9_j5 n c (y_7, ([3, 0, 0, 0] : List UInt8))) else (bif ((((c.getD 0 0).toNat : Nat) : Int) == (37 : Int)) then ((F27 n (IntKind.wrap .i64 (((d_Blocks.length : Nat) : Int) - (1 : Int))) (4 : Int)).bind fun y_10 => ((F27 n (16 : Int) (4 : Int)).bind fun y_11 => (bif (decide (y_10.length + y_11.length ≤ 9223372036854775807)) then (F9_j5 n c (y_7, (y_10 ++ y_11))) else none))) else (bif ((((c.getD 0 0).toNat : Nat) : Int) == (40 : Int)) then (bif subB y_7.length (some (IntKind.wrap .i64 ((16 : Int) * y_6.2.1))) (some (IntKind.wrap .i64 ((16 : Int) * (IntKind.wrap .i64 (y_6.2.1 + y_6.2.2))))) then (F9_j5 n c (y_7, ((y_7.take (IntKind.wrap .i64 ((16 : Int) * (IntKind.wrap .i64 (y_6.2.1 + y_6.2.2)))).toNat).drop (IntKind.wrap .i64 ((16 : Int) * y_6.2.1)).toNat))) else none) else (bif ((((c.getD 0 0).toNat : Nat) : Int) == (42 : Int)) then (bif subB y_7.length none (some (IntKind.wrap .i64 ((16 : Int) * y_6.2.1))) then (bif (decide ((y_7.take (IntKind.wrap .i64 ((16 : Int) * y_6.2.1)).toNat).length + data.length ≤ 9223372036854775807)) then (bif subB y_7.length (some (IntKind.wrap .i64 ((16 : Int) * (IntKind.wrap .i64 (y_6.2.1 + y_6.2.2))))) none then (bif (decide (((y_7.take (IntKind.wrap .i64 ((16 : Int) * y_6.2.1)).toNat) ++ data).length + (y_7.drop (IntKind.wrap .i64 ((16 : Int) * (IntKind.wrap .i64 (y_6.2.1 + y_6.2.2)))).toNat).length ≤ 9223372036854775807)) then (F9_j5 n c ((((y_7.take (IntKind.wrap .i64 ((16 : Int) * y_6.2.1)).toNat) ++ data) ++ (y_7.drop (IntKind.wrap .i64 ((16 : Int) * (IntKind.wrap .i64 (y_6.2.1 + y_6.2.2)))).toNat)), ([] : List UInt8))) else none) else none) else none) else none) else (F9_j5 n c (y_7, ([] : List UInt8))))))))) else none))))))
theorem F9_ok (n : Nat) (d_Blocks : List (List UInt8)) (d_Sense : Int) (c : List UInt8) (data : List UInt8) (r : (List (List UInt8)) × Int × (List UInt8) × Int) (h : F9 n d_Blocks d_Sense c data = some r) : PureC Try.prog 9 [(.st (.cons (.sl .str d_Blocks) (.int .i64 d_Sense))), (.str c), (.str data)] (.tup (.cons (.st (.cons (.sl .str r.1) (.int .i64 r.2.1))) (.cons (.str r.2.2.1) (.cons (.int .i64 r.2.2.2) .nil)))) [] := by
  refine PureC.mkS Try.func9 rfl rfl ?_
  intro w0 fz0 hfz
  replace h : ((F24 n d_Blocks d_Sense).bind fun y_5 => (bif (y_5 != (0 : Int)) then (some (d_Blocks, d_Sense, ([] : List UInt8), y_5)) else ((F25 n d_Blocks d_Sense c data).bind fun y_6 => (bif (decide (y_6.1 > (0 : Int))) then (some (d_Blocks, y_6.1, ([] : List UInt8), (14 : Int))) else ((F26 n d_Blocks ([] : List UInt8)).bind fun y_7 => (bif inb (0 : Int) c.length then (bif ((((c.getD 0 0).toNat : Nat) : Int) == (3 : Int)) then ((F27 n (if (5 : Int) < d_Sense then (5 : Int) else d_Sense) (1 : Int)).bind fun y_8 => (bif (decide (([112, 0] : List UInt8).length + y_8.length ≤ 9223372036854775807)) then (bif (decide ((([112, 0] : List UInt8) ++ y_8).length + ([0, 0, 0, 0, 10, 0, 0, 0, 0] : List UInt8).length ≤ 9223372036854775807)) then ((F27 n d_Sense (1 : Int)).bind fun y_9 => (bif (decide (((([112, 0] : List UInt8) ++ y_8) ++ ([0, 0, 0, 0, 10, 0, 0, 0, 0] : List UInt8)).length + y_9.length ≤ 9223372036854775807)) then (bif (decide ((((([112, 0] : List UInt8) ++ y_8) ++ ([0, 0, 0, 0, 10, 0, 0, 0, 0] : List UInt8)) ++ y_9).length + ([0, 0, 0, 0, 0] : List UInt8).length ≤ 9223372036854775807)) then (F9_j5 n c (y_7, ((((([112, 0] : List UInt8) ++ y_8) ++ ([0, 0, 0, 0, 10, 0, 0, 0, 0] : List UInt8)) ++ y_9) ++ ([0, 0, 0, 0, 0] : List UInt8)))) else none) else none)) else none) else none)) else (bif ((((c.getD 0 0).toNat : Nat) : Int) == (18 : Int)) then (F9_j5 n c (y_7, ([0, 128, 4, 2, 31, 0, 0, 0, 112, 108, 117, 103, 116, 114, 101, 101, 100, 105, 115, 107, 32, 32, 32, 32, 32, 32, 32, 32, 32, 32, 32, 32, 49, 32, 32, 32] : List UInt8))) else (bif ((((c.getD 0 0).toNat : Nat) : Int) == (26 : Int)) then (F9_j5 n c (y_7, ([3, 0, 0, 0] : List UInt8))) else (bif ((((c.getD 0 0).toNat : Nat) : Int) == (37 : Int)) then ((F27 n (IntKind.wrap .i64 (((d_Blocks.length : Nat) : Int) - (1 : Int))) (4 : Int)).bind fun y_10 => ((F27 n (16 : Int) (4 : Int)).bind fun y_11 => (bif (decide (y_10.length + y_11.length ≤ 9223372036854775807)) then (F9_j5 n c (y_7, (y_10 ++ y_11))) else none))) else (bif ((((c.getD 0 0).toNat : Nat) : Int) == (40 : Int)) then (bif subB y_7.length (some (IntKind.wrap .i64 ((16 : Int) * y_6.2.1))) (some (IntKind.wrap .i64 ((16 : Int) * (IntKind.wrap .i64 (y_6.2.1 + y_6.2.2))))) then (F9_j5 n c (y_7, ((y_7.take (IntKind.wrap .i64 ((16 : Int) * (IntKind.wrap .i64 (y_6.2.1 + y_6.2.2)))).toNat).drop (IntKind.wrap .i64 ((16 : Int) * y_6.2.1)).toNat))) else none) else (bif ((((c.getD 0 0).toNat : Nat) : Int) == (42 : Int)) then (bif subB y_7.length none (some (IntKind.wrap .i64 ((16 : Int) * y_6.2.1))) then (bif (decide ((y_7.take (IntKind.wrap .i64 ((16 : Int) * y_6.2.1)).toNat).length + data.length ≤ 9223372036854775807)) then (bif subB y_7.length (some (IntKind.wrap .i64 ((16 : Int) * (IntKind.wrap .i64 (y_6.2.1 + y_6.2.2))))) none then (bif (decide (((y_7.take (IntKind.wrap .i64 ((16 : Int) * y_6.2.1)).toNat) ++ data).length + (y_7.drop (IntKind.wrap .i64 ((16 : Int) * (IntKind.wrap .i64 (y_6.2.1 + y_6.2.2)))).toNat).length ≤ 9223372036854775807)) then (F9_j5 n c ((((y_7.take (IntKind.wrap .i64 ((16 : Int) * y_6.2.1)).toNat) ++ data) ++ (y_7.drop (IntKind.wrap .i64 ((16 : Int) * (IntKind.wrap .i64 (y_6.2.1 + y_6.2.2)))).toNat)), ([] : List UInt8))) else none) else none) else none) else none) else (F9_j5 n c (y_7, ([] : List UInt8))))))))) else none)))))) = some r := h
  refine TS.seq ?_
  have hq : (True) ∧ ((True) ∧ ((True) ∧ ((True) ∧ (True)))) := ⟨trivial, ⟨trivial, ⟨trivial, ⟨trivial, trivial⟩⟩⟩⟩
  refine TS.reg [] ?_ ?_
  · apply prop_of ?_ hq
    kernel_rfl
  refine XS.then ?_
  refine TS.seq ?_
  refine TS.seq ?_
  obtain ⟨y_5, hx1, h⟩ := bind_some' h
  have hq : (True) ∧ ((PureC Try.prog 24 [(.st (.cons (.sl .str d_Blocks) (.int .i64 d_Sense)))] (.int .i64 y_5) []) ∧ ((True) ∧ (True))) := ⟨trivial, ⟨F24_ok n d_Blocks d_Sense y_5 hx1, ⟨trivial, trivial⟩⟩⟩
  refine TS.reg [.none, (.call (.int .i64 y_5) [])] ?_ ?_
  · apply prop_of ?_ hq
    kernel_rfl
  refine XS.then ?_
  refine TS.seq ?_
  have hq : (True) ∧ ((True) ∧ (True)) := ⟨trivial, ⟨trivial, trivial⟩⟩
  refine TS.reg [] ?_ ?_
  · apply prop_of ?_ hq
    kernel_rfl
  refine XS.then ?_
  rcases bif_some h with ⟨c2, h⟩ | ⟨c3, h⟩
  · refine TS.cond (y_5 != (0 : Int)) ?_ (fun hcz => ?_) (fun hcz => by rw [c2] at hcz; cases hcz)
    · kernel_rfl
    refine TS.seq ?_
    have hq : (True) ∧ ((True) ∧ ((True) ∧ ((True) ∧ ((True) ∧ (True))))) := ⟨trivial, ⟨trivial, ⟨trivial, ⟨trivial, ⟨trivial, trivial⟩⟩⟩⟩⟩
    refine TS.reg [] ?_ ?_
    · apply prop_of ?_ hq
      kernel_rfl
    refine XS.then ?_
    refine TS.ret ?_
    refine XS.passR ?_
    obtain rfl : (d_Blocks, d_Sense, ([] : List UInt8), y_5) = r := Option.some.inj h
    exact XS.fin [] ((True) ∧ ((True) ∧ ((True) ∧ (True)))) (by kernel_rfl) ⟨trivial, ⟨trivial, ⟨trivial, trivial⟩⟩⟩
  · refine TS.cond (y_5 != (0 : Int)) ?_ (fun hcz => by rw [c3] at hcz; cases hcz) (fun hcz => ?_)
    · kernel_rfl
    refine TS.skip ?_
    refine XS.then ?_
    refine TS.seq ?_
    obtain ⟨y_6, hx4, h⟩ := bind_some' h
    have hq : (True) ∧ ((True) ∧ ((True) ∧ ((PureC Try.prog 25 [(.st (.cons (.sl .str d_Blocks) (.int .i64 d_Sense))), (.str c), (.str data)] (.tup (.cons (.int .i64 y_6.1) (.cons (.int .i64 y_6.2.1) (.cons (.int .i64 y_6.2.2) .nil)))) []) ∧ ((True) ∧ ((True) ∧ ((True) ∧ ((True) ∧ ((True) ∧ ((True) ∧ ((True) ∧ (True))))))))))) := ⟨trivial, ⟨trivial, ⟨trivial, ⟨F25_ok n d_Blocks d_Sense c data y_6 hx4, ⟨trivial, ⟨trivial, ⟨trivial, ⟨trivial, ⟨trivial, ⟨trivial, ⟨trivial, trivial⟩⟩⟩⟩⟩⟩⟩⟩⟩⟩⟩
    refine TS.reg [.none, .none, .none, (.call (.tup (.cons (.int .i64 y_6.1) (.cons (.int .i64 y_6.2.1) (.cons (.int .i64 y_6.2.2) .nil)))) [])] ?_ ?_
    · apply prop_of ?_ hq
      kernel_rfl
    refine XS.then ?_
    refine TS.seq ?_
    refine TS.seq ?_
    have hq : (True) ∧ ((True) ∧ (True)) := ⟨trivial, ⟨trivial, trivial⟩⟩
    refine TS.reg [] ?_ ?_
    · apply prop_of ?_ hq
      kernel_rfl
    refine XS.then ?_
    rcases bif_some h with ⟨c5, h⟩ | ⟨c6, h⟩
    · refine TS.cond (decide (y_6.1 > (0 : Int))) ?_ (fun hcz => ?_) (fun hcz => by rw [c5] at hcz; cases hcz)
      · kernel_rfl
      refine TS.seq ?_
      have hq : (True) ∧ ((True) ∧ ((True) ∧ (((True) ∧ ((True) ∧ (True))) ∧ ((True) ∧ ((True) ∧ ((True) ∧ (True))))))) := ⟨trivial, ⟨trivial, ⟨trivial, ⟨⟨trivial, ⟨trivial, trivial⟩⟩, ⟨trivial, ⟨trivial, ⟨trivial, trivial⟩⟩⟩⟩⟩⟩⟩
      refine TS.reg [] ?_ ?_
      · apply prop_of ?_ hq
        kernel_rfl
      refine XS.then ?_
      refine TS.ret ?_
      refine XS.passR ?_
      obtain rfl : (d_Blocks, y_6.1, ([] : List UInt8), (14 : Int)) = r := Option.some.inj h
      exact XS.fin [] ((True) ∧ ((True) ∧ ((True) ∧ (True)))) (by kernel_rfl) ⟨trivial, ⟨trivial, ⟨trivial, trivial⟩⟩⟩
    · refine TS.cond (decide (y_6.1 > (0 : Int))) ?_ (fun hcz => by rw [c6] at hcz; cases hcz) (fun hcz => ?_)
      · kernel_rfl
      refine TS.skip ?_
      refine XS.then ?_
      refine TS.seq ?_
      obtain ⟨y_7, hx7, h⟩ := bind_some' h
      have hq : (True) ∧ ((True) ∧ ((PureC Try.prog 26 [(.sl .str d_Blocks), (.str ([] : List UInt8))] (.str y_7) []) ∧ ((True) ∧ (True)))) := ⟨trivial, ⟨trivial, ⟨F26_ok n d_Blocks ([] : List UInt8) y_7 hx7, ⟨trivial, trivial⟩⟩⟩⟩
      refine TS.reg [.none, .none, (.call (.str y_7) [])] ?_ ?_
      · apply prop_of ?_ hq
        kernel_rfl
      refine XS.then ?_
      refine TS.seq ?_
      have hq : (True) ∧ (True) := ⟨trivial, trivial⟩
      refine TS.reg [] ?_ ?_
      · apply prop_of ?_ hq
        kernel_rfl
      refine XS.then ?_
      refine TS.seq ?_
      refine TS.seq ?_
      obtain ⟨t8, h⟩ := test_some h
      have hq : (True) ∧ ((inR (0 : Int) c.length) ∧ (True)) := ⟨trivial, ⟨inb_ok t8, trivial⟩⟩
      refine TS.reg [] ?_ ?_
      · apply prop_of ?_ hq
        kernel_rfl
      refine XS.then ?_
      refine TS.cut (D := (List UInt8) × (List UInt8)) (fun d => match d with | (all, vout) => (mkTs 123 [(1, (.str c)), (6, (.ptr 0 [])), (13, (.str all)), (14, (.str vout))], [(.box 24 (.st (.cons .nilS (.int .i64 (0 : Int)))))])) (fun d => F9_j5 n c d = some r) ?_ ?_
      · rintro ⟨all, vout⟩ h
        replace h : (bif (((c.length : Nat) : Int) == (6 : Int)) then (bif inb (4 : Int) c.length then (bif (decide (((vout.length : Nat) : Int) > (IntKind.wrap .i64 ((((c.getD 4 0).toNat : Nat) : Int))))) then (bif subB vout.length none (some (((c.getD 4 0).toNat : Nat) : Int)) then (F9_j6 n all (vout.take (((c.getD 4 0).toNat : Nat) : Int).toNat)) else none) else (F9_j6 n all vout)) else none) else (loopF (F9_l8 n vout) n (all, ([] : List (List UInt8))))) = some r := h
        refine XS.then ?_
        refine TS.seq ?_
        refine TS.seq ?_
        rcases bif_some h with ⟨c9, h⟩ | ⟨c10, h⟩
        · obtain ⟨t11, h⟩ := test_some h
          have hq : (True) ∧ ((True) ∧ ((True) ∧ (((True) ∧ (((c.length : Nat) : Int) == (6 : Int)) = true) ∧ ((True) ∧ ((True) ∧ ((True) ∧ ((inR (4 : Int) c.length) ∧ ((True) ∧ ((True) ∧ ((True) ∧ (True))))))))))) := ⟨trivial, ⟨trivial, ⟨trivial, ⟨⟨trivial, c9⟩, ⟨trivial, ⟨trivial, ⟨trivial, ⟨inb_ok t11, ⟨trivial, ⟨trivial, ⟨trivial, trivial⟩⟩⟩⟩⟩⟩⟩⟩⟩⟩⟩
          refine TS.reg [.none, .none, .none, .dec true] ?_ ?_
          · apply prop_of ?_ hq
            kernel_rfl
          refine XS.then ?_
          refine TS.cut (D := List UInt8) (fun d => match d with | vout_2 => (mkTs 123 [(6, (.ptr 0 [])), (13, (.str all)), (14, (.str vout_2))], [(.box 24 (.st (.cons .nilS (.int .i64 (0 : Int)))))])) (fun d => F9_j6 n all d = some r) ?_ ?_
          · rintro vout_2 h
            replace h : (loopF (F9_l7 n vout_2) n (all, ([] : List (List UInt8)))) = some r := h
            refine XS.then ?_
            refine TS.seq ?_
            have hq : (True) ∧ ((True) ∧ ((True) ∧ (True))) := ⟨trivial, ⟨trivial, ⟨trivial, trivial⟩⟩⟩
            refine TS.reg [] ?_ ?_
            · apply prop_of ?_ hq
              kernel_rfl
            refine XS.then ?_
            refine TS.seq ?_
            refine TS.block ?_
            refine TS.wk (.row true 1 [false] 9 .str) ?_
            refine TS.reLoop [0, 1, 2] (mkMask 123 [6, 13, 14, 16]) (D := (List UInt8) × (List (List UInt8))) (fun d => match d with | (all_2, m2) => (mkTs 123 [(6, (.ptr 0 [])), (13, (.str all_2)), (14, (.str vout_2)), (16, (.ptr 1 []))], [(.box 24 (.st (.cons .nilS (.int .i64 (0 : Int))))), (.box 24 (.st (.cons (.row 2) (.int .i64 (0 : Int))))), (.row 9 .str m2)])) (fun n' d => loopF (F9_l7 n vout_2) n' d = some r) n (all, ([] : List (List UInt8))) h ?_ (fun d => loopF_zero _ d r) ?_
            · kernel_rfl
            · rintro n7 ⟨all_2, m2⟩ h
              replace h : (bif (!(all_2 == ([] : List UInt8))) then (bif subB all_2.length none (some (16 : Int)) then (bif (decide (m2.length + [(all_2.take 16)].length ≤ 8796093022208)) then (bif subB all_2.length (some (16 : Int)) none then ((loopF (F9_l7 n vout_2) n7) ((all_2.drop 16), (m2 ++ [(all_2.take 16)]))) else none) else none) else none) else (some (m2, (0 : Int), vout_2, (0 : Int)))) = some r := h
              refine TS.seq ?_
              refine TS.seq ?_
              have hq : (True) ∧ ((True) ∧ (True)) := ⟨trivial, ⟨trivial, trivial⟩⟩
              refine TS.reg [] ?_ ?_
              · apply prop_of ?_ hq
                kernel_rfl
              refine XS.then ?_
              rcases bif_some h with ⟨c12, h⟩ | ⟨c13, h⟩
              · refine TS.cond (!(all_2 == ([] : List UInt8))) ?_ (fun hcz => ?_) (fun hcz => by rw [c12] at hcz; cases hcz)
                · kernel_rfl
                refine TS.skip ?_
                refine XS.then ?_
                refine TS.seq ?_
                refine TS.block ?_
                obtain ⟨t14, h⟩ := test_some h
                obtain ⟨t15, h⟩ := test_some h
                have hq : ((True) ∧ ((True) ∧ ((True) ∧ ((subC all_2.length none (some (16 : Int))) ∧ (((0 < 1 ∧ True) ∧ (True)) ∧ (True)))))) ∧ ((m2.length + [(all_2.take 16)].length ≤ 8796093022208) ∧ ((True) ∧ ((True) ∧ (True)))) := ⟨⟨trivial, ⟨trivial, ⟨trivial, ⟨subB_ok t14, ⟨⟨⟨by decide, trivial⟩, trivial⟩, trivial⟩⟩⟩⟩⟩, ⟨of_decide_eq_true t15, ⟨trivial, ⟨trivial, trivial⟩⟩⟩⟩
                refine TS.draw 5 [] [] (by kernel_rfl) ?_ ?_
                · apply prop_of ?_ hq
                  kernel_rfl
                refine XS.blockEnd ?_
                refine XS.then ?_
                obtain ⟨t16, h⟩ := test_some h
                have hq : (True) ∧ ((subC all_2.length (some (16 : Int)) none) ∧ ((True) ∧ (True))) := ⟨trivial, ⟨subB_ok t16, ⟨trivial, trivial⟩⟩⟩
                refine TS.reg [] ?_ ?_
                · apply prop_of ?_ hq
                  kernel_rfl
                refine XS.reAny [0, 1, 4] (mkMask 123 [6, 13, 14, 16]) ((all_2.drop 16), (m2 ++ [(all_2.take 16)])) h ?_
                kernel_rfl
              · refine TS.cond (!(all_2 == ([] : List UInt8))) ?_ (fun hcz => by rw [c13] at hcz; cases hcz) (fun hcz => ?_)
                · kernel_rfl
                refine TS.exit ?_
                refine XS.passE ?_
                refine XS.passE ?_
                refine XS.out ?_
                refine XS.then ?_
                refine TS.seq ?_
                have hq : (True) ∧ ((True) ∧ ((True) ∧ ((True) ∧ ((True) ∧ (True))))) := ⟨trivial, ⟨trivial, ⟨trivial, ⟨trivial, ⟨trivial, trivial⟩⟩⟩⟩⟩
                refine TS.reg [] ?_ ?_
                · apply prop_of ?_ hq
                  kernel_rfl
                refine XS.then ?_
                refine TS.ret ?_
                obtain rfl : (m2, (0 : Int), vout_2, (0 : Int)) = r := Option.some.inj h
                refine XS.wk (.frz 2) ?_
                exact XS.fin [] ((True) ∧ ((True) ∧ ((True) ∧ (True)))) (by kernel_rfl) ⟨trivial, ⟨trivial, ⟨trivial, trivial⟩⟩⟩
          · rcases bif_some h with ⟨c17, h⟩ | ⟨c18, h⟩
            · refine TS.cond (decide (((vout.length : Nat) : Int) > (IntKind.wrap .i64 ((((c.getD 4 0).toNat : Nat) : Int))))) ?_ (fun hcz => ?_) (fun hcz => by rw [c17] at hcz; cases hcz)
              · kernel_rfl
              obtain ⟨t19, h⟩ := test_some h
              have hq : (True) ∧ ((True) ∧ ((inR (4 : Int) c.length) ∧ ((subC vout.length none (some (((c.getD 4 0).toNat : Nat) : Int))) ∧ ((True) ∧ (True))))) := ⟨trivial, ⟨trivial, ⟨inb_ok t11, ⟨subB_ok t19, ⟨trivial, trivial⟩⟩⟩⟩⟩
              refine TS.reg [] ?_ ?_
              · apply prop_of ?_ hq
                kernel_rfl
              refine XS.reAny [0] (mkMask 123 [6, 13, 14]) (vout.take (((c.getD 4 0).toNat : Nat) : Int).toNat) h ?_
              kernel_rfl
            · refine TS.cond (decide (((vout.length : Nat) : Int) > (IntKind.wrap .i64 ((((c.getD 4 0).toNat : Nat) : Int))))) ?_ (fun hcz => by rw [c18] at hcz; cases hcz) (fun hcz => ?_)
              · kernel_rfl
              refine TS.skip ?_
              refine XS.reAny [0] (mkMask 123 [6, 13, 14]) vout h ?_
              kernel_rfl
        · have hq : (True) ∧ ((True) ∧ ((True) ∧ (((True) ∧ (((c.length : Nat) : Int) == (6 : Int)) = false) ∧ ((True) ∧ (True))))) := ⟨trivial, ⟨trivial, ⟨trivial, ⟨⟨trivial, c10⟩, ⟨trivial, trivial⟩⟩⟩⟩⟩
          refine TS.reg [.none, .none, .none, .dec false] ?_ ?_
          · apply prop_of ?_ hq
            kernel_rfl
          refine XS.then ?_
          refine TS.no ?_ ?_
          · kernel_rfl
          refine TS.skip ?_
          refine XS.then ?_
          refine TS.seq ?_
          have hq : (True) ∧ ((True) ∧ ((True) ∧ (True))) := ⟨trivial, ⟨trivial, ⟨trivial, trivial⟩⟩⟩
          refine TS.reg [] ?_ ?_
          · apply prop_of ?_ hq
            kernel_rfl
          refine XS.then ?_
          refine TS.seq ?_
          refine TS.block ?_
          refine TS.wk (.row true 1 [false] 9 .str) ?_
          refine TS.reLoop [0, 1, 2] (mkMask 123 [6, 13, 14, 16]) (D := (List UInt8) × (List (List UInt8))) (fun d => match d with | (all_3, m2_2) => (mkTs 123 [(6, (.ptr 0 [])), (13, (.str all_3)), (14, (.str vout)), (16, (.ptr 1 []))], [(.box 24 (.st (.cons .nilS (.int .i64 (0 : Int))))), (.box 24 (.st (.cons (.row 2) (.int .i64 (0 : Int))))), (.row 9 .str m2_2)])) (fun n' d => loopF (F9_l8 n vout) n' d = some r) n (all, ([] : List (List UInt8))) h ?_ (fun d => loopF_zero _ d r) ?_
          · kernel_rfl
          · rintro n8 ⟨all_3, m2_2⟩ h
            replace h : (bif (!(all_3 == ([] : List UInt8))) then (bif subB all_3.length none (some (16 : Int)) then (bif (decide (m2_2.length + [(all_3.take 16)].length ≤ 8796093022208)) then (bif subB all_3.length (some (16 : Int)) none then ((loopF (F9_l8 n vout) n8) ((all_3.drop 16), (m2_2 ++ [(all_3.take 16)]))) else none) else none) else none) else (some (m2_2, (0 : Int), vout, (0 : Int)))) = some r := h
            refine TS.seq ?_
            refine TS.seq ?_
            have hq : (True) ∧ ((True) ∧ (True)) := ⟨trivial, ⟨trivial, trivial⟩⟩
            refine TS.reg [] ?_ ?_
            · apply prop_of ?_ hq
              kernel_rfl
            refine XS.then ?_
            rcases bif_some h with ⟨c20, h⟩ | ⟨c21, h⟩
            · refine TS.cond (!(all_3 == ([] : List UInt8))) ?_ (fun hcz => ?_) (fun hcz => by rw [c20] at hcz; cases hcz)
              · kernel_rfl
              refine TS.skip ?_
              refine XS.then ?_
              refine TS.seq ?_
              refine TS.block ?_
              obtain ⟨t22, h⟩ := test_some h
              obtain ⟨t23, h⟩ := test_some h
              have hq : ((True) ∧ ((True) ∧ ((True) ∧ ((subC all_3.length none (some (16 : Int))) ∧ (((0 < 1 ∧ True) ∧ (True)) ∧ (True)))))) ∧ ((m2_2.length + [(all_3.take 16)].length ≤ 8796093022208) ∧ ((True) ∧ ((True) ∧ (True)))) := ⟨⟨trivial, ⟨trivial, ⟨trivial, ⟨subB_ok t22, ⟨⟨⟨by decide, trivial⟩, trivial⟩, trivial⟩⟩⟩⟩⟩, ⟨of_decide_eq_true t23, ⟨trivial, ⟨trivial, trivial⟩⟩⟩⟩
              refine TS.draw 5 [] [] (by kernel_rfl) ?_ ?_
              · apply prop_of ?_ hq
                kernel_rfl
              refine XS.blockEnd ?_
              refine XS.then ?_
              obtain ⟨t24, h⟩ := test_some h
              have hq : (True) ∧ ((subC all_3.length (some (16 : Int)) none) ∧ ((True) ∧ (True))) := ⟨trivial, ⟨subB_ok t24, ⟨trivial, trivial⟩⟩⟩
              refine TS.reg [] ?_ ?_
              · apply prop_of ?_ hq
                kernel_rfl
              refine XS.reAny [0, 1, 4] (mkMask 123 [6, 13, 14, 16]) ((all_3.drop 16), (m2_2 ++ [(all_3.take 16)])) h ?_
              kernel_rfl
            · refine TS.cond (!(all_3 == ([] : List UInt8))) ?_ (fun hcz => by rw [c21] at hcz; cases hcz) (fun hcz => ?_)
              · kernel_rfl
              refine TS.exit ?_
              refine XS.passE ?_
              refine XS.passE ?_
              refine XS.out ?_
              refine XS.then ?_
              refine TS.seq ?_
              have hq : (True) ∧ ((True) ∧ ((True) ∧ ((True) ∧ ((True) ∧ (True))))) := ⟨trivial, ⟨trivial, ⟨trivial, ⟨trivial, ⟨trivial, trivial⟩⟩⟩⟩⟩
              refine TS.reg [] ?_ ?_
              · apply prop_of ?_ hq
                kernel_rfl
              refine XS.then ?_
              refine TS.ret ?_
              obtain rfl : (m2_2, (0 : Int), vout, (0 : Int)) = r := Option.some.inj h
              refine XS.wk (.frz 2) ?_
              exact XS.fin [] ((True) ∧ ((True) ∧ ((True) ∧ (True)))) (by kernel_rfl) ⟨trivial, ⟨trivial, ⟨trivial, trivial⟩⟩⟩
      · refine TS.block ?_
        refine TS.seq ?_
        have hq : (True) ∧ ((True) ∧ (True)) := ⟨trivial, ⟨trivial, trivial⟩⟩
        refine TS.reg [] ?_ ?_
        · apply prop_of ?_ hq
          kernel_rfl
        refine XS.then ?_
        rcases bif_some h with ⟨c25, h⟩ | ⟨c26, h⟩
        · refine TS.cond ((((c.getD 0 0).toNat : Nat) : Int) == (3 : Int)) ?_ (fun hcz => ?_) (fun hcz => by rw [c25] at hcz; cases hcz)
          · kernel_rfl
          refine TS.seq ?_
          have hq : (True) ∧ ((True) ∧ ((True) ∧ ((True) ∧ (True)))) := ⟨trivial, ⟨trivial, ⟨trivial, ⟨trivial, trivial⟩⟩⟩⟩
          refine TS.reg [] ?_ ?_
          · apply prop_of ?_ hq
            kernel_rfl
          refine XS.then ?_
          obtain ⟨y_8, hx27, h⟩ := bind_some' h
          obtain ⟨t28, h⟩ := test_some h
          obtain ⟨t29, h⟩ := test_some h
          obtain ⟨y_9, hx30, h⟩ := bind_some' h
          obtain ⟨t31, h⟩ := test_some h
          obtain ⟨t32, h⟩ := test_some h
          have hq : ((True) ∧ ((PureC Try.prog 27 [(.int .i64 (if (5 : Int) < d_Sense then (5 : Int) else d_Sense)), (.int .i64 (1 : Int))] (.str y_8) []) ∧ ((([112, 0] : List UInt8).length + y_8.length ≤ 9223372036854775807) ∧ (((([112, 0] : List UInt8) ++ y_8).length + ([0, 0, 0, 0, 10, 0, 0, 0, 0] : List UInt8).length ≤ 9223372036854775807) ∧ ((True) ∧ ((True) ∧ ((PureC Try.prog 27 [(.int .i64 d_Sense), (.int .i64 (1 : Int))] (.str y_9) []) ∧ ((((([112, 0] : List UInt8) ++ y_8) ++ ([0, 0, 0, 0, 10, 0, 0, 0, 0] : List UInt8)).length + y_9.length ≤ 9223372036854775807) ∧ (((((([112, 0] : List UInt8) ++ y_8) ++ ([0, 0, 0, 0, 10, 0, 0, 0, 0] : List UInt8)) ++ y_9).length + ([0, 0, 0, 0, 0] : List UInt8).length ≤ 9223372036854775807) ∧ (True)))))))))) ∧ ((True) ∧ (True)) := ⟨⟨trivial, ⟨F27_ok n (if (5 : Int) < d_Sense then (5 : Int) else d_Sense) (1 : Int) y_8 hx27, ⟨of_decide_eq_true t28, ⟨of_decide_eq_true t29, ⟨trivial, ⟨trivial, ⟨F27_ok n d_Sense (1 : Int) y_9 hx30, ⟨of_decide_eq_true t31, ⟨of_decide_eq_true t32, trivial⟩⟩⟩⟩⟩⟩⟩⟩⟩, ⟨trivial, trivial⟩⟩
          refine TS.draw 9 [] [.none, (.call (.str y_8) []), .none, .none, .none, .none, (.call (.str y_9) [])] (by kernel_rfl) ?_ ?_
          · apply prop_of ?_ hq
            kernel_rfl
          refine XS.blockEnd ?_
          refine XS.reAny [1] (mkMask 123 [1, 6, 13, 14]) (y_7, ((((([112, 0] : List UInt8) ++ y_8) ++ ([0, 0, 0, 0, 10, 0, 0, 0, 0] : List UInt8)) ++ y_9) ++ ([0, 0, 0, 0, 0] : List UInt8))) h ?_
          kernel_rfl
        · refine TS.cond ((((c.getD 0 0).toNat : Nat) : Int) == (3 : Int)) ?_ (fun hcz => by rw [c26] at hcz; cases hcz) (fun hcz => ?_)
          · kernel_rfl
          refine TS.seq ?_
          have hq : (True) ∧ ((True) ∧ (True)) := ⟨trivial, ⟨trivial, trivial⟩⟩
          refine TS.reg [] ?_ ?_
          · apply prop_of ?_ hq
            kernel_rfl
          refine XS.then ?_
          rcases bif_some h with ⟨c33, h⟩ | ⟨c34, h⟩
          · refine TS.cond ((((c.getD 0 0).toNat : Nat) : Int) == (18 : Int)) ?_ (fun hcz => ?_) (fun hcz => by rw [c33] at hcz; cases hcz)
            · kernel_rfl
            have hq : (True) ∧ (True) := ⟨trivial, trivial⟩
            refine TS.reg [] ?_ ?_
            · apply prop_of ?_ hq
              kernel_rfl
            refine XS.blockEnd ?_
            refine XS.reAny [1] (mkMask 123 [1, 6, 13, 14]) (y_7, ([0, 128, 4, 2, 31, 0, 0, 0, 112, 108, 117, 103, 116, 114, 101, 101, 100, 105, 115, 107, 32, 32, 32, 32, 32, 32, 32, 32, 32, 32, 32, 32, 49, 32, 32, 32] : List UInt8)) h ?_
            kernel_rfl
          · refine TS.cond ((((c.getD 0 0).toNat : Nat) : Int) == (18 : Int)) ?_ (fun hcz => by rw [c34] at hcz; cases hcz) (fun hcz => ?_)
            · kernel_rfl
            refine TS.seq ?_
            have hq : (True) ∧ ((True) ∧ (True)) := ⟨trivial, ⟨trivial, trivial⟩⟩
            refine TS.reg [] ?_ ?_
            · apply prop_of ?_ hq
              kernel_rfl
            refine XS.then ?_
            rcases bif_some h with ⟨c35, h⟩ | ⟨c36, h⟩
            · refine TS.cond ((((c.getD 0 0).toNat : Nat) : Int) == (26 : Int)) ?_ (fun hcz => ?_) (fun hcz => by rw [c35] at hcz; cases hcz)
              · kernel_rfl
              have hq : (True) ∧ (True) := ⟨trivial, trivial⟩
              refine TS.reg [] ?_ ?_
              · apply prop_of ?_ hq
                kernel_rfl
              refine XS.blockEnd ?_
              refine XS.reAny [1] (mkMask 123 [1, 6, 13, 14]) (y_7, ([3, 0, 0, 0] : List UInt8)) h ?_
              kernel_rfl
            · refine TS.cond ((((c.getD 0 0).toNat : Nat) : Int) == (26 : Int)) ?_ (fun hcz => by rw [c36] at hcz; cases hcz) (fun hcz => ?_)
              · kernel_rfl
              refine TS.seq ?_
              have hq : (True) ∧ ((True) ∧ (True)) := ⟨trivial, ⟨trivial, trivial⟩⟩
              refine TS.reg [] ?_ ?_
              · apply prop_of ?_ hq
                kernel_rfl
              refine XS.then ?_
              rcases bif_some h with ⟨c37, h⟩ | ⟨c38, h⟩
              · refine TS.cond ((((c.getD 0 0).toNat : Nat) : Int) == (37 : Int)) ?_ (fun hcz => ?_) (fun hcz => by rw [c37] at hcz; cases hcz)
                · kernel_rfl
                obtain ⟨y_10, hx39, h⟩ := bind_some' h
                obtain ⟨y_11, hx40, h⟩ := bind_some' h
                obtain ⟨t41, h⟩ := test_some h
                have hq : (True) ∧ ((True) ∧ ((True) ∧ ((True) ∧ ((PureC Try.prog 27 [(.int .i64 (IntKind.wrap .i64 (((d_Blocks.length : Nat) : Int) - (1 : Int)))), (.int .i64 (4 : Int))] (.str y_10) []) ∧ ((PureC Try.prog 27 [(.int .i64 (16 : Int)), (.int .i64 (4 : Int))] (.str y_11) []) ∧ ((y_10.length + y_11.length ≤ 9223372036854775807) ∧ ((True) ∧ (True)))))))) := ⟨trivial, ⟨trivial, ⟨trivial, ⟨trivial, ⟨F27_ok n (IntKind.wrap .i64 (((d_Blocks.length : Nat) : Int) - (1 : Int))) (4 : Int) y_10 hx39, ⟨F27_ok n (16 : Int) (4 : Int) y_11 hx40, ⟨of_decide_eq_true t41, ⟨trivial, trivial⟩⟩⟩⟩⟩⟩⟩⟩
                refine TS.reg [.none, .none, .none, .none, (.call (.str y_10) []), (.call (.str y_11) [])] ?_ ?_
                · apply prop_of ?_ hq
                  kernel_rfl
                refine XS.blockEnd ?_
                refine XS.reAny [1] (mkMask 123 [1, 6, 13, 14]) (y_7, (y_10 ++ y_11)) h ?_
                kernel_rfl
              · refine TS.cond ((((c.getD 0 0).toNat : Nat) : Int) == (37 : Int)) ?_ (fun hcz => by rw [c38] at hcz; cases hcz) (fun hcz => ?_)
                · kernel_rfl
                refine TS.seq ?_
                have hq : (True) ∧ ((True) ∧ (True)) := ⟨trivial, ⟨trivial, trivial⟩⟩
                refine TS.reg [] ?_ ?_
                · apply prop_of ?_ hq
                  kernel_rfl
                refine XS.then ?_
                rcases bif_some h with ⟨c42, h⟩ | ⟨c43, h⟩
                · refine TS.cond ((((c.getD 0 0).toNat : Nat) : Int) == (40 : Int)) ?_ (fun hcz => ?_) (fun hcz => by rw [c42] at hcz; cases hcz)
                  · kernel_rfl
                  obtain ⟨t44, h⟩ := test_some h
                  have hq : (True) ∧ ((True) ∧ ((True) ∧ ((True) ∧ ((True) ∧ ((True) ∧ ((True) ∧ ((subC y_7.length (some (IntKind.wrap .i64 ((16 : Int) * y_6.2.1))) (some (IntKind.wrap .i64 ((16 : Int) * (IntKind.wrap .i64 (y_6.2.1 + y_6.2.2)))))) ∧ ((True) ∧ (True))))))))) := ⟨trivial, ⟨trivial, ⟨trivial, ⟨trivial, ⟨trivial, ⟨trivial, ⟨trivial, ⟨subB_ok t44, ⟨trivial, trivial⟩⟩⟩⟩⟩⟩⟩⟩⟩
                  refine TS.reg [] ?_ ?_
                  · apply prop_of ?_ hq
                    kernel_rfl
                  refine XS.blockEnd ?_
                  refine XS.reAny [1] (mkMask 123 [1, 6, 13, 14]) (y_7, ((y_7.take (IntKind.wrap .i64 ((16 : Int) * (IntKind.wrap .i64 (y_6.2.1 + y_6.2.2)))).toNat).drop (IntKind.wrap .i64 ((16 : Int) * y_6.2.1)).toNat)) h ?_
                  kernel_rfl
                · refine TS.cond ((((c.getD 0 0).toNat : Nat) : Int) == (40 : Int)) ?_ (fun hcz => by rw [c43] at hcz; cases hcz) (fun hcz => ?_)
                  · kernel_rfl
                  refine TS.seq ?_
                  have hq : (True) ∧ ((True) ∧ (True)) := ⟨trivial, ⟨trivial, trivial⟩⟩
                  refine TS.reg [] ?_ ?_
                  · apply prop_of ?_ hq
                    kernel_rfl
                  refine XS.then ?_
                  rcases bif_some h with ⟨c45, h⟩ | ⟨c46, h⟩
                  · refine TS.cond ((((c.getD 0 0).toNat : Nat) : Int) == (42 : Int)) ?_ (fun hcz => ?_) (fun hcz => by rw [c45] at hcz; cases hcz)
                    · kernel_rfl
                    obtain ⟨t47, h⟩ := test_some h
                    obtain ⟨t48, h⟩ := test_some h
                    obtain ⟨t49, h⟩ := test_some h
                    obtain ⟨t50, h⟩ := test_some h
                    have hq : ((True) ∧ ((True) ∧ ((True) ∧ ((subC y_7.length none (some (IntKind.wrap .i64 ((16 : Int) * y_6.2.1)))) ∧ ((True) ∧ (((y_7.take (IntKind.wrap .i64 ((16 : Int) * y_6.2.1)).toNat).length + data.length ≤ 9223372036854775807) ∧ ((True) ∧ ((True) ∧ ((True) ∧ ((True) ∧ ((True) ∧ ((subC y_7.length (some (IntKind.wrap .i64 ((16 : Int) * (IntKind.wrap .i64 (y_6.2.1 + y_6.2.2))))) none) ∧ ((((y_7.take (IntKind.wrap .i64 ((16 : Int) * y_6.2.1)).toNat) ++ data).length + (y_7.drop (IntKind.wrap .i64 ((16 : Int) * (IntKind.wrap .i64 (y_6.2.1 + y_6.2.2)))).toNat).length ≤ 9223372036854775807) ∧ (True)))))))))))))) ∧ ((True) ∧ (True)) := ⟨⟨trivial, ⟨trivial, ⟨trivial, ⟨subB_ok t47, ⟨trivial, ⟨of_decide_eq_true t48, ⟨trivial, ⟨trivial, ⟨trivial, ⟨trivial, ⟨trivial, ⟨subB_ok t49, ⟨of_decide_eq_true t50, trivial⟩⟩⟩⟩⟩⟩⟩⟩⟩⟩⟩⟩⟩, ⟨trivial, trivial⟩⟩
                    refine TS.draw 13 [] [] (by kernel_rfl) ?_ ?_
                    · apply prop_of ?_ hq
                      kernel_rfl
                    refine XS.blockEnd ?_
                    refine XS.reAny [1] (mkMask 123 [1, 6, 13, 14]) ((((y_7.take (IntKind.wrap .i64 ((16 : Int) * y_6.2.1)).toNat) ++ data) ++ (y_7.drop (IntKind.wrap .i64 ((16 : Int) * (IntKind.wrap .i64 (y_6.2.1 + y_6.2.2)))).toNat)), ([] : List UInt8)) h ?_
                    kernel_rfl
                  · refine TS.cond ((((c.getD 0 0).toNat : Nat) : Int) == (42 : Int)) ?_ (fun hcz => by rw [c46] at hcz; cases hcz) (fun hcz => ?_)
                    · kernel_rfl
                    refine TS.skip ?_
                    refine XS.blockEnd ?_
                    refine XS.reAny [1] (mkMask 123 [1, 6, 13, 14]) (y_7, ([] : List UInt8)) h ?_
                    kernel_rfl

/-! plugtree/plugref.Meant -/
def F35 (n : Nat) (d_Blocks : List (List UInt8)) (d_Sense : Int) (c : List UInt8) : Option (Int × Int) := (bif inb (0 : Int) c.length then (bif ((((c.getD 0 0).toNat : Nat) : Int) == (42 : Int)) then (bif (((c.length : Nat) : Int) == (10 : Int)) then (bif inb (7 : Int) c.length then (bif inb (8 : Int) c.length then ((F39 n ([120] : List UInt8) (IntKind.wrap .i64 ((16 : Int) * (IntKind.wrap .i64 ((IntKind.wrap .i64 ((256 : Int) * (IntKind.wrap .i64 ((((c.getD 7 0).toNat : Nat) : Int))))) + (IntKind.wrap .i64 ((((c.getD 8 0).toNat : Nat) : Int)))))))).bind fun y_3 => ((F25 n d_Blocks d_Sense c y_3).bind fun y_4 => (bif (decide (y_4.1 > (0 : Int))) then (some ((0 : Int), (0 : Int))) else (bif ((IntKind.wrap .i64 ((16 : Int) * (IntKind.wrap .i64 ((IntKind.wrap .i64 ((256 : Int) * (IntKind.wrap .i64 ((((c.getD 7 0).toNat : Nat) : Int))))) + (IntKind.wrap .i64 ((((c.getD 8 0).toNat : Nat) : Int))))))) == (0 : Int)) then (some ((0 : Int), (0 : Int))) else (some ((2 : Int), (IntKind.wrap .i64 ((16 : Int) * (IntKind.wrap .i64 ((IntKind.wrap .i64 ((256 : Int) * (IntKind.wrap .i64 ((((c.getD 7 0).toNat : Nat) : Int))))) + (IntKind.wrap .i64 ((((c.getD 8 0).toNat : Nat) : Int))))))))))))) else none) else none) else ((F9 n d_Blocks d_Sense c ([] : List UInt8)).bind fun y_5 => (bif (y_5.2.2.1 == ([] : List UInt8)) then (some ((0 : Int), (0 : Int))) else (some ((1 : Int), ((y_5.2.2.1.length : Nat) : Int)))))) else ((F9 n d_Blocks d_Sense c ([] : List UInt8)).bind fun y_6 => (bif (y_6.2.2.1 == ([] : List UInt8)) then (some ((0 : Int), (0 : Int))) else (some ((1 : Int), ((y_6.2.2.1.length : Nat) : Int)))))) else none)
theorem F35_ok (n : Nat) (d_Blocks : List (List UInt8)) (d_Sense : Int) (c : List UInt8) (r : Int × Int) (h : F35 n d_Blocks d_Sense c = some r) : PureC Try.prog 35 [(.st (.cons (.sl .str d_Blocks) (.int .i64 d_Sense))), (.str c)] (.st (.cons (.int .i64 r.1) (.int .i64 r.2))) [] := by
  refine PureC.mkS Try.func35 rfl rfl ?_
  intro w0 fz0 hfz
  replace h : (bif inb (0 : Int) c.length then (bif ((((c.getD 0 0).toNat : Nat) : Int) == (42 : Int)) then (bif (((c.length : Nat) : Int) == (10 : Int)) then (bif inb (7 : Int) c.length then (bif inb (8 : Int) c.length then ((F39 n ([120] : List UInt8) (IntKind.wrap .i64 ((16 : Int) * (IntKind.wrap .i64 ((IntKind.wrap .i64 ((256 : Int) * (IntKind.wrap .i64 ((((c.getD 7 0).toNat : Nat) : Int))))) + (IntKind.wrap .i64 ((((c.getD 8 0).toNat : Nat) : Int)))))))).bind fun y_3 => ((F25 n d_Blocks d_Sense c y_3).bind fun y_4 => (bif (decide (y_4.1 > (0 : Int))) then (some ((0 : Int), (0 : Int))) else (bif ((IntKind.wrap .i64 ((16 : Int) * (IntKind.wrap .i64 ((IntKind.wrap .i64 ((256 : Int) * (IntKind.wrap .i64 ((((c.getD 7 0).toNat : Nat) : Int))))) + (IntKind.wrap .i64 ((((c.getD 8 0).toNat : Nat) : Int))))))) == (0 : Int)) then (some ((0 : Int), (0 : Int))) else (some ((2 : Int), (IntKind.wrap .i64 ((16 : Int) * (IntKind.wrap .i64 ((IntKind.wrap .i64 ((256 : Int) * (IntKind.wrap .i64 ((((c.getD 7 0).toNat : Nat) : Int))))) + (IntKind.wrap .i64 ((((c.getD 8 0).toNat : Nat) : Int))))))))))))) else none) else none) else ((F9 n d_Blocks d_Sense c ([] : List UInt8)).bind fun y_5 => (bif (y_5.2.2.1 == ([] : List UInt8)) then (some ((0 : Int), (0 : Int))) else (some ((1 : Int), ((y_5.2.2.1.length : Nat) : Int)))))) else ((F9 n d_Blocks d_Sense c ([] : List UInt8)).bind fun y_6 => (bif (y_6.2.2.1 == ([] : List UInt8)) then (some ((0 : Int), (0 : Int))) else (some ((1 : Int), ((y_6.2.2.1.length : Nat) : Int)))))) else none) = some r := h
  refine TS.seq ?_
  have hq : (True) ∧ ((True) ∧ (True)) := ⟨trivial, ⟨trivial, trivial⟩⟩
  refine TS.reg [] ?_ ?_
  · apply prop_of ?_ hq
    kernel_rfl
  refine XS.then ?_
  refine TS.seq ?_
  refine TS.seq ?_
  obtain ⟨t1, h⟩ := test_some h
  rcases bif_some h with ⟨c2, h⟩ | ⟨c3, h⟩
  · have hq : (True) ∧ ((inR (0 : Int) c.length) ∧ ((True) ∧ (((True) ∧ ((((c.getD 0 0).toNat : Nat) : Int) == (42 : Int)) = true) ∧ ((True) ∧ ((True) ∧ ((True) ∧ ((True) ∧ (True)))))))) := ⟨trivial, ⟨inb_ok t1, ⟨trivial, ⟨⟨trivial, c2⟩, ⟨trivial, ⟨trivial, ⟨trivial, ⟨trivial, trivial⟩⟩⟩⟩⟩⟩⟩⟩
    refine TS.reg [.none, .none, .none, .dec true] ?_ ?_
    · apply prop_of ?_ hq
      kernel_rfl
    refine XS.then ?_
    rcases bif_some h with ⟨c4, h⟩ | ⟨c5, h⟩
    · refine TS.cond (((c.length : Nat) : Int) == (10 : Int)) ?_ (fun hcz => ?_) (fun hcz => by rw [c4] at hcz; cases hcz)
      · kernel_rfl
      refine TS.seq ?_
      obtain ⟨t6, h⟩ := test_some h
      obtain ⟨t7, h⟩ := test_some h
      have hq : ((True) ∧ ((inR (7 : Int) c.length) ∧ ((True) ∧ ((True) ∧ ((True) ∧ ((inR (8 : Int) c.length) ∧ ((True) ∧ ((True) ∧ ((True) ∧ (True)))))))))) ∧ ((True) ∧ (True)) := ⟨⟨trivial, ⟨inb_ok t6, ⟨trivial, ⟨trivial, ⟨trivial, ⟨inb_ok t7, ⟨trivial, ⟨trivial, ⟨trivial, trivial⟩⟩⟩⟩⟩⟩⟩⟩⟩, ⟨trivial, trivial⟩⟩
      refine TS.draw 9 [] [] (by kernel_rfl) ?_ ?_
      · apply prop_of ?_ hq
        kernel_rfl
      refine XS.then ?_
      refine TS.seq ?_
      refine TS.seq ?_
      obtain ⟨y_3, hx8, h⟩ := bind_some' h
      obtain ⟨y_4, hx9, h⟩ := bind_some' h
      have hq : ((True) ∧ ((True) ∧ ((True) ∧ ((PureC Try.prog 39 [(.str ([120] : List UInt8)), (.int .i64 (IntKind.wrap .i64 ((16 : Int) * (IntKind.wrap .i64 ((IntKind.wrap .i64 ((256 : Int) * (IntKind.wrap .i64 ((((c.getD 7 0).toNat : Nat) : Int))))) + (IntKind.wrap .i64 ((((c.getD 8 0).toNat : Nat) : Int))))))))] (.str y_3) []) ∧ ((PureC Try.prog 25 [(.st (.cons (.sl .str d_Blocks) (.int .i64 d_Sense))), (.str c), (.str y_3)] (.tup (.cons (.int .i64 y_4.1) (.cons (.int .i64 y_4.2.1) (.cons (.int .i64 y_4.2.2) .nil)))) []) ∧ ((True) ∧ ((True) ∧ ((True) ∧ ((True) ∧ ((True) ∧ ((True) ∧ (True)))))))))))) ∧ ((True) ∧ (True)) := ⟨⟨trivial, ⟨trivial, ⟨trivial, ⟨F39_ok n ([120] : List UInt8) (IntKind.wrap .i64 ((16 : Int) * (IntKind.wrap .i64 ((IntKind.wrap .i64 ((256 : Int) * (IntKind.wrap .i64 ((((c.getD 7 0).toNat : Nat) : Int))))) + (IntKind.wrap .i64 ((((c.getD 8 0).toNat : Nat) : Int))))))) y_3 hx8, ⟨F25_ok n d_Blocks d_Sense c y_3 y_4 hx9, ⟨trivial, ⟨trivial, ⟨trivial, ⟨trivial, ⟨trivial, ⟨trivial, trivial⟩⟩⟩⟩⟩⟩⟩⟩⟩⟩⟩, ⟨trivial, trivial⟩⟩
      refine TS.draw 11 [] [.none, .none, .none, (.call (.str y_3) []), (.call (.tup (.cons (.int .i64 y_4.1) (.cons (.int .i64 y_4.2.1) (.cons (.int .i64 y_4.2.2) .nil)))) [])] (by kernel_rfl) ?_ ?_
      · apply prop_of ?_ hq
        kernel_rfl
      refine XS.then ?_
      refine TS.seq ?_
      rcases bif_some h with ⟨c10, h⟩ | ⟨c11, h⟩
      · have hq : (True) ∧ ((True) ∧ (((True) ∧ (decide (y_4.1 > (0 : Int))) = true) ∧ ((True) ∧ (True)))) := ⟨trivial, ⟨trivial, ⟨⟨trivial, c10⟩, ⟨trivial, trivial⟩⟩⟩⟩
        refine TS.reg [.none, .none, .dec true] ?_ ?_
        · apply prop_of ?_ hq
          kernel_rfl
        refine XS.then ?_
        refine TS.yes ?_ ?_
        · kernel_rfl
        refine TS.seq ?_
        have hq : (True) ∧ ((True) ∧ (True)) := ⟨trivial, ⟨trivial, trivial⟩⟩
        refine TS.reg [] ?_ ?_
        · apply prop_of ?_ hq
          kernel_rfl
        refine XS.then ?_
        refine TS.ret ?_
        refine XS.passR ?_
        refine XS.passR ?_
        obtain rfl : ((0 : Int), (0 : Int)) = r := Option.some.inj h
        exact XS.fin [] ((True) ∧ (True)) (by kernel_rfl) ⟨trivial, trivial⟩
      · have hq : (True) ∧ ((True) ∧ (((True) ∧ (decide (y_4.1 > (0 : Int))) = false) ∧ ((True) ∧ ((True) ∧ ((True) ∧ (True)))))) := ⟨trivial, ⟨trivial, ⟨⟨trivial, c11⟩, ⟨trivial, ⟨trivial, ⟨trivial, trivial⟩⟩⟩⟩⟩⟩
        refine TS.reg [.none, .none, .dec false] ?_ ?_
        · apply prop_of ?_ hq
          kernel_rfl
        refine XS.then ?_
        rcases bif_some h with ⟨c12, h⟩ | ⟨c13, h⟩
        · refine TS.cond ((IntKind.wrap .i64 ((16 : Int) * (IntKind.wrap .i64 ((IntKind.wrap .i64 ((256 : Int) * (IntKind.wrap .i64 ((((c.getD 7 0).toNat : Nat) : Int))))) + (IntKind.wrap .i64 ((((c.getD 8 0).toNat : Nat) : Int))))))) == (0 : Int)) ?_ (fun hcz => ?_) (fun hcz => by rw [c12] at hcz; cases hcz)
          · kernel_rfl
          refine TS.seq ?_
          have hq : (True) ∧ ((True) ∧ (True)) := ⟨trivial, ⟨trivial, trivial⟩⟩
          refine TS.reg [] ?_ ?_
          · apply prop_of ?_ hq
            kernel_rfl
          refine XS.then ?_
          refine TS.ret ?_
          refine XS.passR ?_
          refine XS.passR ?_
          obtain rfl : ((0 : Int), (0 : Int)) = r := Option.some.inj h
          exact XS.fin [] ((True) ∧ (True)) (by kernel_rfl) ⟨trivial, trivial⟩
        · refine TS.cond ((IntKind.wrap .i64 ((16 : Int) * (IntKind.wrap .i64 ((IntKind.wrap .i64 ((256 : Int) * (IntKind.wrap .i64 ((((c.getD 7 0).toNat : Nat) : Int))))) + (IntKind.wrap .i64 ((((c.getD 8 0).toNat : Nat) : Int))))))) == (0 : Int)) ?_ (fun hcz => by rw [c13] at hcz; cases hcz) (fun hcz => ?_)
          · kernel_rfl
          refine TS.skip ?_
          refine XS.then ?_
          refine TS.seq ?_
          have hq : (True) ∧ (((True) ∧ ((True) ∧ (True))) ∧ ((True) ∧ (True))) := ⟨trivial, ⟨⟨trivial, ⟨trivial, trivial⟩⟩, ⟨trivial, trivial⟩⟩⟩
          refine TS.reg [] ?_ ?_
          · apply prop_of ?_ hq
            kernel_rfl
          refine XS.then ?_
          refine TS.ret ?_
          refine XS.passR ?_
          obtain rfl : ((2 : Int), (IntKind.wrap .i64 ((16 : Int) * (IntKind.wrap .i64 ((IntKind.wrap .i64 ((256 : Int) * (IntKind.wrap .i64 ((((c.getD 7 0).toNat : Nat) : Int))))) + (IntKind.wrap .i64 ((((c.getD 8 0).toNat : Nat) : Int)))))))) = r := Option.some.inj h
          exact XS.fin [] ((True) ∧ (True)) (by kernel_rfl) ⟨trivial, trivial⟩
    · refine TS.cond (((c.length : Nat) : Int) == (10 : Int)) ?_ (fun hcz => by rw [c5] at hcz; cases hcz) (fun hcz => ?_)
      · kernel_rfl
      refine TS.skip ?_
      refine XS.then ?_
      refine TS.seq ?_
      obtain ⟨y_5, hx14, h⟩ := bind_some' h
      have hq : (True) ∧ ((True) ∧ ((PureC Try.prog 9 [(.st (.cons (.sl .str d_Blocks) (.int .i64 d_Sense))), (.str c), (.str ([] : List UInt8))] (.tup (.cons (.st (.cons (.sl .str y_5.1) (.int .i64 y_5.2.1))) (.cons (.str y_5.2.2.1) (.cons (.int .i64 y_5.2.2.2) .nil)))) []) ∧ ((True) ∧ ((True) ∧ ((True) ∧ ((True) ∧ ((True) ∧ ((True) ∧ ((True) ∧ ((True) ∧ (True))))))))))) := ⟨trivial, ⟨trivial, ⟨F9_ok n d_Blocks d_Sense c ([] : List UInt8) y_5 hx14, ⟨trivial, ⟨trivial, ⟨trivial, ⟨trivial, ⟨trivial, ⟨trivial, ⟨trivial, ⟨trivial, trivial⟩⟩⟩⟩⟩⟩⟩⟩⟩⟩⟩
      refine TS.reg [.none, .none, (.call (.tup (.cons (.st (.cons (.sl .str y_5.1) (.int .i64 y_5.2.1))) (.cons (.str y_5.2.2.1) (.cons (.int .i64 y_5.2.2.2) .nil)))) [])] ?_ ?_
      · apply prop_of ?_ hq
        kernel_rfl
      refine XS.then ?_
      refine TS.seq ?_
      refine TS.seq ?_
      have hq : (True) ∧ ((True) ∧ (True)) := ⟨trivial, ⟨trivial, trivial⟩⟩
      refine TS.reg [] ?_ ?_
      · apply prop_of ?_ hq
        kernel_rfl
      refine XS.then ?_
      rcases bif_some h with ⟨c15, h⟩ | ⟨c16, h⟩
      · refine TS.cond (y_5.2.2.1 == ([] : List UInt8)) ?_ (fun hcz => ?_) (fun hcz => by rw [c15] at hcz; cases hcz)
        · kernel_rfl
        refine TS.seq ?_
        have hq : (True) ∧ ((True) ∧ (True)) := ⟨trivial, ⟨trivial, trivial⟩⟩
        refine TS.reg [] ?_ ?_
        · apply prop_of ?_ hq
          kernel_rfl
        refine XS.then ?_
        refine TS.ret ?_
        refine XS.passR ?_
        obtain rfl : ((0 : Int), (0 : Int)) = r := Option.some.inj h
        exact XS.fin [] ((True) ∧ (True)) (by kernel_rfl) ⟨trivial, trivial⟩
      · refine TS.cond (y_5.2.2.1 == ([] : List UInt8)) ?_ (fun hcz => by rw [c16] at hcz; cases hcz) (fun hcz => ?_)
        · kernel_rfl
        refine TS.skip ?_
        refine XS.then ?_
        refine TS.seq ?_
        have hq : (True) ∧ ((True) ∧ (((True) ∧ ((True) ∧ (True))) ∧ ((True) ∧ (True)))) := ⟨trivial, ⟨trivial, ⟨⟨trivial, ⟨trivial, trivial⟩⟩, ⟨trivial, trivial⟩⟩⟩⟩
        refine TS.reg [] ?_ ?_
        · apply prop_of ?_ hq
          kernel_rfl
        refine XS.then ?_
        refine TS.ret ?_
        obtain rfl : ((1 : Int), ((y_5.2.2.1.length : Nat) : Int)) = r := Option.some.inj h
        exact XS.fin [] ((True) ∧ (True)) (by kernel_rfl) ⟨trivial, trivial⟩
  · have hq : (True) ∧ ((inR (0 : Int) c.length) ∧ ((True) ∧ (((True) ∧ ((((c.getD 0 0).toNat : Nat) : Int) == (42 : Int)) = false) ∧ ((True) ∧ (True))))) := ⟨trivial, ⟨inb_ok t1, ⟨trivial, ⟨⟨trivial, c3⟩, ⟨trivial, trivial⟩⟩⟩⟩⟩
    refine TS.reg [.none, .none, .none, .dec false] ?_ ?_
    · apply prop_of ?_ hq
      kernel_rfl
    refine XS.then ?_
    refine TS.no ?_ ?_
    · kernel_rfl
    refine TS.skip ?_
    refine XS.then ?_
    refine TS.seq ?_
    obtain ⟨y_6, hx17, h⟩ := bind_some' h
    have hq : (True) ∧ ((True) ∧ ((PureC Try.prog 9 [(.st (.cons (.sl .str d_Blocks) (.int .i64 d_Sense))), (.str c), (.str ([] : List UInt8))] (.tup (.cons (.st (.cons (.sl .str y_6.1) (.int .i64 y_6.2.1))) (.cons (.str y_6.2.2.1) (.cons (.int .i64 y_6.2.2.2) .nil)))) []) ∧ ((True) ∧ ((True) ∧ ((True) ∧ ((True) ∧ ((True) ∧ ((True) ∧ ((True) ∧ ((True) ∧ (True))))))))))) := ⟨trivial, ⟨trivial, ⟨F9_ok n d_Blocks d_Sense c ([] : List UInt8) y_6 hx17, ⟨trivial, ⟨trivial, ⟨trivial, ⟨trivial, ⟨trivial, ⟨trivial, ⟨trivial, ⟨trivial, trivial⟩⟩⟩⟩⟩⟩⟩⟩⟩⟩⟩
    refine TS.reg [.none, .none, (.call (.tup (.cons (.st (.cons (.sl .str y_6.1) (.int .i64 y_6.2.1))) (.cons (.str y_6.2.2.1) (.cons (.int .i64 y_6.2.2.2) .nil)))) [])] ?_ ?_
    · apply prop_of ?_ hq
      kernel_rfl
    refine XS.then ?_
    refine TS.seq ?_
    refine TS.seq ?_
    have hq : (True) ∧ ((True) ∧ (True)) := ⟨trivial, ⟨trivial, trivial⟩⟩
    refine TS.reg [] ?_ ?_
    · apply prop_of ?_ hq
      kernel_rfl
    refine XS.then ?_
    rcases bif_some h with ⟨c18, h⟩ | ⟨c19, h⟩
    · refine TS.cond (y_6.2.2.1 == ([] : List UInt8)) ?_ (fun hcz => ?_) (fun hcz => by rw [c18] at hcz; cases hcz)
      · kernel_rfl
      refine TS.seq ?_
      have hq : (True) ∧ ((True) ∧ (True)) := ⟨trivial, ⟨trivial, trivial⟩⟩
      refine TS.reg [] ?_ ?_
      · apply prop_of ?_ hq
        kernel_rfl
      refine XS.then ?_
      refine TS.ret ?_
      refine XS.passR ?_
      obtain rfl : ((0 : Int), (0 : Int)) = r := Option.some.inj h
      exact XS.fin [] ((True) ∧ (True)) (by kernel_rfl) ⟨trivial, trivial⟩
    · refine TS.cond (y_6.2.2.1 == ([] : List UInt8)) ?_ (fun hcz => by rw [c19] at hcz; cases hcz) (fun hcz => ?_)
      · kernel_rfl
      refine TS.skip ?_
      refine XS.then ?_
      refine TS.seq ?_
      have hq : (True) ∧ ((True) ∧ (((True) ∧ ((True) ∧ (True))) ∧ ((True) ∧ (True)))) := ⟨trivial, ⟨trivial, ⟨⟨trivial, ⟨trivial, trivial⟩⟩, ⟨trivial, trivial⟩⟩⟩⟩
      refine TS.reg [] ?_ ?_
      · apply prop_of ?_ hq
        kernel_rfl
      refine XS.then ?_
      refine TS.ret ?_
      obtain rfl : ((1 : Int), ((y_6.2.2.1.length : Nat) : Int)) = r := Option.some.inj h
      exact XS.fin [] ((True) ∧ (True)) (by kernel_rfl) ⟨trivial, trivial⟩

/-! plugtree/plugref.Two -/
def F46_l2 (n : Nat) (k : Int) (k46_2 : (Int × Int) → Option Int) : (Int × Int) → Option Int
  | (vn, x) => (bif (decide (x < k)) then (k46_2 ((IntKind.wrap .i64 (vn * (2 : Int))), (IntKind.wrap .i64 (x + (1 : Int))))) else (some vn))
def F46 (n : Nat) (k : Int) : Option Int := (loopF (F46_l2 n k) n ((1 : Int), (0 : Int)))
theorem F46_ok (n : Nat) (k : Int) (r : Int) (h : F46 n k = some r) : PureC Try.prog 46 [(.int .i64 k)] (.int .i64 r) [] := by
  refine PureC.mkS Try.func46 rfl rfl ?_
  intro w0 fz0 hfz
  replace h : (loopF (F46_l2 n k) n ((1 : Int), (0 : Int))) = some r := h
  refine TS.seq ?_
  have hq : (True) ∧ (True) := ⟨trivial, trivial⟩
  refine TS.reg [] ?_ ?_
  · apply prop_of ?_ hq
    kernel_rfl
  refine XS.then ?_
  refine TS.seq ?_
  have hq : (True) ∧ (True) := ⟨trivial, trivial⟩
  refine TS.reg [] ?_ ?_
  · apply prop_of ?_ hq
    kernel_rfl
  refine XS.then ?_
  refine TS.seq ?_
  refine TS.seq ?_
  have hq : (True) ∧ ((True) ∧ (True)) := ⟨trivial, ⟨trivial, trivial⟩⟩
  refine TS.reg [] ?_ ?_
  · apply prop_of ?_ hq
    kernel_rfl
  refine XS.then ?_
  refine TS.block ?_
  refine TS.reLoop [] (mkMask 11 [3, 4, 5]) (D := Int × Int) (fun d => match d with | (vn, x) => (mkTs 11 [(3, (.int .i64 vn)), (4, (.int .i64 k)), (5, (.int .i64 x))], [])) (fun n' d => loopF (F46_l2 n k) n' d = some r) n ((1 : Int), (0 : Int)) h ?_ (fun d => loopF_zero _ d r) ?_
  · kernel_rfl
  · rintro n2 ⟨vn, x⟩ h
    replace h : (bif (decide (x < k)) then ((loopF (F46_l2 n k) n2) ((IntKind.wrap .i64 (vn * (2 : Int))), (IntKind.wrap .i64 (x + (1 : Int))))) else (some vn)) = some r := h
    refine TS.seq ?_
    have hq : (True) ∧ (True) := ⟨trivial, trivial⟩
    refine TS.reg [] ?_ ?_
    · apply prop_of ?_ hq
      kernel_rfl
    refine XS.then ?_
    refine TS.seq ?_
    rcases bif_some h with ⟨c1, h⟩ | ⟨c2, h⟩
    · refine TS.cond (decide (x < k)) ?_ (fun hcz => ?_) (fun hcz => by rw [c1] at hcz; cases hcz)
      · kernel_rfl
      refine TS.skip ?_
      refine XS.then ?_
      refine TS.seq ?_
      refine TS.block ?_
      have hq : (True) ∧ ((True) ∧ ((True) ∧ (True))) := ⟨trivial, ⟨trivial, ⟨trivial, trivial⟩⟩⟩
      refine TS.reg [] ?_ ?_
      · apply prop_of ?_ hq
        kernel_rfl
      refine XS.blockEnd ?_
      refine XS.then ?_
      have hq : (True) ∧ ((True) ∧ (True)) := ⟨trivial, ⟨trivial, trivial⟩⟩
      refine TS.reg [] ?_ ?_
      · apply prop_of ?_ hq
        kernel_rfl
      refine XS.reAny [] (mkMask 11 [3, 4, 5]) ((IntKind.wrap .i64 (vn * (2 : Int))), (IntKind.wrap .i64 (x + (1 : Int)))) h ?_
      kernel_rfl
    · refine TS.cond (decide (x < k)) ?_ (fun hcz => by rw [c2] at hcz; cases hcz) (fun hcz => ?_)
      · kernel_rfl
      refine TS.exit ?_
      refine XS.passE ?_
      refine XS.passE ?_
      refine XS.out ?_
      refine XS.then ?_
      refine TS.seq ?_
      have hq : (True) ∧ ((True) ∧ (True)) := ⟨trivial, ⟨trivial, trivial⟩⟩
      refine TS.reg [] ?_ ?_
      · apply prop_of ?_ hq
        kernel_rfl
      refine XS.then ?_
      refine TS.ret ?_
      obtain rfl : vn = r := Option.some.inj h
      exact XS.fin [] ((True) ∧ (True)) (by kernel_rfl) ⟨trivial, trivial⟩

/-! plugtree/plugref.Move -/
def F67 (n : Nat) (m_Dir : Int) (m_Len : Int) : Option Bool := (bif (Sh.beq (.st (.pair (.int .i64) (.int .i64))) (m_Dir, m_Len) ((0 : Int), (0 : Int))) then (some true) else ((F57 n m_Dir (1 : Int) (2 : Int)).bind fun y_2 => (bif y_2 then ((F46 n (32 : Int)).bind fun y_3 => ((F57 n m_Len (1 : Int) (IntKind.wrap .i64 (y_3 - (1 : Int)))).bind fun y_4 => (some y_4))) else (some false))))
theorem F67_ok (n : Nat) (m_Dir : Int) (m_Len : Int) (r : Bool) (h : F67 n m_Dir m_Len = some r) : PureC Try.prog 67 [(.st (.cons (.int .i64 m_Dir) (.int .i64 m_Len)))] (.bool r) [] := by
  refine PureC.mkS Try.func67 rfl rfl ?_
  intro w0 fz0 hfz
  replace h : (bif (Sh.beq (.st (.pair (.int .i64) (.int .i64))) (m_Dir, m_Len) ((0 : Int), (0 : Int))) then (some true) else ((F57 n m_Dir (1 : Int) (2 : Int)).bind fun y_2 => (bif y_2 then ((F46 n (32 : Int)).bind fun y_3 => ((F57 n m_Len (1 : Int) (IntKind.wrap .i64 (y_3 - (1 : Int)))).bind fun y_4 => (some y_4))) else (some false)))) = some r := h
  refine TS.seq ?_
  have hq : (True) ∧ ((True) ∧ (True)) := ⟨trivial, ⟨trivial, trivial⟩⟩
  refine TS.reg [] ?_ ?_
  · apply prop_of ?_ hq
    kernel_rfl
  refine XS.then ?_
  refine TS.seq ?_
  rcases bif_some h with ⟨c1, h⟩ | ⟨c2, h⟩
  · have hq : ((True) ∧ ((True) ∧ ((True) ∧ (((True) ∧ (Sh.beq (.st (.pair (.int .i64) (.int .i64))) (m_Dir, m_Len) ((0 : Int), (0 : Int))) = true) ∧ ((True) ∧ (True)))))) ∧ ((True) ∧ (True)) := ⟨⟨trivial, ⟨trivial, ⟨trivial, ⟨⟨trivial, c1⟩, ⟨trivial, trivial⟩⟩⟩⟩⟩, ⟨trivial, trivial⟩⟩
    refine TS.draw 15 [] [.none, .none, .none, .dec true] (by kernel_rfl) ?_ ?_
    · apply prop_of ?_ hq
      kernel_rfl
    refine XS.then ?_
    refine TS.ret ?_
    obtain rfl : true = r := Option.some.inj h
    exact XS.fin [] ((True) ∧ (True)) (by kernel_rfl) ⟨trivial, trivial⟩
  · obtain ⟨y_2, hx3, h⟩ := bind_some' h
    rcases bif_some h with ⟨c4, h⟩ | ⟨c5, h⟩
    · obtain ⟨y_3, hx6, h⟩ := bind_some' h
      obtain ⟨y_4, hx7, h⟩ := bind_some' h
      have hq : ((True) ∧ ((True) ∧ ((True) ∧ (((True) ∧ (Sh.beq (.st (.pair (.int .i64) (.int .i64))) (m_Dir, m_Len) ((0 : Int), (0 : Int))) = false) ∧ ((True) ∧ ((True) ∧ ((PureC Try.prog 57 [(.int .i64 m_Dir), (.int .i64 (1 : Int)), (.int .i64 (2 : Int))] (.bool y_2) []) ∧ (((True) ∧ y_2 = true) ∧ ((True) ∧ ((True) ∧ ((PureC Try.prog 46 [(.int .i64 (32 : Int))] (.int .i64 y_3) []) ∧ ((True) ∧ ((PureC Try.prog 57 [(.int .i64 m_Len), (.int .i64 (1 : Int)), (.int .i64 (IntKind.wrap .i64 (y_3 - (1 : Int))))] (.bool y_4) []) ∧ ((True) ∧ ((True) ∧ (True)))))))))))))))) ∧ ((True) ∧ (True)) := ⟨⟨trivial, ⟨trivial, ⟨trivial, ⟨⟨trivial, c2⟩, ⟨trivial, ⟨trivial, ⟨F57_ok n m_Dir (1 : Int) (2 : Int) y_2 hx3, ⟨⟨trivial, c4⟩, ⟨trivial, ⟨trivial, ⟨F46_ok n (32 : Int) y_3 hx6, ⟨trivial, ⟨F57_ok n m_Len (1 : Int) (IntKind.wrap .i64 (y_3 - (1 : Int))) y_4 hx7, ⟨trivial, ⟨trivial, trivial⟩⟩⟩⟩⟩⟩⟩⟩⟩⟩⟩⟩⟩⟩⟩, ⟨trivial, trivial⟩⟩
      refine TS.draw 15 [] [.none, .none, .none, .dec false, .none, .none, (.call (.bool y_2) []), .dec true, .none, .none, (.call (.int .i64 y_3) []), .none, (.call (.bool y_4) [])] (by kernel_rfl) ?_ ?_
      · apply prop_of ?_ hq
        kernel_rfl
      refine XS.then ?_
      refine TS.ret ?_
      obtain rfl : y_4 = r := Option.some.inj h
      exact XS.fin [] ((True) ∧ (True)) (by kernel_rfl) ⟨trivial, trivial⟩
    · have hq : ((True) ∧ ((True) ∧ ((True) ∧ (((True) ∧ (Sh.beq (.st (.pair (.int .i64) (.int .i64))) (m_Dir, m_Len) ((0 : Int), (0 : Int))) = false) ∧ ((True) ∧ ((True) ∧ ((PureC Try.prog 57 [(.int .i64 m_Dir), (.int .i64 (1 : Int)), (.int .i64 (2 : Int))] (.bool y_2) []) ∧ (((True) ∧ y_2 = false) ∧ ((True) ∧ ((True) ∧ (True))))))))))) ∧ ((True) ∧ (True)) := ⟨⟨trivial, ⟨trivial, ⟨trivial, ⟨⟨trivial, c2⟩, ⟨trivial, ⟨trivial, ⟨F57_ok n m_Dir (1 : Int) (2 : Int) y_2 hx3, ⟨⟨trivial, c5⟩, ⟨trivial, ⟨trivial, trivial⟩⟩⟩⟩⟩⟩⟩⟩⟩⟩, ⟨trivial, trivial⟩⟩
      refine TS.draw 15 [] [.none, .none, .none, .dec false, .none, .none, (.call (.bool y_2) []), .dec false] (by kernel_rfl) ?_ ?_
      · apply prop_of ?_ hq
        kernel_rfl
      refine XS.then ?_
      refine TS.ret ?_
      obtain rfl : false = r := Option.some.inj h
      exact XS.fin [] ((True) ∧ (True)) (by kernel_rfl) ⟨trivial, trivial⟩

/-! strings.IndexByte -/
def F68 (n : Nat) (s : List UInt8) (c : Int) : Option Int := some (Lib.indexByte s (c).toNat.toUInt8)
theorem F68_ok (n : Nat) (s : List UInt8) (c : Int) (r : Int) (h : F68 n s c = some r) : PureC Try.prog 68 [(.str s), (.int .u8 c)] (.int .i64 r) [] := by
  unfold F68 at h
  obtain rfl := Option.some.inj h
  exact PureC.textByte s c _ (fun w => by simpa using Try.strings_IndexByte ⟨s.toArray⟩ c w)

/-! plugtree/plugref.Judged -/
def F34_j4 (n : Nat) (h_Dir : Int) (h_Len : Int) (d_Dir : Int) (d_Len : Int) : Int → Option (Int × Int × Int × Int × Int)
  | more_2 => (bif inb h_Dir 3 then (bif inb d_Dir 3 then (bif inb more_2 3 then ((F68 n ([2, 3, 7, 8, 10, 13] : List UInt8) (IntKind.wrap .u8 ((((((((List.replicate 3 (List.replicate 3 (List.replicate 3 (0 : Int)))).set 0 ((((List.replicate 3 (List.replicate 3 (0 : Int))).set 0 ((((List.replicate 3 (0 : Int)).set 0 (1 : Int)).set 1 (1 : Int)).set 2 (1 : Int))).set 1 ((((List.replicate 3 (0 : Int)).set 0 (2 : Int)).set 1 (2 : Int)).set 2 (2 : Int))).set 2 ((((List.replicate 3 (0 : Int)).set 0 (3 : Int)).set 1 (3 : Int)).set 2 (3 : Int)))).set 1 ((((List.replicate 3 (List.replicate 3 (0 : Int))).set 0 ((((List.replicate 3 (0 : Int)).set 0 (4 : Int)).set 1 (4 : Int)).set 2 (4 : Int))).set 1 ((((List.replicate 3 (0 : Int)).set 0 (5 : Int)).set 1 (6 : Int)).set 2 (7 : Int))).set 2 ((((List.replicate 3 (0 : Int)).set 0 (8 : Int)).set 1 (8 : Int)).set 2 (8 : Int)))).set 2 ((((List.replicate 3 (List.replicate 3 (0 : Int))).set 0 ((((List.replicate 3 (0 : Int)).set 0 (9 : Int)).set 1 (9 : Int)).set 2 (9 : Int))).set 1 ((((List.replicate 3 (0 : Int)).set 0 (10 : Int)).set 1 (10 : Int)).set 2 (10 : Int))).set 2 ((((List.replicate 3 (0 : Int)).set 0 (11 : Int)).set 1 (12 : Int)).set 2 (13 : Int)))).getD h_Dir.toNat (List.replicate 3 (List.replicate 3 (0 : Int)))).getD d_Dir.toNat (List.replicate 3 (0 : Int))).getD more_2.toNat (0 : Int))))).bind fun y_8 => (bif (decide (y_8 ≥ (0 : Int))) then (some ((((((((List.replicate 3 (List.replicate 3 (List.replicate 3 (0 : Int)))).set 0 ((((List.replicate 3 (List.replicate 3 (0 : Int))).set 0 ((((List.replicate 3 (0 : Int)).set 0 (1 : Int)).set 1 (1 : Int)).set 2 (1 : Int))).set 1 ((((List.replicate 3 (0 : Int)).set 0 (2 : Int)).set 1 (2 : Int)).set 2 (2 : Int))).set 2 ((((List.replicate 3 (0 : Int)).set 0 (3 : Int)).set 1 (3 : Int)).set 2 (3 : Int)))).set 1 ((((List.replicate 3 (List.replicate 3 (0 : Int))).set 0 ((((List.replicate 3 (0 : Int)).set 0 (4 : Int)).set 1 (4 : Int)).set 2 (4 : Int))).set 1 ((((List.replicate 3 (0 : Int)).set 0 (5 : Int)).set 1 (6 : Int)).set 2 (7 : Int))).set 2 ((((List.replicate 3 (0 : Int)).set 0 (8 : Int)).set 1 (8 : Int)).set 2 (8 : Int)))).set 2 ((((List.replicate 3 (List.replicate 3 (0 : Int))).set 0 ((((List.replicate 3 (0 : Int)).set 0 (9 : Int)).set 1 (9 : Int)).set 2 (9 : Int))).set 1 ((((List.replicate 3 (0 : Int)).set 0 (10 : Int)).set 1 (10 : Int)).set 2 (10 : Int))).set 2 ((((List.replicate 3 (0 : Int)).set 0 (11 : Int)).set 1 (12 : Int)).set 2 (13 : Int)))).getD h_Dir.toNat (List.replicate 3 (List.replicate 3 (0 : Int)))).getD d_Dir.toNat (List.replicate 3 (0 : Int))).getD more_2.toNat (0 : Int)), (0 : Int), h_Len, (2 : Int), (0 : Int))) else (some ((((((((List.replicate 3 (List.replicate 3 (List.replicate 3 (0 : Int)))).set 0 ((((List.replicate 3 (List.replicate 3 (0 : Int))).set 0 ((((List.replicate 3 (0 : Int)).set 0 (1 : Int)).set 1 (1 : Int)).set 2 (1 : Int))).set 1 ((((List.replicate 3 (0 : Int)).set 0 (2 : Int)).set 1 (2 : Int)).set 2 (2 : Int))).set 2 ((((List.replicate 3 (0 : Int)).set 0 (3 : Int)).set 1 (3 : Int)).set 2 (3 : Int)))).set 1 ((((List.replicate 3 (List.replicate 3 (0 : Int))).set 0 ((((List.replicate 3 (0 : Int)).set 0 (4 : Int)).set 1 (4 : Int)).set 2 (4 : Int))).set 1 ((((List.replicate 3 (0 : Int)).set 0 (5 : Int)).set 1 (6 : Int)).set 2 (7 : Int))).set 2 ((((List.replicate 3 (0 : Int)).set 0 (8 : Int)).set 1 (8 : Int)).set 2 (8 : Int)))).set 2 ((((List.replicate 3 (List.replicate 3 (0 : Int))).set 0 ((((List.replicate 3 (0 : Int)).set 0 (9 : Int)).set 1 (9 : Int)).set 2 (9 : Int))).set 1 ((((List.replicate 3 (0 : Int)).set 0 (10 : Int)).set 1 (10 : Int)).set 2 (10 : Int))).set 2 ((((List.replicate 3 (0 : Int)).set 0 (11 : Int)).set 1 (12 : Int)).set 2 (13 : Int)))).getD h_Dir.toNat (List.replicate 3 (List.replicate 3 (0 : Int)))).getD d_Dir.toNat (List.replicate 3 (0 : Int))).getD more_2.toNat (0 : Int)), (if d_Len < h_Len then d_Len else h_Len), (IntKind.wrap .i64 (h_Len - (if d_Len < h_Len then d_Len else h_Len))), (0 : Int), (0 : Int))))) else none) else none) else none)
def F34_j3 (n : Nat) (h_Dir : Int) (h_Len : Int) (d_Dir : Int) (d_Len : Int) : Int → Option (Int × Int × Int × Int × Int)
  | more => (bif (decide (h_Len < d_Len)) then (F34_j4 n h_Dir h_Len d_Dir d_Len (2 : Int)) else (F34_j4 n h_Dir h_Len d_Dir d_Len more))
def F34 (n : Nat) (h_Dir : Int) (h_Len : Int) (d_Dir : Int) (d_Len : Int) : Option (Int × Int × Int × Int × Int) := ((F67 n h_Dir h_Len).bind fun y_6 => (bif (!y_6) then (some ((0 : Int), (0 : Int), (0 : Int), (0 : Int), (1 : Int))) else ((F67 n d_Dir d_Len).bind fun y_7 => (bif (!y_7) then (some ((0 : Int), (0 : Int), (0 : Int), (0 : Int), (1 : Int))) else (bif (decide (h_Len > d_Len)) then (F34_j3 n h_Dir h_Len d_Dir d_Len (0 : Int)) else (F34_j3 n h_Dir h_Len d_Dir d_Len (1 : Int)))))))
theorem F34_ok (n : Nat) (h_Dir : Int) (h_Len : Int) (d_Dir : Int) (d_Len : Int) (r : Int × Int × Int × Int × Int) (h : F34 n h_Dir h_Len d_Dir d_Len = some r) : PureC Try.prog 34 [(.st (.cons (.int .i64 h_Dir) (.int .i64 h_Len))), (.st (.cons (.int .i64 d_Dir) (.int .i64 d_Len)))] (.tup (.cons (.st (.cons (.int .i64 r.1) (.cons (.int .i64 r.2.1) (.cons (.int .i64 r.2.2.1) (.int .i64 r.2.2.2.1))))) (.cons (.int .i64 r.2.2.2.2) .nil))) [] := by
  refine PureC.mkS Try.func34 rfl rfl ?_
  intro w0 fz0 hfz
  replace h : ((F67 n h_Dir h_Len).bind fun y_6 => (bif (!y_6) then (some ((0 : Int), (0 : Int), (0 : Int), (0 : Int), (1 : Int))) else ((F67 n d_Dir d_Len).bind fun y_7 => (bif (!y_7) then (some ((0 : Int), (0 : Int), (0 : Int), (0 : Int), (1 : Int))) else (bif (decide (h_Len > d_Len)) then (F34_j3 n h_Dir h_Len d_Dir d_Len (0 : Int)) else (F34_j3 n h_Dir h_Len d_Dir d_Len (1 : Int))))))) = some r := h
  refine TS.seq ?_
  have hq : (True) ∧ ((True) ∧ ((True) ∧ ((True) ∧ (True)))) := ⟨trivial, ⟨trivial, ⟨trivial, ⟨trivial, trivial⟩⟩⟩⟩
  refine TS.reg [] ?_ ?_
  · apply prop_of ?_ hq
    kernel_rfl
  refine XS.then ?_
  refine TS.seq ?_
  refine TS.seq ?_
  obtain ⟨y_6, hx1, h⟩ := bind_some' h
  rcases bif_some h with ⟨c2, h⟩ | ⟨c3, h⟩
  · have hq : (True) ∧ ((PureC Try.prog 67 [(.st (.cons (.int .i64 h_Dir) (.int .i64 h_Len)))] (.bool y_6) []) ∧ ((True) ∧ (((True) ∧ (!y_6) = true) ∧ ((True) ∧ (True))))) := ⟨trivial, ⟨F67_ok n h_Dir h_Len y_6 hx1, ⟨trivial, ⟨⟨trivial, c2⟩, ⟨trivial, trivial⟩⟩⟩⟩⟩
    refine TS.reg [.none, (.call (.bool y_6) []), .none, .dec true] ?_ ?_
    · apply prop_of ?_ hq
      kernel_rfl
    refine XS.then ?_
    refine TS.yes ?_ ?_
    · kernel_rfl
    refine TS.seq ?_
    have hq : (True) ∧ ((True) ∧ ((True) ∧ (True))) := ⟨trivial, ⟨trivial, ⟨trivial, trivial⟩⟩⟩
    refine TS.reg [] ?_ ?_
    · apply prop_of ?_ hq
      kernel_rfl
    refine XS.then ?_
    refine TS.ret ?_
    refine XS.passR ?_
    obtain rfl : ((0 : Int), (0 : Int), (0 : Int), (0 : Int), (1 : Int)) = r := Option.some.inj h
    exact XS.fin [] ((True) ∧ ((True) ∧ (True))) (by kernel_rfl) ⟨trivial, ⟨trivial, trivial⟩⟩
  · obtain ⟨y_7, hx4, h⟩ := bind_some' h
    have hq : (True) ∧ ((PureC Try.prog 67 [(.st (.cons (.int .i64 h_Dir) (.int .i64 h_Len)))] (.bool y_6) []) ∧ ((True) ∧ (((True) ∧ (!y_6) = false) ∧ ((True) ∧ ((PureC Try.prog 67 [(.st (.cons (.int .i64 d_Dir) (.int .i64 d_Len)))] (.bool y_7) []) ∧ ((True) ∧ ((True) ∧ (True)))))))) := ⟨trivial, ⟨F67_ok n h_Dir h_Len y_6 hx1, ⟨trivial, ⟨⟨trivial, c3⟩, ⟨trivial, ⟨F67_ok n d_Dir d_Len y_7 hx4, ⟨trivial, ⟨trivial, trivial⟩⟩⟩⟩⟩⟩⟩⟩
    refine TS.reg [.none, (.call (.bool y_6) []), .none, .dec false, .none, (.call (.bool y_7) [])] ?_ ?_
    · apply prop_of ?_ hq
      kernel_rfl
    refine XS.then ?_
    rcases bif_some h with ⟨c5, h⟩ | ⟨c6, h⟩
    · refine TS.cond (!y_7) ?_ (fun hcz => ?_) (fun hcz => by rw [c5] at hcz; cases hcz)
      · kernel_rfl
      refine TS.seq ?_
      have hq : (True) ∧ ((True) ∧ ((True) ∧ (True))) := ⟨trivial, ⟨trivial, ⟨trivial, trivial⟩⟩⟩
      refine TS.reg [] ?_ ?_
      · apply prop_of ?_ hq
        kernel_rfl
      refine XS.then ?_
      refine TS.ret ?_
      refine XS.passR ?_
      obtain rfl : ((0 : Int), (0 : Int), (0 : Int), (0 : Int), (1 : Int)) = r := Option.some.inj h
      exact XS.fin [] ((True) ∧ ((True) ∧ (True))) (by kernel_rfl) ⟨trivial, ⟨trivial, trivial⟩⟩
    · refine TS.cond (!y_7) ?_ (fun hcz => by rw [c6] at hcz; cases hcz) (fun hcz => ?_)
      · kernel_rfl
      refine TS.skip ?_
      refine XS.then ?_
      refine TS.seq ?_
      have hq : (True) ∧ (True) := ⟨trivial, trivial⟩
      refine TS.reg [] ?_ ?_
      · apply prop_of ?_ hq
        kernel_rfl
      refine XS.then ?_
      refine TS.seq ?_
      refine TS.seq ?_
      have hq : (True) ∧ ((True) ∧ ((True) ∧ ((True) ∧ ((True) ∧ (True))))) := ⟨trivial, ⟨trivial, ⟨trivial, ⟨trivial, ⟨trivial, trivial⟩⟩⟩⟩⟩
      refine TS.reg [] ?_ ?_
      · apply prop_of ?_ hq
        kernel_rfl
      refine XS.then ?_
      refine TS.cut (D := Int) (fun d => match d with | more => (mkTs 69 [(2, (.ptr 0 [])), (3, (.ptr 1 [])), (4, (.ptr 2 [])), (6, (.int .i64 more))], [(.box 70 (.st (.cons (.int .i64 h_Dir) (.int .i64 h_Len)))), (.box 70 (.st (.cons (.int .i64 d_Dir) (.int .i64 d_Len)))), (.box 72 (.st (.cons (.int .i64 (0 : Int)) (.cons (.int .i64 (0 : Int)) (.cons (.int .i64 (0 : Int)) (.int .i64 (0 : Int)))))))])) (fun d => F34_j3 n h_Dir h_Len d_Dir d_Len d = some r) ?_ ?_
      · rintro more h
        replace h : (bif (decide (h_Len < d_Len)) then (F34_j4 n h_Dir h_Len d_Dir d_Len (2 : Int)) else (F34_j4 n h_Dir h_Len d_Dir d_Len more)) = some r := h
        refine XS.then ?_
        refine TS.seq ?_
        refine TS.seq ?_
        have hq : (True) ∧ ((True) ∧ ((True) ∧ ((True) ∧ ((True) ∧ (True))))) := ⟨trivial, ⟨trivial, ⟨trivial, ⟨trivial, ⟨trivial, trivial⟩⟩⟩⟩⟩
        refine TS.reg [] ?_ ?_
        · apply prop_of ?_ hq
          kernel_rfl
        refine XS.then ?_
        refine TS.cut (D := Int) (fun d => match d with | more_2 => (mkTs 69 [(2, (.ptr 0 [])), (3, (.ptr 1 [])), (4, (.ptr 2 [])), (6, (.int .i64 more_2))], [(.box 70 (.st (.cons (.int .i64 h_Dir) (.int .i64 h_Len)))), (.box 70 (.st (.cons (.int .i64 d_Dir) (.int .i64 d_Len)))), (.box 72 (.st (.cons (.int .i64 (0 : Int)) (.cons (.int .i64 (0 : Int)) (.cons (.int .i64 (0 : Int)) (.int .i64 (0 : Int)))))))])) (fun d => F34_j4 n h_Dir h_Len d_Dir d_Len d = some r) ?_ ?_
        · rintro more_2 h
          replace h : (bif inb h_Dir 3 then (bif inb d_Dir 3 then (bif inb more_2 3 then ((F68 n ([2, 3, 7, 8, 10, 13] : List UInt8) (IntKind.wrap .u8 ((((((((List.replicate 3 (List.replicate 3 (List.replicate 3 (0 : Int)))).set 0 ((((List.replicate 3 (List.replicate 3 (0 : Int))).set 0 ((((List.replicate 3 (0 : Int)).set 0 (1 : Int)).set 1 (1 : Int)).set 2 (1 : Int))).set 1 ((((List.replicate 3 (0 : Int)).set 0 (2 : Int)).set 1 (2 : Int)).set 2 (2 : Int))).set 2 ((((List.replicate 3 (0 : Int)).set 0 (3 : Int)).set 1 (3 : Int)).set 2 (3 : Int)))).set 1 ((((List.replicate 3 (List.replicate 3 (0 : Int))).set 0 ((((List.replicate 3 (0 : Int)).set 0 (4 : Int)).set 1 (4 : Int)).set 2 (4 : Int))).set 1 ((((List.replicate 3 (0 : Int)).set 0 (5 : Int)).set 1 (6 : Int)).set 2 (7 : Int))).set 2 ((((List.replicate 3 (0 : Int)).set 0 (8 : Int)).set 1 (8 : Int)).set 2 (8 : Int)))).set 2 ((((List.replicate 3 (List.replicate 3 (0 : Int))).set 0 ((((List.replicate 3 (0 : Int)).set 0 (9 : Int)).set 1 (9 : Int)).set 2 (9 : Int))).set 1 ((((List.replicate 3 (0 : Int)).set 0 (10 : Int)).set 1 (10 : Int)).set 2 (10 : Int))).set 2 ((((List.replicate 3 (0 : Int)).set 0 (11 : Int)).set 1 (12 : Int)).set 2 (13 : Int)))).getD h_Dir.toNat (List.replicate 3 (List.replicate 3 (0 : Int)))).getD d_Dir.toNat (List.replicate 3 (0 : Int))).getD more_2.toNat (0 : Int))))).bind fun y_8 => (bif (decide (y_8 ≥ (0 : Int))) then (some ((((((((List.replicate 3 (List.replicate 3 (List.replicate 3 (0 : Int)))).set 0 ((((List.replicate 3 (List.replicate 3 (0 : Int))).set 0 ((((List.replicate 3 (0 : Int)).set 0 (1 : Int)).set 1 (1 : Int)).set 2 (1 : Int))).set 1 ((((List.replicate 3 (0 : Int)).set 0 (2 : Int)).set 1 (2 : Int)).set 2 (2 : Int))).set 2 ((((List.replicate 3 (0 : Int)).set 0 (3 : Int)).set 1 (3 : Int)).set 2 (3 : Int)))).set 1 ((((List.replicate 3 (List.replicate 3 (0 : Int))).set 0 ((((List.replicate 3 (0 : Int)).set 0 (4 : Int)).set 1 (4 : Int)).set 2 (4 : Int))).set 1 ((((List.replicate 3 (0 : Int)).set 0 (5 : Int)).set 1 (6 : Int)).set 2 (7 : Int))).set 2 ((((List.replicate 3 (0 : Int)).set 0 (8 : Int)).set 1 (8 : Int)).set 2 (8 : Int)))).set 2 ((((List.replicate 3 (List.replicate 3 (0 : Int))).set 0 ((((List.replicate 3 (0 : Int)).set 0 (9 : Int)).set 1 (9 : Int)).set 2 (9 : Int))).set 1 ((((List.replicate 3 (0 : Int)).set 0 (10 : Int)).set 1 (10 : Int)).set 2 (10 : Int))).set 2 ((((List.replicate 3 (0 : Int)).set 0 (11 : Int)).set 1 (12 : Int)).set 2 (13 : Int)))).getD h_Dir.toNat (List.replicate 3 (List.replicate 3 (0 : Int)))).getD d_Dir.toNat (List.replicate 3 (0 : Int))).getD more_2.toNat (0 : Int)), (0 : Int), h_Len, (2 : Int), (0 : Int))) else (some ((((((((List.replicate 3 (List.replicate 3 (List.replicate 3 (0 : Int)))).set 0 ((((List.replicate 3 (List.replicate 3 (0 : Int))).set 0 ((((List.replicate 3 (0 : Int)).set 0 (1 : Int)).set 1 (1 : Int)).set 2 (1 : Int))).set 1 ((((List.replicate 3 (0 : Int)).set 0 (2 : Int)).set 1 (2 : Int)).set 2 (2 : Int))).set 2 ((((List.replicate 3 (0 : Int)).set 0 (3 : Int)).set 1 (3 : Int)).set 2 (3 : Int)))).set 1 ((((List.replicate 3 (List.replicate 3 (0 : Int))).set 0 ((((List.replicate 3 (0 : Int)).set 0 (4 : Int)).set 1 (4 : Int)).set 2 (4 : Int))).set 1 ((((List.replicate 3 (0 : Int)).set 0 (5 : Int)).set 1 (6 : Int)).set 2 (7 : Int))).set 2 ((((List.replicate 3 (0 : Int)).set 0 (8 : Int)).set 1 (8 : Int)).set 2 (8 : Int)))).set 2 ((((List.replicate 3 (List.replicate 3 (0 : Int))).set 0 ((((List.replicate 3 (0 : Int)).set 0 (9 : Int)).set 1 (9 : Int)).set 2 (9 : Int))).set 1 ((((List.replicate 3 (0 : Int)).set 0 (10 : Int)).set 1 (10 : Int)).set 2 (10 : Int))).set 2 ((((List.replicate 3 (0 : Int)).set 0 (11 : Int)).set 1 (12 : Int)).set 2 (13 : Int)))).getD h_Dir.toNat (List.replicate 3 (List.replicate 3 (0 : Int)))).getD d_Dir.toNat (List.replicate 3 (0 : Int))).getD more_2.toNat (0 : Int)), (if d_Len < h_Len then d_Len else h_Len), (IntKind.wrap .i64 (h_Len - (if d_Len < h_Len then d_Len else h_Len))), (0 : Int), (0 : Int))))) else none) else none) else none) = some r := h
          refine XS.then ?_
          refine TS.seq ?_
          obtain ⟨t7, h⟩ := test_some h
          obtain ⟨t8, h⟩ := test_some h
          obtain ⟨t9, h⟩ := test_some h
          have hq : (((0 < 3 ∧ (True)) ∧ ((1 < 3 ∧ (True)) ∧ ((2 < 3 ∧ (True)) ∧ (True)))) ∧ (((0 < 3 ∧ (True)) ∧ ((1 < 3 ∧ (True)) ∧ ((2 < 3 ∧ (True)) ∧ (True)))) ∧ (((0 < 3 ∧ (True)) ∧ ((1 < 3 ∧ (True)) ∧ ((2 < 3 ∧ (True)) ∧ (True)))) ∧ (((0 < 3 ∧ (True)) ∧ ((1 < 3 ∧ (True)) ∧ ((2 < 3 ∧ (True)) ∧ (True)))) ∧ (((0 < 3 ∧ (True)) ∧ ((1 < 3 ∧ (True)) ∧ ((2 < 3 ∧ (True)) ∧ (True)))) ∧ (((0 < 3 ∧ (True)) ∧ ((1 < 3 ∧ (True)) ∧ ((2 < 3 ∧ (True)) ∧ (True)))) ∧ (((0 < 3 ∧ (True)) ∧ ((1 < 3 ∧ (True)) ∧ ((2 < 3 ∧ (True)) ∧ (True)))) ∧ (((0 < 3 ∧ (True)) ∧ ((1 < 3 ∧ (True)) ∧ ((2 < 3 ∧ (True)) ∧ (True)))) ∧ (((0 < 3 ∧ (True)) ∧ ((1 < 3 ∧ (True)) ∧ ((2 < 3 ∧ (True)) ∧ (True)))) ∧ (((0 < 3 ∧ (True)) ∧ ((1 < 3 ∧ (True)) ∧ ((2 < 3 ∧ (True)) ∧ (True)))) ∧ (((0 < 3 ∧ (True)) ∧ ((1 < 3 ∧ (True)) ∧ ((2 < 3 ∧ (True)) ∧ (True)))) ∧ (((0 < 3 ∧ (True)) ∧ ((1 < 3 ∧ (True)) ∧ ((2 < 3 ∧ (True)) ∧ (True)))) ∧ (((0 < 3 ∧ (True)) ∧ ((1 < 3 ∧ (True)) ∧ ((2 < 3 ∧ (True)) ∧ (True)))) ∧ ((True) ∧ ((True) ∧ ((inR h_Dir 3) ∧ ((True) ∧ ((True) ∧ ((inR d_Dir 3) ∧ ((True) ∧ ((inR more_2 3) ∧ (True)))))))))))))))))))))) ∧ ((True) ∧ (True)) := ⟨⟨⟨⟨(by decide), trivial⟩, ⟨⟨(by decide), trivial⟩, ⟨⟨(by decide), trivial⟩, trivial⟩⟩⟩, ⟨⟨⟨(by decide), trivial⟩, ⟨⟨(by decide), trivial⟩, ⟨⟨(by decide), trivial⟩, trivial⟩⟩⟩, ⟨⟨⟨(by decide), trivial⟩, ⟨⟨(by decide), trivial⟩, ⟨⟨(by decide), trivial⟩, trivial⟩⟩⟩, ⟨⟨⟨(by decide), trivial⟩, ⟨⟨(by decide), trivial⟩, ⟨⟨(by decide), trivial⟩, trivial⟩⟩⟩, ⟨⟨⟨(by decide), trivial⟩, ⟨⟨(by decide), trivial⟩, ⟨⟨(by decide), trivial⟩, trivial⟩⟩⟩, ⟨⟨⟨(by decide), trivial⟩, ⟨⟨(by decide), trivial⟩, ⟨⟨(by decide), trivial⟩, trivial⟩⟩⟩, ⟨⟨⟨(by decide), trivial⟩, ⟨⟨(by decide), trivial⟩, ⟨⟨(by decide), trivial⟩, trivial⟩⟩⟩, ⟨⟨⟨(by decide), trivial⟩, ⟨⟨(by decide), trivial⟩, ⟨⟨(by decide), trivial⟩, trivial⟩⟩⟩, ⟨⟨⟨(by decide), trivial⟩, ⟨⟨(by decide), trivial⟩, ⟨⟨(by decide), trivial⟩, trivial⟩⟩⟩, ⟨⟨⟨(by decide), trivial⟩, ⟨⟨(by decide), trivial⟩, ⟨⟨(by decide), trivial⟩, trivial⟩⟩⟩, ⟨⟨⟨(by decide), trivial⟩, ⟨⟨(by decide), trivial⟩, ⟨⟨(by decide), trivial⟩, trivial⟩⟩⟩, ⟨⟨⟨(by decide), trivial⟩, ⟨⟨(by decide), trivial⟩, ⟨⟨(by decide), trivial⟩, trivial⟩⟩⟩, ⟨⟨⟨(by decide), trivial⟩, ⟨⟨(by decide), trivial⟩, ⟨⟨(by decide), trivial⟩, trivial⟩⟩⟩, ⟨trivial, ⟨trivial, ⟨inb_ok t7, ⟨trivial, ⟨trivial, ⟨inb_ok t8, ⟨trivial, ⟨inb_ok t9, trivial⟩⟩⟩⟩⟩⟩⟩⟩⟩⟩⟩⟩⟩⟩⟩⟩⟩⟩⟩⟩⟩, ⟨trivial, trivial⟩⟩
          refine TS.draw 21 [] [] (by kernel_rfl) ?_ ?_
          · apply prop_of ?_ hq
            kernel_rfl
          refine XS.then ?_
          refine TS.seq ?_
          refine TS.seq ?_
          obtain ⟨y_8, hx10, h⟩ := bind_some' h
          have hq : (True) ∧ ((True) ∧ ((PureC Try.prog 68 [(.str ([2, 3, 7, 8, 10, 13] : List UInt8)), (.int .u8 (IntKind.wrap .u8 ((((((((List.replicate 3 (List.replicate 3 (List.replicate 3 (0 : Int)))).set 0 ((((List.replicate 3 (List.replicate 3 (0 : Int))).set 0 ((((List.replicate 3 (0 : Int)).set 0 (1 : Int)).set 1 (1 : Int)).set 2 (1 : Int))).set 1 ((((List.replicate 3 (0 : Int)).set 0 (2 : Int)).set 1 (2 : Int)).set 2 (2 : Int))).set 2 ((((List.replicate 3 (0 : Int)).set 0 (3 : Int)).set 1 (3 : Int)).set 2 (3 : Int)))).set 1 ((((List.replicate 3 (List.replicate 3 (0 : Int))).set 0 ((((List.replicate 3 (0 : Int)).set 0 (4 : Int)).set 1 (4 : Int)).set 2 (4 : Int))).set 1 ((((List.replicate 3 (0 : Int)).set 0 (5 : Int)).set 1 (6 : Int)).set 2 (7 : Int))).set 2 ((((List.replicate 3 (0 : Int)).set 0 (8 : Int)).set 1 (8 : Int)).set 2 (8 : Int)))).set 2 ((((List.replicate 3 (List.replicate 3 (0 : Int))).set 0 ((((List.replicate 3 (0 : Int)).set 0 (9 : Int)).set 1 (9 : Int)).set 2 (9 : Int))).set 1 ((((List.replicate 3 (0 : Int)).set 0 (10 : Int)).set 1 (10 : Int)).set 2 (10 : Int))).set 2 ((((List.replicate 3 (0 : Int)).set 0 (11 : Int)).set 1 (12 : Int)).set 2 (13 : Int)))).getD h_Dir.toNat (List.replicate 3 (List.replicate 3 (0 : Int)))).getD d_Dir.toNat (List.replicate 3 (0 : Int))).getD more_2.toNat (0 : Int)))))] (.int .i64 y_8) []) ∧ ((True) ∧ (True)))) := ⟨trivial, ⟨trivial, ⟨F68_ok n ([2, 3, 7, 8, 10, 13] : List UInt8) (IntKind.wrap .u8 ((((((((List.replicate 3 (List.replicate 3 (List.replicate 3 (0 : Int)))).set 0 ((((List.replicate 3 (List.replicate 3 (0 : Int))).set 0 ((((List.replicate 3 (0 : Int)).set 0 (1 : Int)).set 1 (1 : Int)).set 2 (1 : Int))).set 1 ((((List.replicate 3 (0 : Int)).set 0 (2 : Int)).set 1 (2 : Int)).set 2 (2 : Int))).set 2 ((((List.replicate 3 (0 : Int)).set 0 (3 : Int)).set 1 (3 : Int)).set 2 (3 : Int)))).set 1 ((((List.replicate 3 (List.replicate 3 (0 : Int))).set 0 ((((List.replicate 3 (0 : Int)).set 0 (4 : Int)).set 1 (4 : Int)).set 2 (4 : Int))).set 1 ((((List.replicate 3 (0 : Int)).set 0 (5 : Int)).set 1 (6 : Int)).set 2 (7 : Int))).set 2 ((((List.replicate 3 (0 : Int)).set 0 (8 : Int)).set 1 (8 : Int)).set 2 (8 : Int)))).set 2 ((((List.replicate 3 (List.replicate 3 (0 : Int))).set 0 ((((List.replicate 3 (0 : Int)).set 0 (9 : Int)).set 1 (9 : Int)).set 2 (9 : Int))).set 1 ((((List.replicate 3 (0 : Int)).set 0 (10 : Int)).set 1 (10 : Int)).set 2 (10 : Int))).set 2 ((((List.replicate 3 (0 : Int)).set 0 (11 : Int)).set 1 (12 : Int)).set 2 (13 : Int)))).getD h_Dir.toNat (List.replicate 3 (List.replicate 3 (0 : Int)))).getD d_Dir.toNat (List.replicate 3 (0 : Int))).getD more_2.toNat (0 : Int)))) y_8 hx10, ⟨trivial, trivial⟩⟩⟩⟩
          refine TS.reg [.none, .none, (.call (.int .i64 y_8) [])] ?_ ?_
          · apply prop_of ?_ hq
            kernel_rfl
          refine XS.then ?_
          rcases bif_some h with ⟨c11, h⟩ | ⟨c12, h⟩
          · refine TS.cond (decide (y_8 ≥ (0 : Int))) ?_ (fun hcz => ?_) (fun hcz => by rw [c11] at hcz; cases hcz)
            · kernel_rfl
            refine TS.seq ?_
            have hq : (True) ∧ ((True) ∧ ((True) ∧ (((True) ∧ ((True) ∧ ((True) ∧ (True)))) ∧ ((True) ∧ ((True) ∧ (True)))))) := ⟨trivial, ⟨trivial, ⟨trivial, ⟨⟨trivial, ⟨trivial, ⟨trivial, trivial⟩⟩⟩, ⟨trivial, ⟨trivial, trivial⟩⟩⟩⟩⟩⟩
            refine TS.reg [] ?_ ?_
            · apply prop_of ?_ hq
              kernel_rfl
            refine XS.then ?_
            refine TS.ret ?_
            refine XS.passR ?_
            obtain rfl : ((((((((List.replicate 3 (List.replicate 3 (List.replicate 3 (0 : Int)))).set 0 ((((List.replicate 3 (List.replicate 3 (0 : Int))).set 0 ((((List.replicate 3 (0 : Int)).set 0 (1 : Int)).set 1 (1 : Int)).set 2 (1 : Int))).set 1 ((((List.replicate 3 (0 : Int)).set 0 (2 : Int)).set 1 (2 : Int)).set 2 (2 : Int))).set 2 ((((List.replicate 3 (0 : Int)).set 0 (3 : Int)).set 1 (3 : Int)).set 2 (3 : Int)))).set 1 ((((List.replicate 3 (List.replicate 3 (0 : Int))).set 0 ((((List.replicate 3 (0 : Int)).set 0 (4 : Int)).set 1 (4 : Int)).set 2 (4 : Int))).set 1 ((((List.replicate 3 (0 : Int)).set 0 (5 : Int)).set 1 (6 : Int)).set 2 (7 : Int))).set 2 ((((List.replicate 3 (0 : Int)).set 0 (8 : Int)).set 1 (8 : Int)).set 2 (8 : Int)))).set 2 ((((List.replicate 3 (List.replicate 3 (0 : Int))).set 0 ((((List.replicate 3 (0 : Int)).set 0 (9 : Int)).set 1 (9 : Int)).set 2 (9 : Int))).set 1 ((((List.replicate 3 (0 : Int)).set 0 (10 : Int)).set 1 (10 : Int)).set 2 (10 : Int))).set 2 ((((List.replicate 3 (0 : Int)).set 0 (11 : Int)).set 1 (12 : Int)).set 2 (13 : Int)))).getD h_Dir.toNat (List.replicate 3 (List.replicate 3 (0 : Int)))).getD d_Dir.toNat (List.replicate 3 (0 : Int))).getD more_2.toNat (0 : Int)), (0 : Int), h_Len, (2 : Int), (0 : Int)) = r := Option.some.inj h
            exact XS.fin [] ((True) ∧ ((True) ∧ (True))) (by kernel_rfl) ⟨trivial, ⟨trivial, trivial⟩⟩
          · refine TS.cond (decide (y_8 ≥ (0 : Int))) ?_ (fun hcz => by rw [c12] at hcz; cases hcz) (fun hcz => ?_)
            · kernel_rfl
            refine TS.skip ?_
            refine XS.then ?_
            refine TS.seq ?_
            have hq : (True) ∧ ((True) ∧ ((True) ∧ ((True) ∧ ((True) ∧ ((True) ∧ (True)))))) := ⟨trivial, ⟨trivial, ⟨trivial, ⟨trivial, ⟨trivial, ⟨trivial, trivial⟩⟩⟩⟩⟩⟩
            refine TS.reg [] ?_ ?_
            · apply prop_of ?_ hq
              kernel_rfl
            refine XS.then ?_
            refine TS.seq ?_
            have hq : (True) ∧ ((True) ∧ ((True) ∧ ((True) ∧ ((True) ∧ ((True) ∧ (((True) ∧ ((True) ∧ ((True) ∧ (True)))) ∧ ((True) ∧ ((True) ∧ (True))))))))) := ⟨trivial, ⟨trivial, ⟨trivial, ⟨trivial, ⟨trivial, ⟨trivial, ⟨⟨trivial, ⟨trivial, ⟨trivial, trivial⟩⟩⟩, ⟨trivial, ⟨trivial, trivial⟩⟩⟩⟩⟩⟩⟩⟩⟩
            refine TS.reg [] ?_ ?_
            · apply prop_of ?_ hq
              kernel_rfl
            refine XS.then ?_
            refine TS.ret ?_
            obtain rfl : ((((((((List.replicate 3 (List.replicate 3 (List.replicate 3 (0 : Int)))).set 0 ((((List.replicate 3 (List.replicate 3 (0 : Int))).set 0 ((((List.replicate 3 (0 : Int)).set 0 (1 : Int)).set 1 (1 : Int)).set 2 (1 : Int))).set 1 ((((List.replicate 3 (0 : Int)).set 0 (2 : Int)).set 1 (2 : Int)).set 2 (2 : Int))).set 2 ((((List.replicate 3 (0 : Int)).set 0 (3 : Int)).set 1 (3 : Int)).set 2 (3 : Int)))).set 1 ((((List.replicate 3 (List.replicate 3 (0 : Int))).set 0 ((((List.replicate 3 (0 : Int)).set 0 (4 : Int)).set 1 (4 : Int)).set 2 (4 : Int))).set 1 ((((List.replicate 3 (0 : Int)).set 0 (5 : Int)).set 1 (6 : Int)).set 2 (7 : Int))).set 2 ((((List.replicate 3 (0 : Int)).set 0 (8 : Int)).set 1 (8 : Int)).set 2 (8 : Int)))).set 2 ((((List.replicate 3 (List.replicate 3 (0 : Int))).set 0 ((((List.replicate 3 (0 : Int)).set 0 (9 : Int)).set 1 (9 : Int)).set 2 (9 : Int))).set 1 ((((List.replicate 3 (0 : Int)).set 0 (10 : Int)).set 1 (10 : Int)).set 2 (10 : Int))).set 2 ((((List.replicate 3 (0 : Int)).set 0 (11 : Int)).set 1 (12 : Int)).set 2 (13 : Int)))).getD h_Dir.toNat (List.replicate 3 (List.replicate 3 (0 : Int)))).getD d_Dir.toNat (List.replicate 3 (0 : Int))).getD more_2.toNat (0 : Int)), (if d_Len < h_Len then d_Len else h_Len), (IntKind.wrap .i64 (h_Len - (if d_Len < h_Len then d_Len else h_Len))), (0 : Int), (0 : Int)) = r := Option.some.inj h
            exact XS.fin [] ((True) ∧ ((True) ∧ (True))) (by kernel_rfl) ⟨trivial, ⟨trivial, trivial⟩⟩
        · rcases bif_some h with ⟨c13, h⟩ | ⟨c14, h⟩
          · refine TS.cond (decide (h_Len < d_Len)) ?_ (fun hcz => ?_) (fun hcz => by rw [c13] at hcz; cases hcz)
            · kernel_rfl
            have hq : (True) ∧ (True) := ⟨trivial, trivial⟩
            refine TS.reg [] ?_ ?_
            · apply prop_of ?_ hq
              kernel_rfl
            refine XS.reAny [0, 1, 2] (mkMask 69 [2, 3, 4, 6]) (2 : Int) h ?_
            kernel_rfl
          · refine TS.cond (decide (h_Len < d_Len)) ?_ (fun hcz => by rw [c14] at hcz; cases hcz) (fun hcz => ?_)
            · kernel_rfl
            refine TS.skip ?_
            refine XS.reAny [0, 1, 2] (mkMask 69 [2, 3, 4, 6]) more h ?_
            kernel_rfl
      · rcases bif_some h with ⟨c15, h⟩ | ⟨c16, h⟩
        · refine TS.cond (decide (h_Len > d_Len)) ?_ (fun hcz => ?_) (fun hcz => by rw [c15] at hcz; cases hcz)
          · kernel_rfl
          have hq : (True) ∧ (True) := ⟨trivial, trivial⟩
          refine TS.reg [] ?_ ?_
          · apply prop_of ?_ hq
            kernel_rfl
          refine XS.reAny [0, 1, 2] (mkMask 69 [2, 3, 4, 6]) (0 : Int) h ?_
          kernel_rfl
        · refine TS.cond (decide (h_Len > d_Len)) ?_ (fun hcz => by rw [c16] at hcz; cases hcz) (fun hcz => ?_)
          · kernel_rfl
          refine TS.skip ?_
          refine XS.reAny [0, 1, 2] (mkMask 69 [2, 3, 4, 6]) (1 : Int) h ?_
          kernel_rfl

/-! plugtree/plugref.long -/
def F69 (n : Nat) (vn : Int) : Option Bool := ((F46 n (32 : Int)).bind fun y_2 => ((F57 n vn (0 : Int) (IntKind.wrap .i64 (y_2 - (1 : Int)))).bind fun y_3 => (some y_3)))
theorem F69_ok (n : Nat) (vn : Int) (r : Bool) (h : F69 n vn = some r) : PureC Try.prog 69 [(.int .i64 vn)] (.bool r) [] := by
  refine PureC.mkS Try.func69 rfl rfl ?_
  intro w0 fz0 hfz
  replace h : ((F46 n (32 : Int)).bind fun y_2 => ((F57 n vn (0 : Int) (IntKind.wrap .i64 (y_2 - (1 : Int)))).bind fun y_3 => (some y_3))) = some r := h
  refine TS.seq ?_
  have hq : (True) ∧ (True) := ⟨trivial, trivial⟩
  refine TS.reg [] ?_ ?_
  · apply prop_of ?_ hq
    kernel_rfl
  refine XS.then ?_
  refine TS.seq ?_
  obtain ⟨y_2, hx1, h⟩ := bind_some' h
  obtain ⟨y_3, hx2, h⟩ := bind_some' h
  have hq : (True) ∧ ((PureC Try.prog 46 [(.int .i64 (32 : Int))] (.int .i64 y_2) []) ∧ ((True) ∧ ((PureC Try.prog 57 [(.int .i64 vn), (.int .i64 (0 : Int)), (.int .i64 (IntKind.wrap .i64 (y_2 - (1 : Int))))] (.bool y_3) []) ∧ ((True) ∧ (True))))) := ⟨trivial, ⟨F46_ok n (32 : Int) y_2 hx1, ⟨trivial, ⟨F57_ok n vn (0 : Int) (IntKind.wrap .i64 (y_2 - (1 : Int))) y_3 hx2, ⟨trivial, trivial⟩⟩⟩⟩⟩
  refine TS.reg [.none, (.call (.int .i64 y_2) []), .none, (.call (.bool y_3) [])] ?_ ?_
  · apply prop_of ?_ hq
    kernel_rfl
  refine XS.then ?_
  refine TS.ret ?_
  obtain rfl : y_3 = r := Option.some.inj h
  exact XS.fin [] ((True) ∧ (True)) (by kernel_rfl) ⟨trivial, trivial⟩

/-! plugtree/plugref.bytesOf -/
def F70_l2 (n : Nat) (l : List Int) (k70_2 : (Int × (List Int)) → Option ((List UInt8) × Bool)) : (Int × (List Int)) → Option ((List UInt8) × Bool)
  | (x, m0) => (bif (decide (x < ((l.length : Nat) : Int))) then (bif inb x l.length then ((F57 n (l.getD x.toNat (0 : Int)) (0 : Int) (255 : Int)).bind fun y_3 => (bif (!y_3) then (some (([] : List UInt8), false)) else (bif (decide (m0.length + [(IntKind.wrap .u8 ((l.getD x.toNat (0 : Int))))].length ≤ 140737488355328)) then (k70_2 ((IntKind.wrap .i64 (x + (1 : Int))), (m0 ++ [(IntKind.wrap .u8 ((l.getD x.toNat (0 : Int))))]))) else none))) else none) else (some ((strOf m0), true)))
def F70 (n : Nat) (l : List Int) : Option ((List UInt8) × Bool) := (loopF (F70_l2 n l) n ((0 : Int), ([] : List Int)))
theorem F70_ok (n : Nat) (l : List Int) (r : (List UInt8) × Bool) (h : F70 n l = some r) : PureC Try.prog 70 [(.sl (.int .i64) l)] (.tup (.cons (.str r.1) (.cons (.bool r.2) .nil))) [] := by
  refine PureC.mkS Try.func70 rfl rfl ?_
  intro w0 fz0 hfz
  replace h : (loopF (F70_l2 n l) n ((0 : Int), ([] : List Int))) = some r := h
  refine TS.seq ?_
  have hq : (True) ∧ ((True) ∧ (True)) := ⟨trivial, ⟨trivial, trivial⟩⟩
  refine TS.reg [] ?_ ?_
  · apply prop_of ?_ hq
    kernel_rfl
  refine XS.then ?_
  refine TS.seq ?_
  have hq : (True) ∧ (True) := ⟨trivial, trivial⟩
  refine TS.reg [] ?_ ?_
  · apply prop_of ?_ hq
    kernel_rfl
  refine XS.then ?_
  refine TS.seq ?_
  refine TS.seq ?_
  have hq : (True) ∧ ((True) ∧ ((True) ∧ (True))) := ⟨trivial, ⟨trivial, ⟨trivial, trivial⟩⟩⟩
  refine TS.reg [] ?_ ?_
  · apply prop_of ?_ hq
    kernel_rfl
  refine XS.then ?_
  refine TS.block ?_
  refine TS.wk (.row false 4 [] 5 (.int .u8)) ?_
  refine TS.reLoop [0] (mkMask 24 [4, 7, 8, 9]) (D := Int × (List Int)) (fun d => match d with | (x, m0) => (mkTs 24 [(4, (.row 0)), (7, (.sl (.int .i64) l)), (8, (.int .i64 ((l.length : Nat) : Int))), (9, (.int .i64 x))], [(.row 5 (.int .u8) m0)])) (fun n' d => loopF (F70_l2 n l) n' d = some r) n ((0 : Int), ([] : List Int)) h ?_ (fun d => loopF_zero _ d r) ?_
  · kernel_rfl
  · rintro n2 ⟨x, m0⟩ h
    replace h : (bif (decide (x < ((l.length : Nat) : Int))) then (bif inb x l.length then ((F57 n (l.getD x.toNat (0 : Int)) (0 : Int) (255 : Int)).bind fun y_3 => (bif (!y_3) then (some (([] : List UInt8), false)) else (bif (decide (m0.length + [(IntKind.wrap .u8 ((l.getD x.toNat (0 : Int))))].length ≤ 140737488355328)) then ((loopF (F70_l2 n l) n2) ((IntKind.wrap .i64 (x + (1 : Int))), (m0 ++ [(IntKind.wrap .u8 ((l.getD x.toNat (0 : Int))))]))) else none))) else none) else (some ((strOf m0), true))) = some r := h
    refine TS.seq ?_
    have hq : (True) ∧ (True) := ⟨trivial, trivial⟩
    refine TS.reg [] ?_ ?_
    · apply prop_of ?_ hq
      kernel_rfl
    refine XS.then ?_
    refine TS.seq ?_
    rcases bif_some h with ⟨c1, h⟩ | ⟨c2, h⟩
    · refine TS.cond (decide (x < ((l.length : Nat) : Int))) ?_ (fun hcz => ?_) (fun hcz => by rw [c1] at hcz; cases hcz)
      · kernel_rfl
      refine TS.skip ?_
      refine XS.then ?_
      refine TS.seq ?_
      refine TS.block ?_
      refine TS.seq ?_
      obtain ⟨t3, h⟩ := test_some h
      have hq : (inR x l.length) ∧ ((True) ∧ ((True) ∧ (True))) := ⟨inb_ok t3, ⟨trivial, ⟨trivial, trivial⟩⟩⟩
      refine TS.reg [] ?_ ?_
      · apply prop_of ?_ hq
        kernel_rfl
      refine XS.then ?_
      refine TS.seq ?_
      refine TS.seq ?_
      obtain ⟨y_3, hx4, h⟩ := bind_some' h
      have hq : (True) ∧ ((PureC Try.prog 57 [(.int .i64 (l.getD x.toNat (0 : Int))), (.int .i64 (0 : Int)), (.int .i64 (255 : Int))] (.bool y_3) []) ∧ ((True) ∧ (True))) := ⟨trivial, ⟨F57_ok n (l.getD x.toNat (0 : Int)) (0 : Int) (255 : Int) y_3 hx4, ⟨trivial, trivial⟩⟩⟩
      refine TS.reg [.none, (.call (.bool y_3) [])] ?_ ?_
      · apply prop_of ?_ hq
        kernel_rfl
      refine XS.then ?_
      rcases bif_some h with ⟨c5, h⟩ | ⟨c6, h⟩
      · refine TS.cond (!y_3) ?_ (fun hcz => ?_) (fun hcz => by rw [c5] at hcz; cases hcz)
        · kernel_rfl
        refine TS.seq ?_
        have hq : (True) ∧ ((True) ∧ (True)) := ⟨trivial, ⟨trivial, trivial⟩⟩
        refine TS.reg [] ?_ ?_
        · apply prop_of ?_ hq
          kernel_rfl
        refine XS.then ?_
        refine TS.ret ?_
        refine XS.passR ?_
        refine XS.blockRet ?_
        refine XS.passR ?_
        refine XS.passR ?_
        refine XS.blockRet ?_
        refine XS.passR ?_
        obtain rfl : (([] : List UInt8), false) = r := Option.some.inj h
        exact XS.fin [] ((True) ∧ ((True) ∧ (True))) (by kernel_rfl) ⟨trivial, ⟨trivial, trivial⟩⟩
      · refine TS.cond (!y_3) ?_ (fun hcz => by rw [c6] at hcz; cases hcz) (fun hcz => ?_)
        · kernel_rfl
        refine TS.skip ?_
        refine XS.then ?_
        obtain ⟨t7, h⟩ := test_some h
        have hq : (True) ∧ ((True) ∧ ((True) ∧ (((0 < 1 ∧ True) ∧ (True)) ∧ ((m0.length + [(IntKind.wrap .u8 ((l.getD x.toNat (0 : Int))))].length ≤ 140737488355328) ∧ ((True) ∧ (True)))))) := ⟨trivial, ⟨trivial, ⟨trivial, ⟨⟨⟨by decide, trivial⟩, trivial⟩, ⟨of_decide_eq_true t7, ⟨trivial, trivial⟩⟩⟩⟩⟩⟩
        refine TS.reg [] ?_ ?_
        · apply prop_of ?_ hq
          kernel_rfl
        refine XS.blockEnd ?_
        refine XS.then ?_
        have hq : (True) ∧ ((True) ∧ (True)) := ⟨trivial, ⟨trivial, trivial⟩⟩
        refine TS.reg [] ?_ ?_
        · apply prop_of ?_ hq
          kernel_rfl
        refine XS.reAny [2] (mkMask 24 [4, 7, 8, 9]) ((IntKind.wrap .i64 (x + (1 : Int))), (m0 ++ [(IntKind.wrap .u8 ((l.getD x.toNat (0 : Int))))])) h ?_
        kernel_rfl
    · refine TS.cond (decide (x < ((l.length : Nat) : Int))) ?_ (fun hcz => by rw [c2] at hcz; cases hcz) (fun hcz => ?_)
      · kernel_rfl
      refine TS.exit ?_
      refine XS.passE ?_
      refine XS.passE ?_
      refine XS.out ?_
      refine XS.then ?_
      refine TS.seq ?_
      have hq : (True) ∧ ((True) ∧ ((True) ∧ ((True) ∧ (True)))) := ⟨trivial, ⟨trivial, ⟨trivial, ⟨trivial, trivial⟩⟩⟩⟩
      refine TS.reg [] ?_ ?_
      · apply prop_of ?_ hq
        kernel_rfl
      refine XS.then ?_
      refine TS.ret ?_
      obtain rfl : ((strOf m0), true) = r := Option.some.inj h
      exact XS.fin [] ((True) ∧ ((True) ∧ (True))) (by kernel_rfl) ⟨trivial, ⟨trivial, trivial⟩⟩

/-! plugtree/plugref.TwoBytes -/
def F90 (n : Nat) (vn : Int) : Option (List UInt8) := (some (strOf [(IntKind.wrap .u8 ((vn.tmod (256 : Int)))), (IntKind.wrap .u8 (((IntKind.wrap .i64 (vn.tdiv (256 : Int))).tmod (256 : Int))))]))
theorem F90_ok (n : Nat) (vn : Int) (r : List UInt8) (h : F90 n vn = some r) : PureC Try.prog 90 [(.int .i64 vn)] (.str r) [] := by
  refine PureC.mkS Try.func90 rfl rfl ?_
  intro w0 fz0 hfz
  replace h : (some (strOf [(IntKind.wrap .u8 ((vn.tmod (256 : Int)))), (IntKind.wrap .u8 (((IntKind.wrap .i64 (vn.tdiv (256 : Int))).tmod (256 : Int))))])) = some r := h
  refine TS.seq ?_
  have hq : (True) ∧ (True) := ⟨trivial, trivial⟩
  refine TS.reg [] ?_ ?_
  · apply prop_of ?_ hq
    kernel_rfl
  refine XS.then ?_
  refine TS.seq ?_
  have hq : (True) ∧ (((256 : Int) ≠ 0) ∧ ((True) ∧ ((True) ∧ (((256 : Int) ≠ 0) ∧ (((256 : Int) ≠ 0) ∧ ((True) ∧ (((0 < 2 ∧ True) ∧ ((1 < 2 ∧ True) ∧ (True))) ∧ ((True) ∧ ((True) ∧ (True)))))))))) := ⟨trivial, ⟨by decide, ⟨trivial, ⟨trivial, ⟨by decide, ⟨by decide, ⟨trivial, ⟨⟨⟨by decide, trivial⟩, ⟨⟨by decide, trivial⟩, trivial⟩⟩, ⟨trivial, ⟨trivial, trivial⟩⟩⟩⟩⟩⟩⟩⟩⟩⟩
  refine TS.reg [] ?_ ?_
  · apply prop_of ?_ hq
    kernel_rfl
  refine XS.then ?_
  refine TS.ret ?_
  obtain rfl : (strOf [(IntKind.wrap .u8 ((vn.tmod (256 : Int)))), (IntKind.wrap .u8 (((IntKind.wrap .i64 (vn.tdiv (256 : Int))).tmod (256 : Int))))]) = r := Option.some.inj h
  exact XS.fin [] ((True) ∧ (True)) (by kernel_rfl) ⟨trivial, trivial⟩

/-! plugtree/plugref.Low -/
def F71 (n : Nat) (vn : Int) : Option (List UInt8) := ((F90 n (vn.tmod (65536 : Int))).bind fun y_2 => ((F90 n (IntKind.wrap .i64 (vn.tdiv (65536 : Int)))).bind fun y_3 => (bif (decide (y_2.length + y_3.length ≤ 9223372036854775807)) then (some (y_2 ++ y_3)) else none)))
theorem F71_ok (n : Nat) (vn : Int) (r : List UInt8) (h : F71 n vn = some r) : PureC Try.prog 71 [(.int .i64 vn)] (.str r) [] := by
  refine PureC.mkS Try.func71 rfl rfl ?_
  intro w0 fz0 hfz
  replace h : ((F90 n (vn.tmod (65536 : Int))).bind fun y_2 => ((F90 n (IntKind.wrap .i64 (vn.tdiv (65536 : Int)))).bind fun y_3 => (bif (decide (y_2.length + y_3.length ≤ 9223372036854775807)) then (some (y_2 ++ y_3)) else none))) = some r := h
  refine TS.seq ?_
  have hq : (True) ∧ (True) := ⟨trivial, trivial⟩
  refine TS.reg [] ?_ ?_
  · apply prop_of ?_ hq
    kernel_rfl
  refine XS.then ?_
  refine TS.seq ?_
  obtain ⟨y_2, hx1, h⟩ := bind_some' h
  obtain ⟨y_3, hx2, h⟩ := bind_some' h
  obtain ⟨t3, h⟩ := test_some h
  have hq : (True) ∧ (((65536 : Int) ≠ 0) ∧ ((PureC Try.prog 90 [(.int .i64 (vn.tmod (65536 : Int)))] (.str y_2) []) ∧ ((True) ∧ (((65536 : Int) ≠ 0) ∧ ((PureC Try.prog 90 [(.int .i64 (IntKind.wrap .i64 (vn.tdiv (65536 : Int))))] (.str y_3) []) ∧ ((y_2.length + y_3.length ≤ 9223372036854775807) ∧ ((True) ∧ (True)))))))) := ⟨trivial, ⟨by decide, ⟨F90_ok n (vn.tmod (65536 : Int)) y_2 hx1, ⟨trivial, ⟨by decide, ⟨F90_ok n (IntKind.wrap .i64 (vn.tdiv (65536 : Int))) y_3 hx2, ⟨of_decide_eq_true t3, ⟨trivial, trivial⟩⟩⟩⟩⟩⟩⟩⟩
  refine TS.reg [.none, .none, (.call (.str y_2) []), .none, .none, (.call (.str y_3) [])] ?_ ?_
  · apply prop_of ?_ hq
    kernel_rfl
  refine XS.then ?_
  refine TS.ret ?_
  obtain rfl : (y_2 ++ y_3) = r := Option.some.inj h
  exact XS.fin [] ((True) ∧ (True)) (by kernel_rfl) ⟨trivial, trivial⟩

/-! plugtree/plugref.StatusText -/
def F37_j2 (n : Nat) (t_Tag : Int) (t_Residue : Int) (t_Code : Int) : Bool → Option ((List UInt8) × Int)
  | x => (bif x then (some (([] : List UInt8), (1 : Int))) else ((F70 n [t_Code]).bind fun y_3 => ((F71 n t_Tag).bind fun y_4 => (bif (decide (([85, 83, 66, 83] : List UInt8).length + y_4.length ≤ 9223372036854775807)) then ((F71 n t_Residue).bind fun y_5 => (bif (decide ((([85, 83, 66, 83] : List UInt8) ++ y_4).length + y_5.length ≤ 9223372036854775807)) then (bif (decide (((([85, 83, 66, 83] : List UInt8) ++ y_4) ++ y_5).length + y_3.1.length ≤ 9223372036854775807)) then (some ((((([85, 83, 66, 83] : List UInt8) ++ y_4) ++ y_5) ++ y_3.1), (0 : Int))) else none) else none)) else none))))
def F37 (n : Nat) (t_Tag : Int) (t_Residue : Int) (t_Code : Int) : Option ((List UInt8) × Int) := ((F69 n t_Tag).bind fun y_6 => (bif (!y_6) then (F37_j2 n t_Tag t_Residue t_Code true) else ((F69 n t_Residue).bind fun y_7 => (bif (!y_7) then (F37_j2 n t_Tag t_Residue t_Code true) else ((F57 n t_Code (0 : Int) (2 : Int)).bind fun y_8 => (F37_j2 n t_Tag t_Residue t_Code (!y_8)))))))
theorem F37_ok (n : Nat) (t_Tag : Int) (t_Residue : Int) (t_Code : Int) (r : (List UInt8) × Int) (h : F37 n t_Tag t_Residue t_Code = some r) : PureC Try.prog 37 [(.st (.cons (.int .i64 t_Tag) (.cons (.int .i64 t_Residue) (.int .i64 t_Code))))] (.tup (.cons (.str r.1) (.cons (.int .i64 r.2) .nil))) [] := by
  refine PureC.mkS Try.func37 rfl rfl ?_
  intro w0 fz0 hfz
  replace h : ((F69 n t_Tag).bind fun y_6 => (bif (!y_6) then (F37_j2 n t_Tag t_Residue t_Code true) else ((F69 n t_Residue).bind fun y_7 => (bif (!y_7) then (F37_j2 n t_Tag t_Residue t_Code true) else ((F57 n t_Code (0 : Int) (2 : Int)).bind fun y_8 => (F37_j2 n t_Tag t_Residue t_Code (!y_8))))))) = some r := h
  refine TS.seq ?_
  have hq : (True) ∧ ((True) ∧ ((True) ∧ (True))) := ⟨trivial, ⟨trivial, ⟨trivial, trivial⟩⟩⟩
  refine TS.reg [] ?_ ?_
  · apply prop_of ?_ hq
    kernel_rfl
  refine XS.then ?_
  refine TS.seq ?_
  refine TS.seq ?_
  refine TS.cut (D := Bool) (fun d => match d with | x => (mkTs 39 [(1, (.ptr 0 [])), (21, (.bool x))], [(.box 79 (.st (.cons (.int .i64 t_Tag) (.cons (.int .i64 t_Residue) (.int .i64 t_Code)))))])) (fun d => F37_j2 n t_Tag t_Residue t_Code d = some r) ?_ ?_
  · rintro x h
    replace h : (bif x then (some (([] : List UInt8), (1 : Int))) else ((F70 n [t_Code]).bind fun y_3 => ((F71 n t_Tag).bind fun y_4 => (bif (decide (([85, 83, 66, 83] : List UInt8).length + y_4.length ≤ 9223372036854775807)) then ((F71 n t_Residue).bind fun y_5 => (bif (decide ((([85, 83, 66, 83] : List UInt8) ++ y_4).length + y_5.length ≤ 9223372036854775807)) then (bif (decide (((([85, 83, 66, 83] : List UInt8) ++ y_4) ++ y_5).length + y_3.1.length ≤ 9223372036854775807)) then (some ((((([85, 83, 66, 83] : List UInt8) ++ y_4) ++ y_5) ++ y_3.1), (0 : Int))) else none) else none)) else none)))) = some r := h
    refine XS.then ?_
    rcases bif_some h with ⟨c1, h⟩ | ⟨c2, h⟩
    · refine TS.cond x ?_ (fun hcz => ?_) (fun hcz => by rw [c1] at hcz; cases hcz)
      · kernel_rfl
      refine TS.seq ?_
      have hq : (True) ∧ ((True) ∧ (True)) := ⟨trivial, ⟨trivial, trivial⟩⟩
      refine TS.reg [] ?_ ?_
      · apply prop_of ?_ hq
        kernel_rfl
      refine XS.then ?_
      refine TS.ret ?_
      refine XS.passR ?_
      obtain rfl : (([] : List UInt8), (1 : Int)) = r := Option.some.inj h
      exact XS.fin [] ((True) ∧ ((True) ∧ (True))) (by kernel_rfl) ⟨trivial, ⟨trivial, trivial⟩⟩
    · refine TS.cond x ?_ (fun hcz => by rw [c2] at hcz; cases hcz) (fun hcz => ?_)
      · kernel_rfl
      refine TS.skip ?_
      refine XS.then ?_
      refine TS.seq ?_
      obtain ⟨y_3, hx3, h⟩ := bind_some' h
      have hq : (True) ∧ ((True) ∧ (((0 < 1 ∧ True) ∧ (True)) ∧ ((((True) ∧ (True)) ∧ PureC Try.prog 70 [(.sl (.int .i64) [t_Code])] (.tup (.cons (.str y_3.1) (.cons (.bool y_3.2) .nil))) []) ∧ ((True) ∧ ((True) ∧ ((True) ∧ ((True) ∧ ((True) ∧ (True))))))))) := ⟨trivial, ⟨trivial, ⟨⟨⟨by decide, trivial⟩, trivial⟩, ⟨⟨⟨trivial, trivial⟩, F70_ok n [t_Code] y_3 hx3⟩, ⟨trivial, ⟨trivial, ⟨trivial, ⟨trivial, ⟨trivial, trivial⟩⟩⟩⟩⟩⟩⟩⟩⟩
      refine TS.reg [.none, .none, .none, (.call (.tup (.cons (.str y_3.1) (.cons (.bool y_3.2) .nil))) [])] ?_ ?_
      · apply prop_of ?_ hq
        kernel_rfl
      refine XS.then ?_
      refine TS.seq ?_
      obtain ⟨y_4, hx4, h⟩ := bind_some' h
      obtain ⟨t5, h⟩ := test_some h
      obtain ⟨y_5, hx6, h⟩ := bind_some' h
      obtain ⟨t7, h⟩ := test_some h
      obtain ⟨t8, h⟩ := test_some h
      have hq : ((True) ∧ ((True) ∧ ((PureC Try.prog 71 [(.int .i64 t_Tag)] (.str y_4) []) ∧ ((([85, 83, 66, 83] : List UInt8).length + y_4.length ≤ 9223372036854775807) ∧ ((True) ∧ ((True) ∧ ((PureC Try.prog 71 [(.int .i64 t_Residue)] (.str y_5) []) ∧ (((([85, 83, 66, 83] : List UInt8) ++ y_4).length + y_5.length ≤ 9223372036854775807) ∧ ((True) ∧ ((((([85, 83, 66, 83] : List UInt8) ++ y_4) ++ y_5).length + y_3.1.length ≤ 9223372036854775807) ∧ (True))))))))))) ∧ ((True) ∧ ((True) ∧ (True))) := ⟨⟨trivial, ⟨trivial, ⟨F71_ok n t_Tag y_4 hx4, ⟨of_decide_eq_true t5, ⟨trivial, ⟨trivial, ⟨F71_ok n t_Residue y_5 hx6, ⟨of_decide_eq_true t7, ⟨trivial, ⟨of_decide_eq_true t8, trivial⟩⟩⟩⟩⟩⟩⟩⟩⟩⟩, ⟨trivial, ⟨trivial, trivial⟩⟩⟩
      refine TS.draw 10 [] [.none, .none, (.call (.str y_4) []), .none, .none, .none, (.call (.str y_5) [])] (by kernel_rfl) ?_ ?_
      · apply prop_of ?_ hq
        kernel_rfl
      refine XS.then ?_
      refine TS.ret ?_
      obtain rfl : ((((([85, 83, 66, 83] : List UInt8) ++ y_4) ++ y_5) ++ y_3.1), (0 : Int)) = r := Option.some.inj h
      exact XS.fin [] ((True) ∧ ((True) ∧ (True))) (by kernel_rfl) ⟨trivial, ⟨trivial, trivial⟩⟩
  · obtain ⟨y_6, hx9, h⟩ := bind_some' h
    rcases bif_some h with ⟨c10, h⟩ | ⟨c11, h⟩
    · have hq : (True) ∧ ((True) ∧ ((PureC Try.prog 69 [(.int .i64 t_Tag)] (.bool y_6) []) ∧ ((True) ∧ (((True) ∧ (!y_6) = true) ∧ ((True) ∧ ((True) ∧ ((True) ∧ (True)))))))) := ⟨trivial, ⟨trivial, ⟨F69_ok n t_Tag y_6 hx9, ⟨trivial, ⟨⟨trivial, c10⟩, ⟨trivial, ⟨trivial, ⟨trivial, trivial⟩⟩⟩⟩⟩⟩⟩⟩
      refine TS.reg [.none, .none, (.call (.bool y_6) []), .none, .dec true] ?_ ?_
      · apply prop_of ?_ hq
        kernel_rfl
      refine XS.reAny [0] (mkMask 39 [1, 21]) true h ?_
      kernel_rfl
    · obtain ⟨y_7, hx12, h⟩ := bind_some' h
      rcases bif_some h with ⟨c13, h⟩ | ⟨c14, h⟩
      · have hq : (True) ∧ ((True) ∧ ((PureC Try.prog 69 [(.int .i64 t_Tag)] (.bool y_6) []) ∧ ((True) ∧ (((True) ∧ (!y_6) = false) ∧ ((True) ∧ ((True) ∧ ((PureC Try.prog 69 [(.int .i64 t_Residue)] (.bool y_7) []) ∧ ((True) ∧ ((True) ∧ (((True) ∧ (!y_7) = true) ∧ ((True) ∧ (True)))))))))))) := ⟨trivial, ⟨trivial, ⟨F69_ok n t_Tag y_6 hx9, ⟨trivial, ⟨⟨trivial, c11⟩, ⟨trivial, ⟨trivial, ⟨F69_ok n t_Residue y_7 hx12, ⟨trivial, ⟨trivial, ⟨⟨trivial, c13⟩, ⟨trivial, trivial⟩⟩⟩⟩⟩⟩⟩⟩⟩⟩⟩⟩
        refine TS.reg [.none, .none, (.call (.bool y_6) []), .none, .dec false, .none, .none, (.call (.bool y_7) []), .none, .none, .dec true] ?_ ?_
        · apply prop_of ?_ hq
          kernel_rfl
        refine XS.reAny [0] (mkMask 39 [1, 21]) true h ?_
        kernel_rfl
      · obtain ⟨y_8, hx15, h⟩ := bind_some' h
        have hq : (True) ∧ ((True) ∧ ((PureC Try.prog 69 [(.int .i64 t_Tag)] (.bool y_6) []) ∧ ((True) ∧ (((True) ∧ (!y_6) = false) ∧ ((True) ∧ ((True) ∧ ((PureC Try.prog 69 [(.int .i64 t_Residue)] (.bool y_7) []) ∧ ((True) ∧ ((True) ∧ (((True) ∧ (!y_7) = false) ∧ ((True) ∧ ((True) ∧ ((PureC Try.prog 57 [(.int .i64 t_Code), (.int .i64 (0 : Int)), (.int .i64 (2 : Int))] (.bool y_8) []) ∧ ((True) ∧ ((True) ∧ (True)))))))))))))))) := ⟨trivial, ⟨trivial, ⟨F69_ok n t_Tag y_6 hx9, ⟨trivial, ⟨⟨trivial, c11⟩, ⟨trivial, ⟨trivial, ⟨F69_ok n t_Residue y_7 hx12, ⟨trivial, ⟨trivial, ⟨⟨trivial, c14⟩, ⟨trivial, ⟨trivial, ⟨F57_ok n t_Code (0 : Int) (2 : Int) y_8 hx15, ⟨trivial, ⟨trivial, trivial⟩⟩⟩⟩⟩⟩⟩⟩⟩⟩⟩⟩⟩⟩⟩⟩
        refine TS.reg [.none, .none, (.call (.bool y_6) []), .none, .dec false, .none, .none, (.call (.bool y_7) []), .none, .none, .dec false, .none, .none, (.call (.bool y_8) [])] ?_ ?_
        · apply prop_of ?_ hq
          kernel_rfl
        refine XS.reAny [0] (mkMask 39 [1, 21]) (!y_8) h ?_
        kernel_rfl

/-! plugtree/plugref.Served$1 -/
def F36 (n : Nat) (code : Int) (vTag : Int) (vLength : Int) (vIn : Bool) (vUnit : Int) (vCommand : List UInt8) (vCase : Int) (vMoved : Int) (vResidue : Int) (vCode : Int) : Option (List UInt8) := ((F37 n vTag vResidue code).bind fun y_2 => (some y_2.1))
theorem F36_ok (n : Nat) (code : Int) (vTag : Int) (vLength : Int) (vIn : Bool) (vUnit : Int) (vCommand : List UInt8) (vCase : Int) (vMoved : Int) (vResidue : Int) (vCode : Int) (r : List UInt8) (h : F36 n code vTag vLength vIn vUnit vCommand vCase vMoved vResidue vCode = some r) : PureC Try.prog 36 [(.int .i64 code), (.pv (.st (.cons (.int .i64 vTag) (.cons (.int .i64 vLength) (.cons (.bool vIn) (.cons (.int .i64 vUnit) (.str vCommand))))))), (.pv (.st (.cons (.int .i64 vCase) (.cons (.int .i64 vMoved) (.cons (.int .i64 vResidue) (.int .i64 vCode))))))] (.str r) [] := by
  refine PureC.mkS Try.func36 rfl rfl ?_
  intro w0 fz0 hfz
  replace h : ((F37 n vTag vResidue code).bind fun y_2 => (some y_2.1)) = some r := h
  refine TS.seq ?_
  have hq : (True) ∧ (True) := ⟨trivial, trivial⟩
  refine TS.reg [] ?_ ?_
  · apply prop_of ?_ hq
    kernel_rfl
  refine XS.then ?_
  refine TS.seq ?_
  obtain ⟨y_2, hx1, h⟩ := bind_some' h
  have hq : (True) ∧ ((True) ∧ ((True) ∧ ((True) ∧ ((True) ∧ (((True) ∧ ((True) ∧ ((True) ∧ (True)))) ∧ ((PureC Try.prog 37 [(.st (.cons (.int .i64 vTag) (.cons (.int .i64 vResidue) (.int .i64 code))))] (.tup (.cons (.str y_2.1) (.cons (.int .i64 y_2.2) .nil))) []) ∧ ((True) ∧ ((True) ∧ ((True) ∧ ((True) ∧ ((True) ∧ (True)))))))))))) := ⟨trivial, ⟨trivial, ⟨trivial, ⟨trivial, ⟨trivial, ⟨⟨trivial, ⟨trivial, ⟨trivial, trivial⟩⟩⟩, ⟨F37_ok n vTag vResidue code y_2 hx1, ⟨trivial, ⟨trivial, ⟨trivial, ⟨trivial, ⟨trivial, trivial⟩⟩⟩⟩⟩⟩⟩⟩⟩⟩⟩⟩
  refine TS.reg [.none, .none, .none, .none, .none, .none, (.call (.tup (.cons (.str y_2.1) (.cons (.int .i64 y_2.2) .nil))) [])] ?_ ?_
  · apply prop_of ?_ hq
    kernel_rfl
  refine XS.then ?_
  refine TS.seq ?_
  have hq : (True) ∧ ((True) ∧ (True)) := ⟨trivial, ⟨trivial, trivial⟩⟩
  refine TS.reg [] ?_ ?_
  · apply prop_of ?_ hq
    kernel_rfl
  refine XS.then ?_
  refine TS.ret ?_
  obtain rfl : y_2.1 = r := Option.some.inj h
  exact XS.fin [] ((True) ∧ (True)) (by kernel_rfl) ⟨trivial, trivial⟩
end Go.Proofs.Ytbodjbpgdkkohaa
