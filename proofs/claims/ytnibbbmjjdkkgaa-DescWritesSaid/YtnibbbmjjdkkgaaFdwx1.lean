/- Functions of the program, as functions of values. -/
import Derived.Test.YtnibbbmjjdkkgaaAm28
import Derived.Test.YtnibbbmjjdkkgaaShelf
import Derived.Test.YtnibbbmjjdkkgaaChecked
namespace Go.Proofs.Ytnibbbmjjdkkgaa
open Go Go.RowKit
set_option linter.unusedVariables false
set_option maxRecDepth 100000

/-! plugtree/desc.within -/
def F44_l2 (n : Nat) (most : Int) (l : List Int) (k44_2 : Int → Option Bool) : Int → Option Bool
  | x => (bif (decide (x < ((l.length : Nat) : Int))) then (bif inb x l.length then (bif (decide ((l.getD x.toNat (0 : Int)) < (0 : Int))) then (some false) else (bif (decide ((l.getD x.toNat (0 : Int)) > most)) then (some false) else (k44_2 (IntKind.wrap .i64 (x + (1 : Int)))))) else none) else (some true))
def F44 (n : Nat) (most : Int) (l : List Int) : Option Bool := (loopF (F44_l2 n most l) n (0 : Int))
theorem F44_ok (n : Nat) (most : Int) (l : List Int) (r : Bool) (h : F44 n most l = some r) : PureC Try.prog 44 [(.int .i64 most), (.sl (.int .i64) l)] (.bool r) [] := by
  refine PureC.mkS Try.func44 rfl rfl ?_
  intro w0 fz0 hfz
  replace h : (loopF (F44_l2 n most l) n (0 : Int)) = some r := h
  refine TS.seq ?_
  have hq : (True) ∧ (True) := ⟨trivial, trivial⟩
  refine TS.reg [] ?_ ?_
  · apply prop_of ?_ hq
    kernel_rfl
  refine XS.then ?_
  refine TS.seq ?_
  refine TS.seq ?_
  have hq : (True) ∧ ((True) ∧ ((True) ∧ (True))) := ⟨trivial, ⟨trivial, ⟨trivial, trivial⟩⟩⟩
  refine TS.reg [] ?_ ?_
  · apply prop_of ?_ hq
    kernel_rfl
  refine XS.then ?_
  refine TS.block ?_
  refine TS.reLoop [] (mkMask 21 [0, 7, 8, 9]) (D := Int) (fun d => match d with | x => (mkTs 21 [(0, (.int .i64 most)), (7, (.sl (.int .i64) l)), (8, (.int .i64 ((l.length : Nat) : Int))), (9, (.int .i64 x))], [])) (fun n' d => loopF (F44_l2 n most l) n' d = some r) n (0 : Int) h ?_ (fun d => loopF_zero _ d r) ?_
  · kernel_rfl
  · rintro n2 x h
    replace h : (bif (decide (x < ((l.length : Nat) : Int))) then (bif inb x l.length then (bif (decide ((l.getD x.toNat (0 : Int)) < (0 : Int))) then (some false) else (bif (decide ((l.getD x.toNat (0 : Int)) > most)) then (some false) else ((loopF (F44_l2 n most l) n2) (IntKind.wrap .i64 (x + (1 : Int)))))) else none) else (some true)) = some r := h
    refine TS.seq ?_
    have hq : (True) ∧ (True) := ⟨trivial, trivial⟩
    refine TS.reg [] ?_ ?_
    · apply prop_of ?_ hq
      kernel_rfl
    refine XS.then ?_
    refine TS.seq ?_
    rcases bif_some h with ⟨c1, h⟩ | ⟨c2, h⟩
    · refine TS.cond (decide (x < ((l.length : Nat) : Int))) ?_ (fun hcz => ?_) (fun hcz => by rw [c1] at hcz; cases hcz)
      · kernel_rfl
      refine TS.skip ?_
      refine XS.then ?_
      refine TS.seq ?_
      refine TS.block ?_
      refine TS.seq ?_
      obtain ⟨t3, h⟩ := test_some h
      have hq : (inR x l.length) ∧ ((True) ∧ ((True) ∧ (True))) := ⟨inb_ok t3, ⟨trivial, ⟨trivial, trivial⟩⟩⟩
      refine TS.reg [] ?_ ?_
      · apply prop_of ?_ hq
        kernel_rfl
      refine XS.then ?_
      refine TS.seq ?_
      rcases bif_some h with ⟨c4, h⟩ | ⟨c5, h⟩
      · have hq : (True) ∧ ((True) ∧ (((True) ∧ (decide ((l.getD x.toNat (0 : Int)) < (0 : Int))) = true) ∧ ((True) ∧ (True)))) := ⟨trivial, ⟨trivial, ⟨⟨trivial, c4⟩, ⟨trivial, trivial⟩⟩⟩⟩
        refine TS.reg [.none, .none, .dec true] ?_ ?_
        · apply prop_of ?_ hq
          kernel_rfl
        refine XS.then ?_
        refine TS.yes ?_ ?_
        · kernel_rfl
        refine TS.seq ?_
        have hq : (True) ∧ (True) := ⟨trivial, trivial⟩
        refine TS.reg [] ?_ ?_
        · apply prop_of ?_ hq
          kernel_rfl
        refine XS.then ?_
        refine TS.ret ?_
        refine XS.blockRet ?_
        refine XS.passR ?_
        refine XS.passR ?_
        refine XS.blockRet ?_
        refine XS.passR ?_
        obtain rfl : false = r := Option.some.inj h
        exact XS.fin [] ((True) ∧ (True)) (by kernel_rfl) ⟨trivial, trivial⟩
      · have hq : (True) ∧ ((True) ∧ (((True) ∧ (decide ((l.getD x.toNat (0 : Int)) < (0 : Int))) = false) ∧ ((True) ∧ ((True) ∧ ((True) ∧ ((True) ∧ (True))))))) := ⟨trivial, ⟨trivial, ⟨⟨trivial, c5⟩, ⟨trivial, ⟨trivial, ⟨trivial, ⟨trivial, trivial⟩⟩⟩⟩⟩⟩⟩
        refine TS.reg [.none, .none, .dec false] ?_ ?_
        · apply prop_of ?_ hq
          kernel_rfl
        refine XS.then ?_
        rcases bif_some h with ⟨c6, h⟩ | ⟨c7, h⟩
        · refine TS.cond (decide ((l.getD x.toNat (0 : Int)) > most)) ?_ (fun hcz => ?_) (fun hcz => by rw [c6] at hcz; cases hcz)
          · kernel_rfl
          refine TS.seq ?_
          have hq : (True) ∧ (True) := ⟨trivial, trivial⟩
          refine TS.reg [] ?_ ?_
          · apply prop_of ?_ hq
            kernel_rfl
          refine XS.then ?_
          refine TS.ret ?_
          refine XS.blockRet ?_
          refine XS.passR ?_
          refine XS.passR ?_
          refine XS.blockRet ?_
          refine XS.passR ?_
          obtain rfl : false = r := Option.some.inj h
          exact XS.fin [] ((True) ∧ (True)) (by kernel_rfl) ⟨trivial, trivial⟩
        · refine TS.cond (decide ((l.getD x.toNat (0 : Int)) > most)) ?_ (fun hcz => by rw [c7] at hcz; cases hcz) (fun hcz => ?_)
          · kernel_rfl
          refine TS.skip ?_
          refine XS.blockEnd ?_
          refine XS.then ?_
          have hq : (True) ∧ ((True) ∧ (True)) := ⟨trivial, ⟨trivial, trivial⟩⟩
          refine TS.reg [] ?_ ?_
          · apply prop_of ?_ hq
            kernel_rfl
          refine XS.reAny [] (mkMask 21 [0, 7, 8, 9]) (IntKind.wrap .i64 (x + (1 : Int))) h ?_
          kernel_rfl
    · refine TS.cond (decide (x < ((l.length : Nat) : Int))) ?_ (fun hcz => by rw [c2] at hcz; cases hcz) (fun hcz => ?_)
      · kernel_rfl
      refine TS.exit ?_
      refine XS.passE ?_
      refine XS.passE ?_
      refine XS.out ?_
      refine XS.then ?_
      refine TS.seq ?_
      have hq : (True) ∧ (True) := ⟨trivial, trivial⟩
      refine TS.reg [] ?_ ?_
      · apply prop_of ?_ hq
        kernel_rfl
      refine XS.then ?_
      refine TS.ret ?_
      obtain rfl : true = r := Option.some.inj h
      exact XS.fin [] ((True) ∧ (True)) (by kernel_rfl) ⟨trivial, trivial⟩

/-! plugtree/desc.bytes -/
def F16 (n : Nat) (l : List Int) : Option Bool := ((F44 n (255 : Int) l).bind fun y_2 => (some y_2))
theorem F16_ok (n : Nat) (l : List Int) (r : Bool) (h : F16 n l = some r) : PureC Try.prog 16 [(.sl (.int .i64) l)] (.bool r) [] := by
  refine PureC.mkS Try.func16 rfl rfl ?_
  intro w0 fz0 hfz
  replace h : ((F44 n (255 : Int) l).bind fun y_2 => (some y_2)) = some r := h
  refine TS.seq ?_
  have hq : (True) ∧ (True) := ⟨trivial, trivial⟩
  refine TS.reg [] ?_ ?_
  · apply prop_of ?_ hq
    kernel_rfl
  refine XS.then ?_
  refine TS.seq ?_
  obtain ⟨y_2, hx1, h⟩ := bind_some' h
  have hq : (True) ∧ ((PureC Try.prog 44 [(.int .i64 (255 : Int)), (.sl (.int .i64) l)] (.bool y_2) []) ∧ ((True) ∧ (True))) := ⟨trivial, ⟨F44_ok n (255 : Int) l y_2 hx1, ⟨trivial, trivial⟩⟩⟩
  refine TS.reg [.none, (.call (.bool y_2) [])] ?_ ?_
  · apply prop_of ?_ hq
    kernel_rfl
  refine XS.then ?_
  refine TS.ret ?_
  obtain rfl : y_2 = r := Option.some.inj h
  exact XS.fin [] ((True) ∧ (True)) (by kernel_rfl) ⟨trivial, trivial⟩

/-! plugtree/desc.extra -/
def F45 (n : Nat) (s : List UInt8) : Option Bool := (bif (decide (((s.length : Nat) : Int) ≥ (2 : Int))) then (bif (decide (((s.length : Nat) : Int) ≤ (32 : Int))) then (bif inb (0 : Int) s.length then (bif ((IntKind.wrap .i64 ((((s.getD 0 0).toNat : Nat) : Int))) == ((s.length : Nat) : Int)) then (bif inb (1 : Int) s.length then (some (decide ((((s.getD 1 0).toNat : Nat) : Int) ≥ (6 : Int)))) else none) else (some false)) else none) else (some false)) else (some false))
theorem F45_ok (n : Nat) (s : List UInt8) (r : Bool) (h : F45 n s = some r) : PureC Try.prog 45 [(.str s)] (.bool r) [] := by
  refine PureC.mkS Try.func45 rfl rfl ?_
  intro w0 fz0 hfz
  replace h : (bif (decide (((s.length : Nat) : Int) ≥ (2 : Int))) then (bif (decide (((s.length : Nat) : Int) ≤ (32 : Int))) then (bif inb (0 : Int) s.length then (bif ((IntKind.wrap .i64 ((((s.getD 0 0).toNat : Nat) : Int))) == ((s.length : Nat) : Int)) then (bif inb (1 : Int) s.length then (some (decide ((((s.getD 1 0).toNat : Nat) : Int) ≥ (6 : Int)))) else none) else (some false)) else none) else (some false)) else (some false)) = some r := h
  refine TS.seq ?_
  have hq : (True) ∧ (True) := ⟨trivial, trivial⟩
  refine TS.reg [] ?_ ?_
  · apply prop_of ?_ hq
    kernel_rfl
  refine XS.then ?_
  refine TS.seq ?_
  rcases bif_some h with ⟨c1, h⟩ | ⟨c2, h⟩
  · rcases bif_some h with ⟨c3, h⟩ | ⟨c4, h⟩
    · obtain ⟨t5, h⟩ := test_some h
      rcases bif_some h with ⟨c6, h⟩ | ⟨c7, h⟩
      · obtain ⟨t8, h⟩ := test_some h
        have hq : (True) ∧ ((True) ∧ ((True) ∧ (((True) ∧ (decide (((s.length : Nat) : Int) ≥ (2 : Int))) = true) ∧ ((True) ∧ ((True) ∧ ((True) ∧ ((True) ∧ (((True) ∧ (decide (((s.length : Nat) : Int) ≤ (32 : Int))) = true) ∧ ((True) ∧ ((inR (0 : Int) s.length) ∧ ((True) ∧ ((True) ∧ ((True) ∧ ((True) ∧ ((True) ∧ (((True) ∧ ((IntKind.wrap .i64 ((((s.getD 0 0).toNat : Nat) : Int))) == ((s.length : Nat) : Int)) = true) ∧ ((True) ∧ ((inR (1 : Int) s.length) ∧ ((True) ∧ ((True) ∧ ((True) ∧ (True)))))))))))))))))))))) := ⟨trivial, ⟨trivial, ⟨trivial, ⟨⟨trivial, c1⟩, ⟨trivial, ⟨trivial, ⟨trivial, ⟨trivial, ⟨⟨trivial, c3⟩, ⟨trivial, ⟨inb_ok t5, ⟨trivial, ⟨trivial, ⟨trivial, ⟨trivial, ⟨trivial, ⟨⟨trivial, c6⟩, ⟨trivial, ⟨inb_ok t8, ⟨trivial, ⟨trivial, ⟨trivial, trivial⟩⟩⟩⟩⟩⟩⟩⟩⟩⟩⟩⟩⟩⟩⟩⟩⟩⟩⟩⟩⟩⟩
        refine TS.reg [.none, .none, .none, .dec true, .none, .none, .none, .none, .dec true, .none, .none, .none, .none, .none, .none, .none, .dec true] ?_ ?_
        · apply prop_of ?_ hq
          kernel_rfl
        refine XS.then ?_
        refine TS.ret ?_
        obtain rfl : (decide ((((s.getD 1 0).toNat : Nat) : Int) ≥ (6 : Int))) = r := Option.some.inj h
        exact XS.fin [] ((True) ∧ (True)) (by kernel_rfl) ⟨trivial, trivial⟩
      · have hq : (True) ∧ ((True) ∧ ((True) ∧ (((True) ∧ (decide (((s.length : Nat) : Int) ≥ (2 : Int))) = true) ∧ ((True) ∧ ((True) ∧ ((True) ∧ ((True) ∧ (((True) ∧ (decide (((s.length : Nat) : Int) ≤ (32 : Int))) = true) ∧ ((True) ∧ ((inR (0 : Int) s.length) ∧ ((True) ∧ ((True) ∧ ((True) ∧ ((True) ∧ ((True) ∧ (((True) ∧ ((IntKind.wrap .i64 ((((s.getD 0 0).toNat : Nat) : Int))) == ((s.length : Nat) : Int)) = false) ∧ ((True) ∧ ((True) ∧ (True))))))))))))))))))) := ⟨trivial, ⟨trivial, ⟨trivial, ⟨⟨trivial, c1⟩, ⟨trivial, ⟨trivial, ⟨trivial, ⟨trivial, ⟨⟨trivial, c3⟩, ⟨trivial, ⟨inb_ok t5, ⟨trivial, ⟨trivial, ⟨trivial, ⟨trivial, ⟨trivial, ⟨⟨trivial, c7⟩, ⟨trivial, ⟨trivial, trivial⟩⟩⟩⟩⟩⟩⟩⟩⟩⟩⟩⟩⟩⟩⟩⟩⟩⟩⟩
        refine TS.reg [.none, .none, .none, .dec true, .none, .none, .none, .none, .dec true, .none, .none, .none, .none, .none, .none, .none, .dec false] ?_ ?_
        · apply prop_of ?_ hq
          kernel_rfl
        refine XS.then ?_
        refine TS.ret ?_
        obtain rfl : false = r := Option.some.inj h
        exact XS.fin [] ((True) ∧ (True)) (by kernel_rfl) ⟨trivial, trivial⟩
    · have hq : (True) ∧ ((True) ∧ ((True) ∧ (((True) ∧ (decide (((s.length : Nat) : Int) ≥ (2 : Int))) = true) ∧ ((True) ∧ ((True) ∧ ((True) ∧ ((True) ∧ (((True) ∧ (decide (((s.length : Nat) : Int) ≤ (32 : Int))) = false) ∧ ((True) ∧ ((True) ∧ ((True) ∧ ((True) ∧ (True))))))))))))) := ⟨trivial, ⟨trivial, ⟨trivial, ⟨⟨trivial, c1⟩, ⟨trivial, ⟨trivial, ⟨trivial, ⟨trivial, ⟨⟨trivial, c4⟩, ⟨trivial, ⟨trivial, ⟨trivial, ⟨trivial, trivial⟩⟩⟩⟩⟩⟩⟩⟩⟩⟩⟩⟩⟩
      refine TS.reg [.none, .none, .none, .dec true, .none, .none, .none, .none, .dec false] ?_ ?_
      · apply prop_of ?_ hq
        kernel_rfl
      refine XS.then ?_
      refine TS.ret ?_
      obtain rfl : false = r := Option.some.inj h
      exact XS.fin [] ((True) ∧ (True)) (by kernel_rfl) ⟨trivial, trivial⟩
  · have hq : (True) ∧ ((True) ∧ ((True) ∧ (((True) ∧ (decide (((s.length : Nat) : Int) ≥ (2 : Int))) = false) ∧ ((True) ∧ ((True) ∧ ((True) ∧ ((True) ∧ ((True) ∧ ((True) ∧ (True)))))))))) := ⟨trivial, ⟨trivial, ⟨trivial, ⟨⟨trivial, c2⟩, ⟨trivial, ⟨trivial, ⟨trivial, ⟨trivial, ⟨trivial, ⟨trivial, trivial⟩⟩⟩⟩⟩⟩⟩⟩⟩⟩
    refine TS.reg [.none, .none, .none, .dec false] ?_ ?_
    · apply prop_of ?_ hq
      kernel_rfl
    refine XS.then ?_
    refine TS.ret ?_
    obtain rfl : false = r := Option.some.inj h
    exact XS.fin [] ((True) ∧ (True)) (by kernel_rfl) ⟨trivial, trivial⟩

/-! plugtree/desc.put -/
def F18_l2 (n : Nat) (l : List Int) (k18_2 : (Int × (List Int)) → Option (List UInt8)) : (Int × (List Int)) → Option (List UInt8)
  | (x, m0) => (bif (decide (x < ((l.length : Nat) : Int))) then (bif inb x l.length then (bif (decide (m0.length + [(IntKind.wrap .u8 ((l.getD x.toNat (0 : Int))))].length ≤ 140737488355328)) then (k18_2 ((IntKind.wrap .i64 (x + (1 : Int))), (m0 ++ [(IntKind.wrap .u8 ((l.getD x.toNat (0 : Int))))]))) else none) else none) else (some (strOf m0)))
def F18 (n : Nat) (l : List Int) : Option (List UInt8) := (loopF (F18_l2 n l) n ((0 : Int), ([] : List Int)))
theorem F18_ok (n : Nat) (l : List Int) (r : List UInt8) (h : F18 n l = some r) : PureC Try.prog 18 [(.sl (.int .i64) l)] (.str r) [] := by
  refine PureC.mkS Try.func18 rfl rfl ?_
  intro w0 fz0 hfz
  replace h : (loopF (F18_l2 n l) n ((0 : Int), ([] : List Int))) = some r := h
  refine TS.seq ?_
  have hq : (True) ∧ (True) := ⟨trivial, trivial⟩
  refine TS.reg [] ?_ ?_
  · apply prop_of ?_ hq
    kernel_rfl
  refine XS.then ?_
  refine TS.seq ?_
  have hq : (True) ∧ (True) := ⟨trivial, trivial⟩
  refine TS.reg [] ?_ ?_
  · apply prop_of ?_ hq
    kernel_rfl
  refine XS.then ?_
  refine TS.seq ?_
  refine TS.seq ?_
  have hq : (True) ∧ ((True) ∧ ((True) ∧ (True))) := ⟨trivial, ⟨trivial, ⟨trivial, trivial⟩⟩⟩
  refine TS.reg [] ?_ ?_
  · apply prop_of ?_ hq
    kernel_rfl
  refine XS.then ?_
  refine TS.block ?_
  refine TS.wk (.row false 3 [] 5 (.int .u8)) ?_
  refine TS.reLoop [0] (mkMask 20 [3, 6, 7, 8]) (D := Int × (List Int)) (fun d => match d with | (x, m0) => (mkTs 20 [(3, (.row 0)), (6, (.sl (.int .i64) l)), (7, (.int .i64 ((l.length : Nat) : Int))), (8, (.int .i64 x))], [(.row 5 (.int .u8) m0)])) (fun n' d => loopF (F18_l2 n l) n' d = some r) n ((0 : Int), ([] : List Int)) h ?_ (fun d => loopF_zero _ d r) ?_
  · kernel_rfl
  · rintro n2 ⟨x, m0⟩ h
    replace h : (bif (decide (x < ((l.length : Nat) : Int))) then (bif inb x l.length then (bif (decide (m0.length + [(IntKind.wrap .u8 ((l.getD x.toNat (0 : Int))))].length ≤ 140737488355328)) then ((loopF (F18_l2 n l) n2) ((IntKind.wrap .i64 (x + (1 : Int))), (m0 ++ [(IntKind.wrap .u8 ((l.getD x.toNat (0 : Int))))]))) else none) else none) else (some (strOf m0))) = some r := h
    refine TS.seq ?_
    have hq : (True) ∧ (True) := ⟨trivial, trivial⟩
    refine TS.reg [] ?_ ?_
    · apply prop_of ?_ hq
      kernel_rfl
    refine XS.then ?_
    refine TS.seq ?_
    rcases bif_some h with ⟨c1, h⟩ | ⟨c2, h⟩
    · refine TS.cond (decide (x < ((l.length : Nat) : Int))) ?_ (fun hcz => ?_) (fun hcz => by rw [c1] at hcz; cases hcz)
      · kernel_rfl
      refine TS.skip ?_
      refine XS.then ?_
      refine TS.seq ?_
      refine TS.block ?_
      refine TS.seq ?_
      obtain ⟨t3, h⟩ := test_some h
      have hq : (inR x l.length) ∧ ((True) ∧ ((True) ∧ (True))) := ⟨inb_ok t3, ⟨trivial, ⟨trivial, trivial⟩⟩⟩
      refine TS.reg [] ?_ ?_
      · apply prop_of ?_ hq
        kernel_rfl
      refine XS.then ?_
      obtain ⟨t4, h⟩ := test_some h
      have hq : (True) ∧ ((True) ∧ ((True) ∧ (((0 < 1 ∧ True) ∧ (True)) ∧ ((m0.length + [(IntKind.wrap .u8 ((l.getD x.toNat (0 : Int))))].length ≤ 140737488355328) ∧ ((True) ∧ (True)))))) := ⟨trivial, ⟨trivial, ⟨trivial, ⟨⟨⟨by decide, trivial⟩, trivial⟩, ⟨of_decide_eq_true t4, ⟨trivial, trivial⟩⟩⟩⟩⟩⟩
      refine TS.reg [] ?_ ?_
      · apply prop_of ?_ hq
        kernel_rfl
      refine XS.blockEnd ?_
      refine XS.then ?_
      have hq : (True) ∧ ((True) ∧ (True)) := ⟨trivial, ⟨trivial, trivial⟩⟩
      refine TS.reg [] ?_ ?_
      · apply prop_of ?_ hq
        kernel_rfl
      refine XS.reAny [2] (mkMask 20 [3, 6, 7, 8]) ((IntKind.wrap .i64 (x + (1 : Int))), (m0 ++ [(IntKind.wrap .u8 ((l.getD x.toNat (0 : Int))))])) h ?_
      kernel_rfl
    · refine TS.cond (decide (x < ((l.length : Nat) : Int))) ?_ (fun hcz => by rw [c2] at hcz; cases hcz) (fun hcz => ?_)
      · kernel_rfl
      refine TS.exit ?_
      refine XS.passE ?_
      refine XS.passE ?_
      refine XS.out ?_
      refine XS.then ?_
      refine TS.seq ?_
      have hq : (True) ∧ ((True) ∧ ((True) ∧ (True))) := ⟨trivial, ⟨trivial, ⟨trivial, trivial⟩⟩⟩
      refine TS.reg [] ?_ ?_
      · apply prop_of ?_ hq
        kernel_rfl
      refine XS.then ?_
      refine TS.ret ?_
      obtain rfl : (strOf m0) = r := Option.some.inj h
      exact XS.fin [] ((True) ∧ (True)) (by kernel_rfl) ⟨trivial, trivial⟩

/-! strings.Join -/
def F19 (n : Nat) (elems : List (List UInt8)) (sep : List UInt8) : Option (List UInt8) := bif decide ((Lib.join elems sep).length ≤ 140737488355328 ∧ elems.length ≤ 140737488355328) then some (Lib.join elems sep) else none
theorem F19_ok (n : Nat) (elems : List (List UInt8)) (sep : List UInt8) (r : List UInt8) (h : F19 n elems sep = some r) : PureC Try.prog 19 [(.sl .str elems), (.str sep)] (.str r) [] := by
  unfold F19 at h
  obtain ⟨c, h⟩ := test_some h
  obtain rfl := Option.some.inj h
  exact PureC.join elems sep (of_decide_eq_true c) Try.strings_Join_none Try.strings_Join

/-! plugtree/desc.word -/
def F20 (n : Nat) (vn : Int) : Option (List UInt8) := ((F18 n [vn, (shrI .i64 vn (8 : Int))]).bind fun y_2 => (some y_2))
theorem F20_ok (n : Nat) (vn : Int) (r : List UInt8) (h : F20 n vn = some r) : PureC Try.prog 20 [(.int .i64 vn)] (.str r) [] := by
  refine PureC.mkS Try.func20 rfl rfl ?_
  intro w0 fz0 hfz
  replace h : ((F18 n [vn, (shrI .i64 vn (8 : Int))]).bind fun y_2 => (some y_2)) = some r := h
  refine TS.seq ?_
  have hq : (True) ∧ (True) := ⟨trivial, trivial⟩
  refine TS.reg [] ?_ ?_
  · apply prop_of ?_ hq
    kernel_rfl
  refine XS.then ?_
  refine TS.seq ?_
  obtain ⟨y_2, hx1, h⟩ := bind_some' h
  have hq : (True) ∧ ((True) ∧ ((0 ≤ (8 : Int)) ∧ (((0 < 2 ∧ True) ∧ ((1 < 2 ∧ True) ∧ (True))) ∧ ((((True) ∧ (True)) ∧ PureC Try.prog 18 [(.sl (.int .i64) [vn, (shrI .i64 vn (8 : Int))])] (.str y_2) []) ∧ ((True) ∧ (True)))))) := ⟨trivial, ⟨trivial, ⟨by decide, ⟨⟨⟨by decide, trivial⟩, ⟨⟨by decide, trivial⟩, trivial⟩⟩, ⟨⟨⟨trivial, trivial⟩, F18_ok n [vn, (shrI .i64 vn (8 : Int))] y_2 hx1⟩, ⟨trivial, trivial⟩⟩⟩⟩⟩⟩
  refine TS.reg [.none, .none, .none, .none, (.call (.str y_2) [])] ?_ ?_
  · apply prop_of ?_ hq
    kernel_rfl
  refine XS.then ?_
  refine TS.ret ?_
  obtain rfl : y_2 = r := Option.some.inj h
  exact XS.fin [] ((True) ∧ (True)) (by kernel_rfl) ⟨trivial, trivial⟩

/-! plugtree/desc.WriteConfig -/
def F7_j177 (n : Nat) (k7_176 : ((List UInt8) × Int) → Option ((List UInt8) × Int)) (c_Faces : List (Int × Int × Int × Int × (List (List UInt8)) × List (Int × Bool × Int × Int × Int))) (x_2 : Int) (rest_2 : List UInt8) (x_4 : Int) : Int → Option ((List UInt8) × Int)
  | addr => ((F18 n ([(7 : Int), (5 : Int), addr, (((c_Faces.getD x_2.toNat ((0 : Int), ((0 : Int), ((0 : Int), ((0 : Int), (([] : List (List UInt8)), ([] : List (Int × Bool × Int × Int × Int)))))))).2.2.2.2.2).getD x_4.toNat ((0 : Int), (false, ((0 : Int), ((0 : Int), (0 : Int)))))).2.2.1])).bind fun y_5 => ((F20 n ((((c_Faces.getD x_2.toNat ((0 : Int), ((0 : Int), ((0 : Int), ((0 : Int), (([] : List (List UInt8)), ([] : List (Int × Bool × Int × Int × Int)))))))).2.2.2.2.2).getD x_4.toNat ((0 : Int), (false, ((0 : Int), ((0 : Int), (0 : Int)))))).2.2.2.1)).bind fun y_6 => (bif (decide (y_5.length + y_6.length ≤ 9223372036854775807)) then ((F18 n ([(((c_Faces.getD x_2.toNat ((0 : Int), ((0 : Int), ((0 : Int), ((0 : Int), (([] : List (List UInt8)), ([] : List (Int × Bool × Int × Int × Int)))))))).2.2.2.2.2).getD x_4.toNat ((0 : Int), (false, ((0 : Int), ((0 : Int), (0 : Int)))))).2.2.2.2])).bind fun y_7 => (bif (decide ((y_5 ++ y_6).length + y_7.length ≤ 9223372036854775807)) then (bif (decide (rest_2.length + ((y_5 ++ y_6) ++ y_7).length ≤ 9223372036854775807)) then (k7_176 ((rest_2 ++ ((y_5 ++ y_6) ++ y_7)), (IntKind.wrap .i64 (x_4 + (1 : Int))))) else none) else none)) else none)))
def F7_l176 (n : Nat) (k7_159 : ((List UInt8) × Int × (List ((Int × Bool) × Bool))) → Option ((List UInt8) × Int)) (c_Faces : List (Int × Int × Int × Int × (List (List UInt8)) × List (Int × Bool × Int × Int × Int))) (x_2 : Int) (m1_2 : List ((Int × Bool) × Bool)) (k7_176 : ((List UInt8) × Int) → Option ((List UInt8) × Int)) : ((List UInt8) × Int) → Option ((List UInt8) × Int)
  | (rest_2, x_4) => (bif (decide (x_4 < ((((c_Faces.getD x_2.toNat ((0 : Int), ((0 : Int), ((0 : Int), ((0 : Int), (([] : List (List UInt8)), ([] : List (Int × Bool × Int × Int × Int)))))))).2.2.2.2.2).length : Nat) : Int))) then (bif inb x_4 (((c_Faces.getD x_2.toNat ((0 : Int), ((0 : Int), ((0 : Int), ((0 : Int), (([] : List (List UInt8)), ([] : List (Int × Bool × Int × Int × Int)))))))).2.2.2.2.2).length) then (bif (((c_Faces.getD x_2.toNat ((0 : Int), ((0 : Int), ((0 : Int), ((0 : Int), (([] : List (List UInt8)), ([] : List (Int × Bool × Int × Int × Int)))))))).2.2.2.2.2).getD x_4.toNat ((0 : Int), (false, ((0 : Int), ((0 : Int), (0 : Int)))))).2.1 then (F7_j177 n k7_176 c_Faces x_2 rest_2 x_4 (IntKind.wrap .i64 ((((c_Faces.getD x_2.toNat ((0 : Int), ((0 : Int), ((0 : Int), ((0 : Int), (([] : List (List UInt8)), ([] : List (Int × Bool × Int × Int × Int)))))))).2.2.2.2.2).getD x_4.toNat ((0 : Int), (false, ((0 : Int), ((0 : Int), (0 : Int)))))).1 + (128 : Int)))) else (F7_j177 n k7_176 c_Faces x_2 rest_2 x_4 (((c_Faces.getD x_2.toNat ((0 : Int), ((0 : Int), ((0 : Int), ((0 : Int), (([] : List (List UInt8)), ([] : List (Int × Bool × Int × Int × Int)))))))).2.2.2.2.2).getD x_4.toNat ((0 : Int), (false, ((0 : Int), ((0 : Int), (0 : Int)))))).1)) else none) else (k7_159 (rest_2, (IntKind.wrap .i64 (x_2 + (1 : Int))), m1_2)))
def F7_j173 (n : Nat) (k7_159 : ((List UInt8) × Int × (List ((Int × Bool) × Bool))) → Option ((List UInt8) × Int)) (c_Faces : List (Int × Int × Int × Int × (List (List UInt8)) × List (Int × Bool × Int × Int × Int))) (rest : List UInt8) (x_2 : Int) : (Int × (List ((Int × Bool) × Bool))) → Option ((List UInt8) × Int)
  | (x_3, m1_2) => (bif (x_3 != (0 : Int)) then (some (([] : List UInt8), x_3)) else ((F18 n ([(9 : Int), (4 : Int), x_2, (0 : Int), ((((c_Faces.getD x_2.toNat ((0 : Int), ((0 : Int), ((0 : Int), ((0 : Int), (([] : List (List UInt8)), ([] : List (Int × Bool × Int × Int × Int)))))))).2.2.2.2.2).length : Nat) : Int), (c_Faces.getD x_2.toNat ((0 : Int), ((0 : Int), ((0 : Int), ((0 : Int), (([] : List (List UInt8)), ([] : List (Int × Bool × Int × Int × Int)))))))).1, (c_Faces.getD x_2.toNat ((0 : Int), ((0 : Int), ((0 : Int), ((0 : Int), (([] : List (List UInt8)), ([] : List (Int × Bool × Int × Int × Int)))))))).2.1, (c_Faces.getD x_2.toNat ((0 : Int), ((0 : Int), ((0 : Int), ((0 : Int), (([] : List (List UInt8)), ([] : List (Int × Bool × Int × Int × Int)))))))).2.2.1, (c_Faces.getD x_2.toNat ((0 : Int), ((0 : Int), ((0 : Int), ((0 : Int), (([] : List (List UInt8)), ([] : List (Int × Bool × Int × Int × Int)))))))).2.2.2.1])).bind fun y_3 => ((F19 n ((c_Faces.getD x_2.toNat ((0 : Int), ((0 : Int), ((0 : Int), ((0 : Int), (([] : List (List UInt8)), ([] : List (Int × Bool × Int × Int × Int)))))))).2.2.2.2.1) ([] : List UInt8)).bind fun y_4 => (bif (decide (y_3.length + y_4.length ≤ 9223372036854775807)) then (bif (decide (rest.length + (y_3 ++ y_4).length ≤ 9223372036854775807)) then (loopF (F7_l176 n k7_159 c_Faces x_2 m1_2) n ((rest ++ (y_3 ++ y_4)), (0 : Int))) else none) else none))))
def F7_j190 (n : Nat) (k7_159 : ((List UInt8) × Int × (List ((Int × Bool) × Bool))) → Option ((List UInt8) × Int)) (k7_189 : (Int × (List ((Int × Bool) × Bool))) → Option ((List UInt8) × Int)) (c_Faces : List (Int × Int × Int × Int × (List (List UInt8)) × List (Int × Bool × Int × Int × Int))) (rest : List UInt8) (x_2 : Int) (x_6 : Int) (m2 : List ((Int × Bool) × Bool)) : Bool → Option ((List UInt8) × Int)
  | x_7 => (bif x_7 then (F7_j173 n k7_159 c_Faces rest x_2 ((1 : Int), m2)) else (bif ((mapGet (.st (.pair (.int .i64) .bool)) .bool ((((c_Faces.getD x_2.toNat ((0 : Int), ((0 : Int), ((0 : Int), ((0 : Int), (([] : List (List UInt8)), ([] : List (Int × Bool × Int × Int × Int)))))))).2.2.2.2.2).getD x_6.toNat ((0 : Int), (false, ((0 : Int), ((0 : Int), (0 : Int)))))).1, (((c_Faces.getD x_2.toNat ((0 : Int), ((0 : Int), ((0 : Int), ((0 : Int), (([] : List (List UInt8)), ([] : List (Int × Bool × Int × Int × Int)))))))).2.2.2.2.2).getD x_6.toNat ((0 : Int), (false, ((0 : Int), ((0 : Int), (0 : Int)))))).2.1) m2).getD false) then (F7_j173 n k7_159 c_Faces rest x_2 ((13 : Int), m2)) else (k7_189 ((IntKind.wrap .i64 (x_6 + (1 : Int))), (mapPut (.st (.pair (.int .i64) .bool)) .bool ((((c_Faces.getD x_2.toNat ((0 : Int), ((0 : Int), ((0 : Int), ((0 : Int), (([] : List (List UInt8)), ([] : List (Int × Bool × Int × Int × Int)))))))).2.2.2.2.2).getD x_6.toNat ((0 : Int), (false, ((0 : Int), ((0 : Int), (0 : Int)))))).1, (((c_Faces.getD x_2.toNat ((0 : Int), ((0 : Int), ((0 : Int), ((0 : Int), (([] : List (List UInt8)), ([] : List (Int × Bool × Int × Int × Int)))))))).2.2.2.2.2).getD x_6.toNat ((0 : Int), (false, ((0 : Int), ((0 : Int), (0 : Int)))))).2.1) true m2)))))
def F7_l189 (n : Nat) (k7_159 : ((List UInt8) × Int × (List ((Int × Bool) × Bool))) → Option ((List UInt8) × Int)) (c_Faces : List (Int × Int × Int × Int × (List (List UInt8)) × List (Int × Bool × Int × Int × Int))) (rest : List UInt8) (x_2 : Int) (k7_189 : (Int × (List ((Int × Bool) × Bool))) → Option ((List UInt8) × Int)) : (Int × (List ((Int × Bool) × Bool))) → Option ((List UInt8) × Int)
  | (x_6, m2) => (bif (decide (x_6 < ((((c_Faces.getD x_2.toNat ((0 : Int), ((0 : Int), ((0 : Int), ((0 : Int), (([] : List (List UInt8)), ([] : List (Int × Bool × Int × Int × Int)))))))).2.2.2.2.2).length : Nat) : Int))) then (bif inb x_6 (((c_Faces.getD x_2.toNat ((0 : Int), ((0 : Int), ((0 : Int), ((0 : Int), (([] : List (List UInt8)), ([] : List (Int × Bool × Int × Int × Int)))))))).2.2.2.2.2).length) then (bif (decide ((((c_Faces.getD x_2.toNat ((0 : Int), ((0 : Int), ((0 : Int), ((0 : Int), (([] : List (List UInt8)), ([] : List (Int × Bool × Int × Int × Int)))))))).2.2.2.2.2).getD x_6.toNat ((0 : Int), (false, ((0 : Int), ((0 : Int), (0 : Int)))))).1 < (1 : Int))) then (F7_j190 n k7_159 k7_189 c_Faces rest x_2 x_6 m2 true) else (bif (decide ((((c_Faces.getD x_2.toNat ((0 : Int), ((0 : Int), ((0 : Int), ((0 : Int), (([] : List (List UInt8)), ([] : List (Int × Bool × Int × Int × Int)))))))).2.2.2.2.2).getD x_6.toNat ((0 : Int), (false, ((0 : Int), ((0 : Int), (0 : Int)))))).1 > (15 : Int))) then (F7_j190 n k7_159 k7_189 c_Faces rest x_2 x_6 m2 true) else ((F44 n (3 : Int) ([(((c_Faces.getD x_2.toNat ((0 : Int), ((0 : Int), ((0 : Int), ((0 : Int), (([] : List (List UInt8)), ([] : List (Int × Bool × Int × Int × Int)))))))).2.2.2.2.2).getD x_6.toNat ((0 : Int), (false, ((0 : Int), ((0 : Int), (0 : Int)))))).2.2.1])).bind fun y_10 => (bif (!y_10) then (F7_j190 n k7_159 k7_189 c_Faces rest x_2 x_6 m2 true) else (bif (decide ((((c_Faces.getD x_2.toNat ((0 : Int), ((0 : Int), ((0 : Int), ((0 : Int), (([] : List (List UInt8)), ([] : List (Int × Bool × Int × Int × Int)))))))).2.2.2.2.2).getD x_6.toNat ((0 : Int), (false, ((0 : Int), ((0 : Int), (0 : Int)))))).2.2.2.1 < (1 : Int))) then (F7_j190 n k7_159 k7_189 c_Faces rest x_2 x_6 m2 true) else (bif (decide ((((c_Faces.getD x_2.toNat ((0 : Int), ((0 : Int), ((0 : Int), ((0 : Int), (([] : List (List UInt8)), ([] : List (Int × Bool × Int × Int × Int)))))))).2.2.2.2.2).getD x_6.toNat ((0 : Int), (false, ((0 : Int), ((0 : Int), (0 : Int)))))).2.2.2.1 > (64 : Int))) then (F7_j190 n k7_159 k7_189 c_Faces rest x_2 x_6 m2 true) else ((F16 n ([(((c_Faces.getD x_2.toNat ((0 : Int), ((0 : Int), ((0 : Int), ((0 : Int), (([] : List (List UInt8)), ([] : List (Int × Bool × Int × Int × Int)))))))).2.2.2.2.2).getD x_6.toNat ((0 : Int), (false, ((0 : Int), ((0 : Int), (0 : Int)))))).2.2.2.2])).bind fun y_11 => (F7_j190 n k7_159 k7_189 c_Faces rest x_2 x_6 m2 (!y_11))))))))) else none) else (F7_j173 n k7_159 c_Faces rest x_2 ((0 : Int), m2)))
def F7_l186 (n : Nat) (k7_159 : ((List UInt8) × Int × (List ((Int × Bool) × Bool))) → Option ((List UInt8) × Int)) (c_Faces : List (Int × Int × Int × Int × (List (List UInt8)) × List (Int × Bool × Int × Int × Int))) (rest : List UInt8) (x_2 : Int) (m1 : List ((Int × Bool) × Bool)) (k7_186 : Int → Option ((List UInt8) × Int)) : Int → Option ((List UInt8) × Int)
  | x_5 => (bif (decide (x_5 < ((((c_Faces.getD x_2.toNat ((0 : Int), ((0 : Int), ((0 : Int), ((0 : Int), (([] : List (List UInt8)), ([] : List (Int × Bool × Int × Int × Int)))))))).2.2.2.2.1).length : Nat) : Int))) then (bif inb x_5 (((c_Faces.getD x_2.toNat ((0 : Int), ((0 : Int), ((0 : Int), ((0 : Int), (([] : List (List UInt8)), ([] : List (Int × Bool × Int × Int × Int)))))))).2.2.2.2.1).length) then ((F45 n (((c_Faces.getD x_2.toNat ((0 : Int), ((0 : Int), ((0 : Int), ((0 : Int), (([] : List (List UInt8)), ([] : List (Int × Bool × Int × Int × Int)))))))).2.2.2.2.1).getD x_5.toNat ([] : List UInt8))).bind fun y_9 => (bif (!y_9) then (F7_j173 n k7_159 c_Faces rest x_2 ((1 : Int), m1)) else (k7_186 (IntKind.wrap .i64 (x_5 + (1 : Int)))))) else none) else (bif (decide (((((c_Faces.getD x_2.toNat ((0 : Int), ((0 : Int), ((0 : Int), ((0 : Int), (([] : List (List UInt8)), ([] : List (Int × Bool × Int × Int × Int)))))))).2.2.2.2.2).length : Nat) : Int) > (4 : Int))) then (F7_j173 n k7_159 c_Faces rest x_2 ((2 : Int), m1)) else (loopF (F7_l189 n k7_159 c_Faces rest x_2) n ((0 : Int), m1))))
def F7_l159 (n : Nat) (c_Value : Int) (c_Name : Int) (c_Attr : Int) (c_Power : Int) (c_Faces : List (Int × Int × Int × Int × (List (List UInt8)) × List (Int × Bool × Int × Int × Int))) (k7_159 : ((List UInt8) × Int × (List ((Int × Bool) × Bool))) → Option ((List UInt8) × Int)) : ((List UInt8) × Int × (List ((Int × Bool) × Bool))) → Option ((List UInt8) × Int)
  | (rest, x_2, m1) => (bif (decide (x_2 < ((c_Faces.length : Nat) : Int))) then (bif inb x_2 c_Faces.length then ((F16 n ([(c_Faces.getD x_2.toNat ((0 : Int), ((0 : Int), ((0 : Int), ((0 : Int), (([] : List (List UInt8)), ([] : List (Int × Bool × Int × Int × Int)))))))).1, (c_Faces.getD x_2.toNat ((0 : Int), ((0 : Int), ((0 : Int), ((0 : Int), (([] : List (List UInt8)), ([] : List (Int × Bool × Int × Int × Int)))))))).2.1, (c_Faces.getD x_2.toNat ((0 : Int), ((0 : Int), ((0 : Int), ((0 : Int), (([] : List (List UInt8)), ([] : List (Int × Bool × Int × Int × Int)))))))).2.2.1, (c_Faces.getD x_2.toNat ((0 : Int), ((0 : Int), ((0 : Int), ((0 : Int), (([] : List (List UInt8)), ([] : List (Int × Bool × Int × Int × Int)))))))).2.2.2.1])).bind fun y_8 => (bif (!y_8) then (F7_j173 n k7_159 c_Faces rest x_2 ((1 : Int), m1)) else (bif (decide (((((c_Faces.getD x_2.toNat ((0 : Int), ((0 : Int), ((0 : Int), ((0 : Int), (([] : List (List UInt8)), ([] : List (Int × Bool × Int × Int × Int)))))))).2.2.2.2.1).length : Nat) : Int) > (2 : Int))) then (F7_j173 n k7_159 c_Faces rest x_2 ((2 : Int), m1)) else (loopF (F7_l186 n k7_159 c_Faces rest x_2 m1) n (0 : Int))))) else none) else ((F18 n [(9 : Int), (2 : Int)]).bind fun y_12 => ((F20 n (IntKind.wrap .i64 ((9 : Int) + ((rest.length : Nat) : Int)))).bind fun y_13 => (bif (decide (y_12.length + y_13.length ≤ 9223372036854775807)) then ((F18 n [((c_Faces.length : Nat) : Int), c_Value, c_Name, c_Attr, c_Power]).bind fun y_14 => (bif (decide ((y_12 ++ y_13).length + y_14.length ≤ 9223372036854775807)) then (bif (decide (((y_12 ++ y_13) ++ y_14).length + rest.length ≤ 9223372036854775807)) then (some ((((y_12 ++ y_13) ++ y_14) ++ rest), (0 : Int))) else none) else none)) else none))))
def F7_j96 (n : Nat) (c_Value : Int) (c_Name : Int) (c_Attr : Int) (c_Power : Int) (c_Faces : List (Int × Int × Int × Int × (List (List UInt8)) × List (Int × Bool × Int × Int × Int))) : Bool → Option ((List UInt8) × Int)
  | x => (bif x then (some (([] : List UInt8), (1 : Int))) else (bif (decide (((c_Faces.length : Nat) : Int) > (4 : Int))) then (some (([] : List UInt8), (2 : Int))) else (loopF (F7_l159 n c_Value c_Name c_Attr c_Power c_Faces) n (([] : List UInt8), (0 : Int), ([] : List ((Int × Bool) × Bool))))))
def F7 (n : Nat) (c_Value : Int) (c_Name : Int) (c_Attr : Int) (c_Power : Int) (c_Faces : List (Int × Int × Int × Int × (List (List UInt8)) × List (Int × Bool × Int × Int × Int))) : Option ((List UInt8) × Int) := (bif (decide (c_Value < (1 : Int))) then (F7_j96 n c_Value c_Name c_Attr c_Power c_Faces true) else (bif (decide (c_Value > (255 : Int))) then (F7_j96 n c_Value c_Name c_Attr c_Power c_Faces true) else ((F16 n [c_Name, c_Attr, c_Power]).bind fun y_15 => (F7_j96 n c_Value c_Name c_Attr c_Power c_Faces (!y_15)))))
theorem F7_ok (n : Nat) (c_Value : Int) (c_Name : Int) (c_Attr : Int) (c_Power : Int) (c_Faces : List (Int × Int × Int × Int × (List (List UInt8)) × List (Int × Bool × Int × Int × Int))) (r : (List UInt8) × Int) (h : F7 n c_Value c_Name c_Attr c_Power c_Faces = some r) : PureC Try.prog 7 [(.st (.cons (.int .i64 c_Value) (.cons (.int .i64 c_Name) (.cons (.int .i64 c_Attr) (.cons (.int .i64 c_Power) (.sl (.st (.pair (.int .i64) (.pair (.int .i64) (.pair (.int .i64) (.pair (.int .i64) (.pair (.sl .str) (.sl (.st (.pair (.int .i64) (.pair .bool (.pair (.int .i64) (.pair (.int .i64) (.int .i64))))))))))))) c_Faces))))))] (.tup (.cons (.str r.1) (.cons (.int .i64 r.2) .nil))) [] := by
  refine PureC.mkS Try.func7 rfl rfl ?_
  intro w0 fz0 hfz
  replace h : (bif (decide (c_Value < (1 : Int))) then (F7_j96 n c_Value c_Name c_Attr c_Power c_Faces true) else (bif (decide (c_Value > (255 : Int))) then (F7_j96 n c_Value c_Name c_Attr c_Power c_Faces true) else ((F16 n [c_Name, c_Attr, c_Power]).bind fun y_15 => (F7_j96 n c_Value c_Name c_Attr c_Power c_Faces (!y_15))))) = some r := h
  refine TS.seq ?_
  have hq : (True) ∧ ((True) ∧ ((True) ∧ (True))) := ⟨trivial, ⟨trivial, ⟨trivial, trivial⟩⟩⟩
  refine TS.reg [] ?_ ?_
  · apply prop_of ?_ hq
    kernel_rfl
  refine XS.then ?_
  refine TS.seq ?_
  refine TS.block ?_
  refine TS.seq ?_
  refine TS.cut (D := Bool) (fun d => match d with | x => (mkTs 126 [(1, (.ptr 0 [])), (12, (.bool x))], [(.box 24 (.st (.cons (.int .i64 c_Value) (.cons (.int .i64 c_Name) (.cons (.int .i64 c_Attr) (.cons (.int .i64 c_Power) (.sl (.st (.pair (.int .i64) (.pair (.int .i64) (.pair (.int .i64) (.pair (.int .i64) (.pair (.sl .str) (.sl (.st (.pair (.int .i64) (.pair .bool (.pair (.int .i64) (.pair (.int .i64) (.int .i64))))))))))))) c_Faces)))))))])) (fun d => F7_j96 n c_Value c_Name c_Attr c_Power c_Faces d = some r) ?_ ?_
  · rintro x h
    replace h : (bif x then (some (([] : List UInt8), (1 : Int))) else (bif (decide (((c_Faces.length : Nat) : Int) > (4 : Int))) then (some (([] : List UInt8), (2 : Int))) else (loopF (F7_l159 n c_Value c_Name c_Attr c_Power c_Faces) n (([] : List UInt8), (0 : Int), ([] : List ((Int × Bool) × Bool)))))) = some r := h
    refine XS.then ?_
    rcases bif_some h with ⟨c1, h⟩ | ⟨c2, h⟩
    · refine TS.cond x ?_ (fun hcz => ?_) (fun hcz => by rw [c1] at hcz; cases hcz)
      · kernel_rfl
      refine TS.seq ?_
      have hq : (True) ∧ ((True) ∧ (True)) := ⟨trivial, ⟨trivial, trivial⟩⟩
      refine TS.reg [] ?_ ?_
      · apply prop_of ?_ hq
        kernel_rfl
      refine XS.then ?_
      refine TS.ret ?_
      refine XS.blockRet ?_
      refine XS.passR ?_
      obtain rfl : (([] : List UInt8), (1 : Int)) = r := Option.some.inj h
      exact XS.fin [] ((True) ∧ ((True) ∧ (True))) (by kernel_rfl) ⟨trivial, ⟨trivial, trivial⟩⟩
    · refine TS.cond x ?_ (fun hcz => by rw [c2] at hcz; cases hcz) (fun hcz => ?_)
      · kernel_rfl
      refine TS.seq ?_
      have hq : (True) ∧ ((True) ∧ ((True) ∧ ((True) ∧ ((True) ∧ (True))))) := ⟨trivial, ⟨trivial, ⟨trivial, ⟨trivial, ⟨trivial, trivial⟩⟩⟩⟩⟩
      refine TS.reg [] ?_ ?_
      · apply prop_of ?_ hq
        kernel_rfl
      refine XS.then ?_
      rcases bif_some h with ⟨c3, h⟩ | ⟨c4, h⟩
      · refine TS.cond (decide (((c_Faces.length : Nat) : Int) > (4 : Int))) ?_ (fun hcz => ?_) (fun hcz => by rw [c3] at hcz; cases hcz)
        · kernel_rfl
        refine TS.seq ?_
        have hq : (True) ∧ ((True) ∧ (True)) := ⟨trivial, ⟨trivial, trivial⟩⟩
        refine TS.reg [] ?_ ?_
        · apply prop_of ?_ hq
          kernel_rfl
        refine XS.then ?_
        refine TS.ret ?_
        refine XS.blockRet ?_
        refine XS.passR ?_
        obtain rfl : (([] : List UInt8), (2 : Int)) = r := Option.some.inj h
        exact XS.fin [] ((True) ∧ ((True) ∧ (True))) (by kernel_rfl) ⟨trivial, ⟨trivial, trivial⟩⟩
      · refine TS.cond (decide (((c_Faces.length : Nat) : Int) > (4 : Int))) ?_ (fun hcz => by rw [c4] at hcz; cases hcz) (fun hcz => ?_)
        · kernel_rfl
        refine TS.skip ?_
        refine XS.blockEnd ?_
        refine XS.then ?_
        refine TS.seq ?_
        have hq : (True) ∧ ((True) ∧ (True)) := ⟨trivial, ⟨trivial, trivial⟩⟩
        refine TS.reg [] ?_ ?_
        · apply prop_of ?_ hq
          kernel_rfl
        refine XS.then ?_
        refine TS.seq ?_
        have hq : (True) ∧ (True) := ⟨trivial, trivial⟩
        refine TS.reg [] ?_ ?_
        · apply prop_of ?_ hq
          kernel_rfl
        refine XS.then ?_
        refine TS.seq ?_
        refine TS.seq ?_
        have hq : (True) ∧ ((True) ∧ ((True) ∧ ((True) ∧ (True)))) := ⟨trivial, ⟨trivial, ⟨trivial, ⟨trivial, trivial⟩⟩⟩⟩
        refine TS.reg [] ?_ ?_
        · apply prop_of ?_ hq
          kernel_rfl
        refine XS.then ?_
        refine TS.block ?_
        refine TS.reLoop [0, 1] (mkMask 126 [1, 4, 5, 39, 40, 41]) (D := (List UInt8) × Int × (List ((Int × Bool) × Bool))) (fun d => match d with | (rest, x_2, m1) => (mkTs 126 [(1, (.ptr 0 [])), (4, (.mp 1)), (5, (.str rest)), (39, (.sl (.st (.pair (.int .i64) (.pair (.int .i64) (.pair (.int .i64) (.pair (.int .i64) (.pair (.sl .str) (.sl (.st (.pair (.int .i64) (.pair .bool (.pair (.int .i64) (.pair (.int .i64) (.int .i64))))))))))))) c_Faces)), (40, (.int .i64 ((c_Faces.length : Nat) : Int))), (41, (.int .i64 x_2))], [(.box 24 (.st (.cons (.int .i64 c_Value) (.cons (.int .i64 c_Name) (.cons (.int .i64 c_Attr) (.cons (.int .i64 c_Power) (.sl (.st (.pair (.int .i64) (.pair (.int .i64) (.pair (.int .i64) (.pair (.int .i64) (.pair (.sl .str) (.sl (.st (.pair (.int .i64) (.pair .bool (.pair (.int .i64) (.pair (.int .i64) (.int .i64))))))))))))) c_Faces))))))), (.map 46 (.st (.pair (.int .i64) .bool)) .bool m1)])) (fun n' d => loopF (F7_l159 n c_Value c_Name c_Attr c_Power c_Faces) n' d = some r) n (([] : List UInt8), (0 : Int), ([] : List ((Int × Bool) × Bool))) h ?_ (fun d => loopF_zero _ d r) ?_
        · kernel_rfl
        · rintro n159 ⟨rest, x_2, m1⟩ h
          replace h : (bif (decide (x_2 < ((c_Faces.length : Nat) : Int))) then (bif inb x_2 c_Faces.length then ((F16 n ([(c_Faces.getD x_2.toNat ((0 : Int), ((0 : Int), ((0 : Int), ((0 : Int), (([] : List (List UInt8)), ([] : List (Int × Bool × Int × Int × Int)))))))).1, (c_Faces.getD x_2.toNat ((0 : Int), ((0 : Int), ((0 : Int), ((0 : Int), (([] : List (List UInt8)), ([] : List (Int × Bool × Int × Int × Int)))))))).2.1, (c_Faces.getD x_2.toNat ((0 : Int), ((0 : Int), ((0 : Int), ((0 : Int), (([] : List (List UInt8)), ([] : List (Int × Bool × Int × Int × Int)))))))).2.2.1, (c_Faces.getD x_2.toNat ((0 : Int), ((0 : Int), ((0 : Int), ((0 : Int), (([] : List (List UInt8)), ([] : List (Int × Bool × Int × Int × Int)))))))).2.2.2.1])).bind fun y_8 => (bif (!y_8) then (F7_j173 n (loopF (F7_l159 n c_Value c_Name c_Attr c_Power c_Faces) n159) c_Faces rest x_2 ((1 : Int), m1)) else (bif (decide (((((c_Faces.getD x_2.toNat ((0 : Int), ((0 : Int), ((0 : Int), ((0 : Int), (([] : List (List UInt8)), ([] : List (Int × Bool × Int × Int × Int)))))))).2.2.2.2.1).length : Nat) : Int) > (2 : Int))) then (F7_j173 n (loopF (F7_l159 n c_Value c_Name c_Attr c_Power c_Faces) n159) c_Faces rest x_2 ((2 : Int), m1)) else (loopF (F7_l186 n (loopF (F7_l159 n c_Value c_Name c_Attr c_Power c_Faces) n159) c_Faces rest x_2 m1) n (0 : Int))))) else none) else ((F18 n [(9 : Int), (2 : Int)]).bind fun y_12 => ((F20 n (IntKind.wrap .i64 ((9 : Int) + ((rest.length : Nat) : Int)))).bind fun y_13 => (bif (decide (y_12.length + y_13.length ≤ 9223372036854775807)) then ((F18 n [((c_Faces.length : Nat) : Int), c_Value, c_Name, c_Attr, c_Power]).bind fun y_14 => (bif (decide ((y_12 ++ y_13).length + y_14.length ≤ 9223372036854775807)) then (bif (decide (((y_12 ++ y_13) ++ y_14).length + rest.length ≤ 9223372036854775807)) then (some ((((y_12 ++ y_13) ++ y_14) ++ rest), (0 : Int))) else none) else none)) else none)))) = some r := h
          refine TS.seq ?_
          have hq : (True) ∧ (True) := ⟨trivial, trivial⟩
          refine TS.reg [] ?_ ?_
          · apply prop_of ?_ hq
            kernel_rfl
          refine XS.then ?_
          refine TS.seq ?_
          rcases bif_some h with ⟨c5, h⟩ | ⟨c6, h⟩
          · refine TS.cond (decide (x_2 < ((c_Faces.length : Nat) : Int))) ?_ (fun hcz => ?_) (fun hcz => by rw [c5] at hcz; cases hcz)
            · kernel_rfl
            refine TS.skip ?_
            refine XS.then ?_
            refine TS.seq ?_
            refine TS.block ?_
            refine TS.seq ?_
            obtain ⟨t7, h⟩ := test_some h
            have hq : (True) ∧ ((inR x_2 c_Faces.length) ∧ ((True) ∧ ((True) ∧ ((True) ∧ ((True) ∧ (True)))))) := ⟨trivial, ⟨inb_ok t7, ⟨trivial, ⟨trivial, ⟨trivial, ⟨trivial, trivial⟩⟩⟩⟩⟩⟩
            refine TS.reg [] ?_ ?_
            · apply prop_of ?_ hq
              kernel_rfl
            refine XS.then ?_
            refine TS.seq ?_
            refine TS.seq ?_
            refine TS.opsOf ?_
            have hq : (True) ∧ ((True) ∧ (True)) := ⟨trivial, ⟨trivial, trivial⟩⟩
            refine TOS.run 2 [] (by kernel_rfl) ?_ ?_
            · apply prop_of ?_ hq
              kernel_rfl
            refine TOS.callJ (D := Int × (List ((Int × Bool) × Bool))) (fun d => match d with | (x_3, m1_2) => (mkTs 126 [(1, (.ptr 0 [])), (4, (.mp 1)), (5, (.str rest)), (6, (.int .i64 x_2)), (7, (.ptr 2 [])), (39, (.sl (.st (.pair (.int .i64) (.pair (.int .i64) (.pair (.int .i64) (.pair (.int .i64) (.pair (.sl .str) (.sl (.st (.pair (.int .i64) (.pair .bool (.pair (.int .i64) (.pair (.int .i64) (.int .i64))))))))))))) c_Faces)), (40, (.int .i64 ((c_Faces.length : Nat) : Int))), (41, (.int .i64 x_2)), (48, (.int .i64 x_3))], [(.box 24 (.st (.cons (.int .i64 c_Value) (.cons (.int .i64 c_Name) (.cons (.int .i64 c_Attr) (.cons (.int .i64 c_Power) (.sl (.st (.pair (.int .i64) (.pair (.int .i64) (.pair (.int .i64) (.pair (.int .i64) (.pair (.sl .str) (.sl (.st (.pair (.int .i64) (.pair .bool (.pair (.int .i64) (.pair (.int .i64) (.int .i64))))))))))))) c_Faces))))))), (.map 46 (.st (.pair (.int .i64) .bool)) .bool m1_2), (.box 49 (.st (.cons (.int .i64 (c_Faces.getD x_2.toNat ((0 : Int), ((0 : Int), ((0 : Int), ((0 : Int), (([] : List (List UInt8)), ([] : List (Int × Bool × Int × Int × Int)))))))).1) (.cons (.int .i64 (c_Faces.getD x_2.toNat ((0 : Int), ((0 : Int), ((0 : Int), ((0 : Int), (([] : List (List UInt8)), ([] : List (Int × Bool × Int × Int × Int)))))))).2.1) (.cons (.int .i64 (c_Faces.getD x_2.toNat ((0 : Int), ((0 : Int), ((0 : Int), ((0 : Int), (([] : List (List UInt8)), ([] : List (Int × Bool × Int × Int × Int)))))))).2.2.1) (.cons (.int .i64 (c_Faces.getD x_2.toNat ((0 : Int), ((0 : Int), ((0 : Int), ((0 : Int), (([] : List (List UInt8)), ([] : List (Int × Bool × Int × Int × Int)))))))).2.2.2.1) (.cons (.sl .str (c_Faces.getD x_2.toNat ((0 : Int), ((0 : Int), ((0 : Int), ((0 : Int), (([] : List (List UInt8)), ([] : List (Int × Bool × Int × Int × Int)))))))).2.2.2.2.1) (.sl (.st (.pair (.int .i64) (.pair .bool (.pair (.int .i64) (.pair (.int .i64) (.int .i64)))))) (c_Faces.getD x_2.toNat ((0 : Int), ((0 : Int), ((0 : Int), ((0 : Int), (([] : List (List UInt8)), ([] : List (Int × Bool × Int × Int × Int)))))))).2.2.2.2.2))))))))])) (fun d => F7_j173 n (loopF (F7_l159 n c_Value c_Name c_Attr c_Power c_Faces) n159) c_Faces rest x_2 d = some r) 17 (mkMask 126 [1, 4, 5, 6, 7, 39, 40, 41]) Try.func17 rfl ?_ ?_
            · rintro ⟨x_3, m1_2⟩ h
              replace h : (bif (x_3 != (0 : Int)) then (some (([] : List UInt8), x_3)) else ((F18 n ([(9 : Int), (4 : Int), x_2, (0 : Int), ((((c_Faces.getD x_2.toNat ((0 : Int), ((0 : Int), ((0 : Int), ((0 : Int), (([] : List (List UInt8)), ([] : List (Int × Bool × Int × Int × Int)))))))).2.2.2.2.2).length : Nat) : Int), (c_Faces.getD x_2.toNat ((0 : Int), ((0 : Int), ((0 : Int), ((0 : Int), (([] : List (List UInt8)), ([] : List (Int × Bool × Int × Int × Int)))))))).1, (c_Faces.getD x_2.toNat ((0 : Int), ((0 : Int), ((0 : Int), ((0 : Int), (([] : List (List UInt8)), ([] : List (Int × Bool × Int × Int × Int)))))))).2.1, (c_Faces.getD x_2.toNat ((0 : Int), ((0 : Int), ((0 : Int), ((0 : Int), (([] : List (List UInt8)), ([] : List (Int × Bool × Int × Int × Int)))))))).2.2.1, (c_Faces.getD x_2.toNat ((0 : Int), ((0 : Int), ((0 : Int), ((0 : Int), (([] : List (List UInt8)), ([] : List (Int × Bool × Int × Int × Int)))))))).2.2.2.1])).bind fun y_3 => ((F19 n ((c_Faces.getD x_2.toNat ((0 : Int), ((0 : Int), ((0 : Int), ((0 : Int), (([] : List (List UInt8)), ([] : List (Int × Bool × Int × Int × Int)))))))).2.2.2.2.1) ([] : List UInt8)).bind fun y_4 => (bif (decide (y_3.length + y_4.length ≤ 9223372036854775807)) then (bif (decide (rest.length + (y_3 ++ y_4).length ≤ 9223372036854775807)) then (loopF (F7_l176 n (loopF (F7_l159 n c_Value c_Name c_Attr c_Power c_Faces) n159) c_Faces x_2 m1_2) n ((rest ++ (y_3 ++ y_4)), (0 : Int))) else none) else none)))) = some r := h
              have hq : (True) ∧ (True) := ⟨trivial, trivial⟩
              refine TOS.run 1 [] (by kernel_rfl) ?_ ?_
              · apply prop_of ?_ hq
                kernel_rfl
              refine TOS.nil (by kernel_rfl) ?_
              refine XS.then ?_
              refine TS.seq ?_
              have hq : (True) ∧ ((True) ∧ (True)) := ⟨trivial, ⟨trivial, trivial⟩⟩
              refine TS.reg [] ?_ ?_
              · apply prop_of ?_ hq
                kernel_rfl
              refine XS.then ?_
              rcases bif_some h with ⟨c8, h⟩ | ⟨c9, h⟩
              · refine TS.cond (x_3 != (0 : Int)) ?_ (fun hcz => ?_) (fun hcz => by rw [c8] at hcz; cases hcz)
                · kernel_rfl
                refine TS.seq ?_
                have hq : (True) ∧ ((True) ∧ ((True) ∧ (True))) := ⟨trivial, ⟨trivial, ⟨trivial, trivial⟩⟩⟩
                refine TS.reg [] ?_ ?_
                · apply prop_of ?_ hq
                  kernel_rfl
                refine XS.then ?_
                refine TS.ret ?_
                refine XS.passR ?_
                refine XS.blockRet ?_
                refine XS.passR ?_
                refine XS.passR ?_
                refine XS.blockRet ?_
                refine XS.passR ?_
                obtain rfl : (([] : List UInt8), x_3) = r := Option.some.inj h
                exact XS.fin [] ((True) ∧ ((True) ∧ (True))) (by kernel_rfl) ⟨trivial, ⟨trivial, trivial⟩⟩
              · refine TS.cond (x_3 != (0 : Int)) ?_ (fun hcz => by rw [c9] at hcz; cases hcz) (fun hcz => ?_)
                · kernel_rfl
                refine TS.skip ?_
                refine XS.then ?_
                refine TS.seq ?_
                obtain ⟨y_3, hx10, h⟩ := bind_some' h
                obtain ⟨y_4, hx11, h⟩ := bind_some' h
                obtain ⟨t12, h⟩ := test_some h
                obtain ⟨t13, h⟩ := test_some h
                have hq : ((True) ∧ ((True) ∧ ((True) ∧ ((True) ∧ ((True) ∧ ((True) ∧ ((True) ∧ ((True) ∧ ((True) ∧ ((True) ∧ ((True) ∧ ((True) ∧ ((True) ∧ (((0 < 9 ∧ True) ∧ ((1 < 9 ∧ True) ∧ ((2 < 9 ∧ True) ∧ ((3 < 9 ∧ True) ∧ ((4 < 9 ∧ True) ∧ ((5 < 9 ∧ True) ∧ ((6 < 9 ∧ True) ∧ ((7 < 9 ∧ True) ∧ ((8 < 9 ∧ True) ∧ (True)))))))))) ∧ ((((True) ∧ (True)) ∧ PureC Try.prog 18 [(.sl (.int .i64) [(9 : Int), (4 : Int), x_2, (0 : Int), ((((c_Faces.getD x_2.toNat ((0 : Int), ((0 : Int), ((0 : Int), ((0 : Int), (([] : List (List UInt8)), ([] : List (Int × Bool × Int × Int × Int)))))))).2.2.2.2.2).length : Nat) : Int), (c_Faces.getD x_2.toNat ((0 : Int), ((0 : Int), ((0 : Int), ((0 : Int), (([] : List (List UInt8)), ([] : List (Int × Bool × Int × Int × Int)))))))).1, (c_Faces.getD x_2.toNat ((0 : Int), ((0 : Int), ((0 : Int), ((0 : Int), (([] : List (List UInt8)), ([] : List (Int × Bool × Int × Int × Int)))))))).2.1, (c_Faces.getD x_2.toNat ((0 : Int), ((0 : Int), ((0 : Int), ((0 : Int), (([] : List (List UInt8)), ([] : List (Int × Bool × Int × Int × Int)))))))).2.2.1, (c_Faces.getD x_2.toNat ((0 : Int), ((0 : Int), ((0 : Int), ((0 : Int), (([] : List (List UInt8)), ([] : List (Int × Bool × Int × Int × Int)))))))).2.2.2.1])] (.str y_3) []) ∧ ((True) ∧ ((True) ∧ ((PureC Try.prog 19 [(.sl .str (c_Faces.getD x_2.toNat ((0 : Int), ((0 : Int), ((0 : Int), ((0 : Int), (([] : List (List UInt8)), ([] : List (Int × Bool × Int × Int × Int)))))))).2.2.2.2.1), (.str ([] : List UInt8))] (.str y_4) []) ∧ ((y_3.length + y_4.length ≤ 9223372036854775807) ∧ ((rest.length + (y_3 ++ y_4).length ≤ 9223372036854775807) ∧ (True))))))))))))))))))))) ∧ ((True) ∧ (True)) := ⟨⟨trivial, ⟨trivial, ⟨trivial, ⟨trivial, ⟨trivial, ⟨trivial, ⟨trivial, ⟨trivial, ⟨trivial, ⟨trivial, ⟨trivial, ⟨trivial, ⟨trivial, ⟨⟨⟨by decide, trivial⟩, ⟨⟨by decide, trivial⟩, ⟨⟨by decide, trivial⟩, ⟨⟨by decide, trivial⟩, ⟨⟨by decide, trivial⟩, ⟨⟨by decide, trivial⟩, ⟨⟨by decide, trivial⟩, ⟨⟨by decide, trivial⟩, ⟨⟨by decide, trivial⟩, trivial⟩⟩⟩⟩⟩⟩⟩⟩⟩, ⟨⟨⟨trivial, trivial⟩, F18_ok n ([(9 : Int), (4 : Int), x_2, (0 : Int), ((((c_Faces.getD x_2.toNat ((0 : Int), ((0 : Int), ((0 : Int), ((0 : Int), (([] : List (List UInt8)), ([] : List (Int × Bool × Int × Int × Int)))))))).2.2.2.2.2).length : Nat) : Int), (c_Faces.getD x_2.toNat ((0 : Int), ((0 : Int), ((0 : Int), ((0 : Int), (([] : List (List UInt8)), ([] : List (Int × Bool × Int × Int × Int)))))))).1, (c_Faces.getD x_2.toNat ((0 : Int), ((0 : Int), ((0 : Int), ((0 : Int), (([] : List (List UInt8)), ([] : List (Int × Bool × Int × Int × Int)))))))).2.1, (c_Faces.getD x_2.toNat ((0 : Int), ((0 : Int), ((0 : Int), ((0 : Int), (([] : List (List UInt8)), ([] : List (Int × Bool × Int × Int × Int)))))))).2.2.1, (c_Faces.getD x_2.toNat ((0 : Int), ((0 : Int), ((0 : Int), ((0 : Int), (([] : List (List UInt8)), ([] : List (Int × Bool × Int × Int × Int)))))))).2.2.2.1]) y_3 hx10⟩, ⟨trivial, ⟨trivial, ⟨F19_ok n ((c_Faces.getD x_2.toNat ((0 : Int), ((0 : Int), ((0 : Int), ((0 : Int), (([] : List (List UInt8)), ([] : List (Int × Bool × Int × Int × Int)))))))).2.2.2.2.1) ([] : List UInt8) y_4 hx11, ⟨of_decide_eq_true t12, ⟨of_decide_eq_true t13, trivial⟩⟩⟩⟩⟩⟩⟩⟩⟩⟩⟩⟩⟩⟩⟩⟩⟩⟩⟩⟩, ⟨trivial, trivial⟩⟩
                refine TS.draw 20 [] [.none, .none, .none, .none, .none, .none, .none, .none, .none, .none, .none, .none, .none, .none, (.call (.str y_3) []), .none, .none, (.call (.str y_4) [])] (by kernel_rfl) ?_ ?_
                · apply prop_of ?_ hq
                  kernel_rfl
                refine XS.then ?_
                refine TS.seq ?_
                have hq : (True) ∧ ((True) ∧ ((True) ∧ ((True) ∧ (True)))) := ⟨trivial, ⟨trivial, ⟨trivial, ⟨trivial, trivial⟩⟩⟩⟩
                refine TS.reg [] ?_ ?_
                · apply prop_of ?_ hq
                  kernel_rfl
                refine XS.then ?_
                refine TS.block ?_
                refine TS.reLoop [0, 1] (mkMask 126 [1, 4, 5, 39, 40, 41, 73, 74, 75]) (D := (List UInt8) × Int) (fun d => match d with | (rest_2, x_4) => (mkTs 126 [(1, (.ptr 0 [])), (4, (.mp 1)), (5, (.str rest_2)), (39, (.sl (.st (.pair (.int .i64) (.pair (.int .i64) (.pair (.int .i64) (.pair (.int .i64) (.pair (.sl .str) (.sl (.st (.pair (.int .i64) (.pair .bool (.pair (.int .i64) (.pair (.int .i64) (.int .i64))))))))))))) c_Faces)), (40, (.int .i64 ((c_Faces.length : Nat) : Int))), (41, (.int .i64 x_2)), (73, (.sl (.st (.pair (.int .i64) (.pair .bool (.pair (.int .i64) (.pair (.int .i64) (.int .i64)))))) (c_Faces.getD x_2.toNat ((0 : Int), ((0 : Int), ((0 : Int), ((0 : Int), (([] : List (List UInt8)), ([] : List (Int × Bool × Int × Int × Int)))))))).2.2.2.2.2)), (74, (.int .i64 ((((c_Faces.getD x_2.toNat ((0 : Int), ((0 : Int), ((0 : Int), ((0 : Int), (([] : List (List UInt8)), ([] : List (Int × Bool × Int × Int × Int)))))))).2.2.2.2.2).length : Nat) : Int))), (75, (.int .i64 x_4))], [(.box 24 (.st (.cons (.int .i64 c_Value) (.cons (.int .i64 c_Name) (.cons (.int .i64 c_Attr) (.cons (.int .i64 c_Power) (.sl (.st (.pair (.int .i64) (.pair (.int .i64) (.pair (.int .i64) (.pair (.int .i64) (.pair (.sl .str) (.sl (.st (.pair (.int .i64) (.pair .bool (.pair (.int .i64) (.pair (.int .i64) (.int .i64))))))))))))) c_Faces))))))), (.map 46 (.st (.pair (.int .i64) .bool)) .bool m1_2)])) (fun n' d => loopF (F7_l176 n (loopF (F7_l159 n c_Value c_Name c_Attr c_Power c_Faces) n159) c_Faces x_2 m1_2) n' d = some r) n ((rest ++ (y_3 ++ y_4)), (0 : Int)) h ?_ (fun d => loopF_zero _ d r) ?_
                · kernel_rfl
                · rintro n176 ⟨rest_2, x_4⟩ h
                  replace h : (bif (decide (x_4 < ((((c_Faces.getD x_2.toNat ((0 : Int), ((0 : Int), ((0 : Int), ((0 : Int), (([] : List (List UInt8)), ([] : List (Int × Bool × Int × Int × Int)))))))).2.2.2.2.2).length : Nat) : Int))) then (bif inb x_4 (((c_Faces.getD x_2.toNat ((0 : Int), ((0 : Int), ((0 : Int), ((0 : Int), (([] : List (List UInt8)), ([] : List (Int × Bool × Int × Int × Int)))))))).2.2.2.2.2).length) then (bif (((c_Faces.getD x_2.toNat ((0 : Int), ((0 : Int), ((0 : Int), ((0 : Int), (([] : List (List UInt8)), ([] : List (Int × Bool × Int × Int × Int)))))))).2.2.2.2.2).getD x_4.toNat ((0 : Int), (false, ((0 : Int), ((0 : Int), (0 : Int)))))).2.1 then (F7_j177 n (loopF (F7_l176 n (loopF (F7_l159 n c_Value c_Name c_Attr c_Power c_Faces) n159) c_Faces x_2 m1_2) n176) c_Faces x_2 rest_2 x_4 (IntKind.wrap .i64 ((((c_Faces.getD x_2.toNat ((0 : Int), ((0 : Int), ((0 : Int), ((0 : Int), (([] : List (List UInt8)), ([] : List (Int × Bool × Int × Int × Int)))))))).2.2.2.2.2).getD x_4.toNat ((0 : Int), (false, ((0 : Int), ((0 : Int), (0 : Int)))))).1 + (128 : Int)))) else (F7_j177 n (loopF (F7_l176 n (loopF (F7_l159 n c_Value c_Name c_Attr c_Power c_Faces) n159) c_Faces x_2 m1_2) n176) c_Faces x_2 rest_2 x_4 (((c_Faces.getD x_2.toNat ((0 : Int), ((0 : Int), ((0 : Int), ((0 : Int), (([] : List (List UInt8)), ([] : List (Int × Bool × Int × Int × Int)))))))).2.2.2.2.2).getD x_4.toNat ((0 : Int), (false, ((0 : Int), ((0 : Int), (0 : Int)))))).1)) else none) else ((loopF (F7_l159 n c_Value c_Name c_Attr c_Power c_Faces) n159) (rest_2, (IntKind.wrap .i64 (x_2 + (1 : Int))), m1_2))) = some r := h
                  refine TS.seq ?_
                  have hq : (True) ∧ (True) := ⟨trivial, trivial⟩
                  refine TS.reg [] ?_ ?_
                  · apply prop_of ?_ hq
                    kernel_rfl
                  refine XS.then ?_
                  refine TS.seq ?_
                  rcases bif_some h with ⟨c14, h⟩ | ⟨c15, h⟩
                  · refine TS.cond (decide (x_4 < ((((c_Faces.getD x_2.toNat ((0 : Int), ((0 : Int), ((0 : Int), ((0 : Int), (([] : List (List UInt8)), ([] : List (Int × Bool × Int × Int × Int)))))))).2.2.2.2.2).length : Nat) : Int))) ?_ (fun hcz => ?_) (fun hcz => by rw [c14] at hcz; cases hcz)
                    · kernel_rfl
                    refine TS.skip ?_
                    refine XS.then ?_
                    refine TS.seq ?_
                    refine TS.block ?_
                    refine TS.seq ?_
                    obtain ⟨t16, h⟩ := test_some h
                    have hq : (inR x_4 (((c_Faces.getD x_2.toNat ((0 : Int), ((0 : Int), ((0 : Int), ((0 : Int), (([] : List (List UInt8)), ([] : List (Int × Bool × Int × Int × Int)))))))).2.2.2.2.2).length)) ∧ ((True) ∧ ((True) ∧ ((True) ∧ (True)))) := ⟨inb_ok t16, ⟨trivial, ⟨trivial, ⟨trivial, trivial⟩⟩⟩⟩
                    refine TS.reg [] ?_ ?_
                    · apply prop_of ?_ hq
                      kernel_rfl
                    refine XS.then ?_
                    refine TS.seq ?_
                    have hq : (True) ∧ ((True) ∧ ((True) ∧ (True))) := ⟨trivial, ⟨trivial, ⟨trivial, trivial⟩⟩⟩
                    refine TS.reg [] ?_ ?_
                    · apply prop_of ?_ hq
                      kernel_rfl
                    refine XS.then ?_
                    refine TS.seq ?_
                    refine TS.seq ?_
                    have hq : (True) ∧ ((True) ∧ (True)) := ⟨trivial, ⟨trivial, trivial⟩⟩
                    refine TS.reg [] ?_ ?_
                    · apply prop_of ?_ hq
                      kernel_rfl
                    refine XS.then ?_
                    refine TS.cut (D := Int) (fun d => match d with | addr => (mkTs 126 [(1, (.ptr 0 [])), (4, (.mp 1)), (5, (.str rest_2)), (10, (.ptr 2 [])), (11, (.int .i64 addr)), (39, (.sl (.st (.pair (.int .i64) (.pair (.int .i64) (.pair (.int .i64) (.pair (.int .i64) (.pair (.sl .str) (.sl (.st (.pair (.int .i64) (.pair .bool (.pair (.int .i64) (.pair (.int .i64) (.int .i64))))))))))))) c_Faces)), (40, (.int .i64 ((c_Faces.length : Nat) : Int))), (41, (.int .i64 x_2)), (73, (.sl (.st (.pair (.int .i64) (.pair .bool (.pair (.int .i64) (.pair (.int .i64) (.int .i64)))))) (c_Faces.getD x_2.toNat ((0 : Int), ((0 : Int), ((0 : Int), ((0 : Int), (([] : List (List UInt8)), ([] : List (Int × Bool × Int × Int × Int)))))))).2.2.2.2.2)), (74, (.int .i64 ((((c_Faces.getD x_2.toNat ((0 : Int), ((0 : Int), ((0 : Int), ((0 : Int), (([] : List (List UInt8)), ([] : List (Int × Bool × Int × Int × Int)))))))).2.2.2.2.2).length : Nat) : Int))), (75, (.int .i64 x_4))], [(.box 24 (.st (.cons (.int .i64 c_Value) (.cons (.int .i64 c_Name) (.cons (.int .i64 c_Attr) (.cons (.int .i64 c_Power) (.sl (.st (.pair (.int .i64) (.pair (.int .i64) (.pair (.int .i64) (.pair (.int .i64) (.pair (.sl .str) (.sl (.st (.pair (.int .i64) (.pair .bool (.pair (.int .i64) (.pair (.int .i64) (.int .i64))))))))))))) c_Faces))))))), (.map 46 (.st (.pair (.int .i64) .bool)) .bool m1_2), (.box 54 (.st (.cons (.int .i64 (((c_Faces.getD x_2.toNat ((0 : Int), ((0 : Int), ((0 : Int), ((0 : Int), (([] : List (List UInt8)), ([] : List (Int × Bool × Int × Int × Int)))))))).2.2.2.2.2).getD x_4.toNat ((0 : Int), (false, ((0 : Int), ((0 : Int), (0 : Int)))))).1) (.cons (.bool (((c_Faces.getD x_2.toNat ((0 : Int), ((0 : Int), ((0 : Int), ((0 : Int), (([] : List (List UInt8)), ([] : List (Int × Bool × Int × Int × Int)))))))).2.2.2.2.2).getD x_4.toNat ((0 : Int), (false, ((0 : Int), ((0 : Int), (0 : Int)))))).2.1) (.cons (.int .i64 (((c_Faces.getD x_2.toNat ((0 : Int), ((0 : Int), ((0 : Int), ((0 : Int), (([] : List (List UInt8)), ([] : List (Int × Bool × Int × Int × Int)))))))).2.2.2.2.2).getD x_4.toNat ((0 : Int), (false, ((0 : Int), ((0 : Int), (0 : Int)))))).2.2.1) (.cons (.int .i64 (((c_Faces.getD x_2.toNat ((0 : Int), ((0 : Int), ((0 : Int), ((0 : Int), (([] : List (List UInt8)), ([] : List (Int × Bool × Int × Int × Int)))))))).2.2.2.2.2).getD x_4.toNat ((0 : Int), (false, ((0 : Int), ((0 : Int), (0 : Int)))))).2.2.2.1) (.int .i64 (((c_Faces.getD x_2.toNat ((0 : Int), ((0 : Int), ((0 : Int), ((0 : Int), (([] : List (List UInt8)), ([] : List (Int × Bool × Int × Int × Int)))))))).2.2.2.2.2).getD x_4.toNat ((0 : Int), (false, ((0 : Int), ((0 : Int), (0 : Int)))))).2.2.2.2)))))))])) (fun d => F7_j177 n (loopF (F7_l176 n (loopF (F7_l159 n c_Value c_Name c_Attr c_Power c_Faces) n159) c_Faces x_2 m1_2) n176) c_Faces x_2 rest_2 x_4 d = some r) ?_ ?_
                    · rintro addr h
                      replace h : ((F18 n ([(7 : Int), (5 : Int), addr, (((c_Faces.getD x_2.toNat ((0 : Int), ((0 : Int), ((0 : Int), ((0 : Int), (([] : List (List UInt8)), ([] : List (Int × Bool × Int × Int × Int)))))))).2.2.2.2.2).getD x_4.toNat ((0 : Int), (false, ((0 : Int), ((0 : Int), (0 : Int)))))).2.2.1])).bind fun y_5 => ((F20 n ((((c_Faces.getD x_2.toNat ((0 : Int), ((0 : Int), ((0 : Int), ((0 : Int), (([] : List (List UInt8)), ([] : List (Int × Bool × Int × Int × Int)))))))).2.2.2.2.2).getD x_4.toNat ((0 : Int), (false, ((0 : Int), ((0 : Int), (0 : Int)))))).2.2.2.1)).bind fun y_6 => (bif (decide (y_5.length + y_6.length ≤ 9223372036854775807)) then ((F18 n ([(((c_Faces.getD x_2.toNat ((0 : Int), ((0 : Int), ((0 : Int), ((0 : Int), (([] : List (List UInt8)), ([] : List (Int × Bool × Int × Int × Int)))))))).2.2.2.2.2).getD x_4.toNat ((0 : Int), (false, ((0 : Int), ((0 : Int), (0 : Int)))))).2.2.2.2])).bind fun y_7 => (bif (decide ((y_5 ++ y_6).length + y_7.length ≤ 9223372036854775807)) then (bif (decide (rest_2.length + ((y_5 ++ y_6) ++ y_7).length ≤ 9223372036854775807)) then ((loopF (F7_l176 n (loopF (F7_l159 n c_Value c_Name c_Attr c_Power c_Faces) n159) c_Faces x_2 m1_2) n176) ((rest_2 ++ ((y_5 ++ y_6) ++ y_7)), (IntKind.wrap .i64 (x_4 + (1 : Int))))) else none) else none)) else none))) = some r := h
                      refine XS.then ?_
                      obtain ⟨y_5, hx17, h⟩ := bind_some' h
                      obtain ⟨y_6, hx18, h⟩ := bind_some' h
                      obtain ⟨t19, h⟩ := test_some h
                      obtain ⟨y_7, hx20, h⟩ := bind_some' h
                      obtain ⟨t21, h⟩ := test_some h
                      obtain ⟨t22, h⟩ := test_some h
                      have hq : ((True) ∧ ((True) ∧ ((True) ∧ ((True) ∧ (((0 < 4 ∧ True) ∧ ((1 < 4 ∧ True) ∧ ((2 < 4 ∧ True) ∧ ((3 < 4 ∧ True) ∧ (True))))) ∧ ((((True) ∧ (True)) ∧ PureC Try.prog 18 [(.sl (.int .i64) [(7 : Int), (5 : Int), addr, (((c_Faces.getD x_2.toNat ((0 : Int), ((0 : Int), ((0 : Int), ((0 : Int), (([] : List (List UInt8)), ([] : List (Int × Bool × Int × Int × Int)))))))).2.2.2.2.2).getD x_4.toNat ((0 : Int), (false, ((0 : Int), ((0 : Int), (0 : Int)))))).2.2.1])] (.str y_5) []) ∧ ((True) ∧ ((True) ∧ ((PureC Try.prog 20 [(.int .i64 (((c_Faces.getD x_2.toNat ((0 : Int), ((0 : Int), ((0 : Int), ((0 : Int), (([] : List (List UInt8)), ([] : List (Int × Bool × Int × Int × Int)))))))).2.2.2.2.2).getD x_4.toNat ((0 : Int), (false, ((0 : Int), ((0 : Int), (0 : Int)))))).2.2.2.1)] (.str y_6) []) ∧ ((y_5.length + y_6.length ≤ 9223372036854775807) ∧ ((True) ∧ ((True) ∧ (((0 < 1 ∧ True) ∧ (True)) ∧ ((((True) ∧ (True)) ∧ PureC Try.prog 18 [(.sl (.int .i64) [(((c_Faces.getD x_2.toNat ((0 : Int), ((0 : Int), ((0 : Int), ((0 : Int), (([] : List (List UInt8)), ([] : List (Int × Bool × Int × Int × Int)))))))).2.2.2.2.2).getD x_4.toNat ((0 : Int), (false, ((0 : Int), ((0 : Int), (0 : Int)))))).2.2.2.2])] (.str y_7) []) ∧ (((y_5 ++ y_6).length + y_7.length ≤ 9223372036854775807) ∧ ((rest_2.length + ((y_5 ++ y_6) ++ y_7).length ≤ 9223372036854775807) ∧ (True))))))))))))))))) ∧ ((True) ∧ (True)) := ⟨⟨trivial, ⟨trivial, ⟨trivial, ⟨trivial, ⟨⟨⟨by decide, trivial⟩, ⟨⟨by decide, trivial⟩, ⟨⟨by decide, trivial⟩, ⟨⟨by decide, trivial⟩, trivial⟩⟩⟩⟩, ⟨⟨⟨trivial, trivial⟩, F18_ok n ([(7 : Int), (5 : Int), addr, (((c_Faces.getD x_2.toNat ((0 : Int), ((0 : Int), ((0 : Int), ((0 : Int), (([] : List (List UInt8)), ([] : List (Int × Bool × Int × Int × Int)))))))).2.2.2.2.2).getD x_4.toNat ((0 : Int), (false, ((0 : Int), ((0 : Int), (0 : Int)))))).2.2.1]) y_5 hx17⟩, ⟨trivial, ⟨trivial, ⟨F20_ok n ((((c_Faces.getD x_2.toNat ((0 : Int), ((0 : Int), ((0 : Int), ((0 : Int), (([] : List (List UInt8)), ([] : List (Int × Bool × Int × Int × Int)))))))).2.2.2.2.2).getD x_4.toNat ((0 : Int), (false, ((0 : Int), ((0 : Int), (0 : Int)))))).2.2.2.1) y_6 hx18, ⟨of_decide_eq_true t19, ⟨trivial, ⟨trivial, ⟨⟨⟨by decide, trivial⟩, trivial⟩, ⟨⟨⟨trivial, trivial⟩, F18_ok n ([(((c_Faces.getD x_2.toNat ((0 : Int), ((0 : Int), ((0 : Int), ((0 : Int), (([] : List (List UInt8)), ([] : List (Int × Bool × Int × Int × Int)))))))).2.2.2.2.2).getD x_4.toNat ((0 : Int), (false, ((0 : Int), ((0 : Int), (0 : Int)))))).2.2.2.2]) y_7 hx20⟩, ⟨of_decide_eq_true t21, ⟨of_decide_eq_true t22, trivial⟩⟩⟩⟩⟩⟩⟩⟩⟩⟩⟩⟩⟩⟩⟩⟩, ⟨trivial, trivial⟩⟩
                      refine TS.draw 16 [] [.none, .none, .none, .none, .none, (.call (.str y_5) []), .none, .none, (.call (.str y_6) []), .none, .none, .none, .none, (.call (.str y_7) [])] (by kernel_rfl) ?_ ?_
                      · apply prop_of ?_ hq
                        kernel_rfl
                      refine XS.blockEnd ?_
                      refine XS.then ?_
                      have hq : (True) ∧ ((True) ∧ (True)) := ⟨trivial, ⟨trivial, trivial⟩⟩
                      refine TS.reg [] ?_ ?_
                      · apply prop_of ?_ hq
                        kernel_rfl
                      refine XS.reAny [0, 1] (mkMask 126 [1, 4, 5, 39, 40, 41, 73, 74, 75]) ((rest_2 ++ ((y_5 ++ y_6) ++ y_7)), (IntKind.wrap .i64 (x_4 + (1 : Int)))) h ?_
                      kernel_rfl
                    · rcases bif_some h with ⟨c23, h⟩ | ⟨c24, h⟩
                      · refine TS.cond ((((c_Faces.getD x_2.toNat ((0 : Int), ((0 : Int), ((0 : Int), ((0 : Int), (([] : List (List UInt8)), ([] : List (Int × Bool × Int × Int × Int)))))))).2.2.2.2.2).getD x_4.toNat ((0 : Int), (false, ((0 : Int), ((0 : Int), (0 : Int)))))).2.1) ?_ (fun hcz => ?_) (fun hcz => by rw [c23] at hcz; cases hcz)
                        · kernel_rfl
                        have hq : (True) ∧ ((True) ∧ ((True) ∧ (True))) := ⟨trivial, ⟨trivial, ⟨trivial, trivial⟩⟩⟩
                        refine TS.reg [] ?_ ?_
                        · apply prop_of ?_ hq
                          kernel_rfl
                        refine XS.reAny [0, 1, 2] (mkMask 126 [1, 4, 5, 10, 11, 39, 40, 41, 73, 74, 75]) (IntKind.wrap .i64 ((((c_Faces.getD x_2.toNat ((0 : Int), ((0 : Int), ((0 : Int), ((0 : Int), (([] : List (List UInt8)), ([] : List (Int × Bool × Int × Int × Int)))))))).2.2.2.2.2).getD x_4.toNat ((0 : Int), (false, ((0 : Int), ((0 : Int), (0 : Int)))))).1 + (128 : Int))) h ?_
                        kernel_rfl
                      · refine TS.cond ((((c_Faces.getD x_2.toNat ((0 : Int), ((0 : Int), ((0 : Int), ((0 : Int), (([] : List (List UInt8)), ([] : List (Int × Bool × Int × Int × Int)))))))).2.2.2.2.2).getD x_4.toNat ((0 : Int), (false, ((0 : Int), ((0 : Int), (0 : Int)))))).2.1) ?_ (fun hcz => by rw [c24] at hcz; cases hcz) (fun hcz => ?_)
                        · kernel_rfl
                        refine TS.skip ?_
                        refine XS.reAny [0, 1, 2] (mkMask 126 [1, 4, 5, 10, 11, 39, 40, 41, 73, 74, 75]) (((c_Faces.getD x_2.toNat ((0 : Int), ((0 : Int), ((0 : Int), ((0 : Int), (([] : List (List UInt8)), ([] : List (Int × Bool × Int × Int × Int)))))))).2.2.2.2.2).getD x_4.toNat ((0 : Int), (false, ((0 : Int), ((0 : Int), (0 : Int)))))).1 h ?_
                        kernel_rfl
                  · refine TS.cond (decide (x_4 < ((((c_Faces.getD x_2.toNat ((0 : Int), ((0 : Int), ((0 : Int), ((0 : Int), (([] : List (List UInt8)), ([] : List (Int × Bool × Int × Int × Int)))))))).2.2.2.2.2).length : Nat) : Int))) ?_ (fun hcz => by rw [c15] at hcz; cases hcz) (fun hcz => ?_)
                    · kernel_rfl
                    refine TS.exit ?_
                    refine XS.passE ?_
                    refine XS.passE ?_
                    refine XS.out ?_
                    refine XS.blockEnd ?_
                    refine XS.then ?_
                    have hq : (True) ∧ ((True) ∧ (True)) := ⟨trivial, ⟨trivial, trivial⟩⟩
                    refine TS.reg [] ?_ ?_
                    · apply prop_of ?_ hq
                      kernel_rfl
                    refine XS.reAny [0, 1] (mkMask 126 [1, 4, 5, 39, 40, 41]) (rest_2, (IntKind.wrap .i64 (x_2 + (1 : Int))), m1_2) h ?_
                    kernel_rfl
            · intro fv6
              refine ⟨(mkTs 92 [(0, (.st (.cons (.int .i64 (c_Faces.getD x_2.toNat ((0 : Int), ((0 : Int), ((0 : Int), ((0 : Int), (([] : List (List UInt8)), ([] : List (Int × Bool × Int × Int × Int)))))))).1) (.cons (.int .i64 (c_Faces.getD x_2.toNat ((0 : Int), ((0 : Int), ((0 : Int), ((0 : Int), (([] : List (List UInt8)), ([] : List (Int × Bool × Int × Int × Int)))))))).2.1) (.cons (.int .i64 (c_Faces.getD x_2.toNat ((0 : Int), ((0 : Int), ((0 : Int), ((0 : Int), (([] : List (List UInt8)), ([] : List (Int × Bool × Int × Int × Int)))))))).2.2.1) (.cons (.int .i64 (c_Faces.getD x_2.toNat ((0 : Int), ((0 : Int), ((0 : Int), ((0 : Int), (([] : List (List UInt8)), ([] : List (Int × Bool × Int × Int × Int)))))))).2.2.2.1) (.cons (.sl .str (c_Faces.getD x_2.toNat ((0 : Int), ((0 : Int), ((0 : Int), ((0 : Int), (([] : List (List UInt8)), ([] : List (Int × Bool × Int × Int × Int)))))))).2.2.2.2.1) (.sl (.st (.pair (.int .i64) (.pair .bool (.pair (.int .i64) (.pair (.int .i64) (.int .i64)))))) (c_Faces.getD x_2.toNat ((0 : Int), ((0 : Int), ((0 : Int), ((0 : Int), (([] : List (List UInt8)), ([] : List (Int × Bool × Int × Int × Int)))))))).2.2.2.2.2)))))))), (1, (.mp 1))], [(.box 24 (.st (.cons (.int .i64 c_Value) (.cons (.int .i64 c_Name) (.cons (.int .i64 c_Attr) (.cons (.int .i64 c_Power) (.sl (.st (.pair (.int .i64) (.pair (.int .i64) (.pair (.int .i64) (.pair (.int .i64) (.pair (.sl .str) (.sl (.st (.pair (.int .i64) (.pair .bool (.pair (.int .i64) (.pair (.int .i64) (.int .i64))))))))))))) c_Faces))))))), (.map 46 (.st (.pair (.int .i64) .bool)) .bool m1), (.box 49 (.st (.cons (.int .i64 (c_Faces.getD x_2.toNat ((0 : Int), ((0 : Int), ((0 : Int), ((0 : Int), (([] : List (List UInt8)), ([] : List (Int × Bool × Int × Int × Int)))))))).1) (.cons (.int .i64 (c_Faces.getD x_2.toNat ((0 : Int), ((0 : Int), ((0 : Int), ((0 : Int), (([] : List (List UInt8)), ([] : List (Int × Bool × Int × Int × Int)))))))).2.1) (.cons (.int .i64 (c_Faces.getD x_2.toNat ((0 : Int), ((0 : Int), ((0 : Int), ((0 : Int), (([] : List (List UInt8)), ([] : List (Int × Bool × Int × Int × Int)))))))).2.2.1) (.cons (.int .i64 (c_Faces.getD x_2.toNat ((0 : Int), ((0 : Int), ((0 : Int), ((0 : Int), (([] : List (List UInt8)), ([] : List (Int × Bool × Int × Int × Int)))))))).2.2.2.1) (.cons (.sl .str (c_Faces.getD x_2.toNat ((0 : Int), ((0 : Int), ((0 : Int), ((0 : Int), (([] : List (List UInt8)), ([] : List (Int × Bool × Int × Int × Int)))))))).2.2.2.2.1) (.sl (.st (.pair (.int .i64) (.pair .bool (.pair (.int .i64) (.pair (.int .i64) (.int .i64)))))) (c_Faces.getD x_2.toNat ((0 : Int), ((0 : Int), ((0 : Int), ((0 : Int), (([] : List (List UInt8)), ([] : List (Int × Bool × Int × Int × Int)))))))).2.2.2.2.2)))))))), (.sav (mkTs 126 [(1, (.ptr 0 [])), (4, (.mp 1)), (5, (.str rest)), (6, (.int .i64 x_2)), (7, (.ptr 2 [])), (39, (.sl (.st (.pair (.int .i64) (.pair (.int .i64) (.pair (.int .i64) (.pair (.int .i64) (.pair (.sl .str) (.sl (.st (.pair (.int .i64) (.pair .bool (.pair (.int .i64) (.pair (.int .i64) (.int .i64))))))))))))) c_Faces)), (40, (.int .i64 ((c_Faces.length : Nat) : Int))), (41, (.int .i64 x_2))]) fv6)]), by kernel_rfl, ?_⟩
              refine TS.seq ?_
              have hq : (True) ∧ ((True) ∧ (True)) := ⟨trivial, ⟨trivial, trivial⟩⟩
              refine TS.reg [] ?_ ?_
              · apply prop_of ?_ hq
                kernel_rfl
              refine XS.then ?_
              refine TS.seq ?_
              refine TS.block ?_
              refine TS.seq ?_
              obtain ⟨y_8, hx25, h⟩ := bind_some' h
              have hq : (True) ∧ ((True) ∧ ((True) ∧ ((True) ∧ ((True) ∧ ((True) ∧ ((True) ∧ ((True) ∧ (((0 < 4 ∧ True) ∧ ((1 < 4 ∧ True) ∧ ((2 < 4 ∧ True) ∧ ((3 < 4 ∧ True) ∧ (True))))) ∧ ((((True) ∧ (True)) ∧ PureC Try.prog 16 [(.sl (.int .i64) [(c_Faces.getD x_2.toNat ((0 : Int), ((0 : Int), ((0 : Int), ((0 : Int), (([] : List (List UInt8)), ([] : List (Int × Bool × Int × Int × Int)))))))).1, (c_Faces.getD x_2.toNat ((0 : Int), ((0 : Int), ((0 : Int), ((0 : Int), (([] : List (List UInt8)), ([] : List (Int × Bool × Int × Int × Int)))))))).2.1, (c_Faces.getD x_2.toNat ((0 : Int), ((0 : Int), ((0 : Int), ((0 : Int), (([] : List (List UInt8)), ([] : List (Int × Bool × Int × Int × Int)))))))).2.2.1, (c_Faces.getD x_2.toNat ((0 : Int), ((0 : Int), ((0 : Int), ((0 : Int), (([] : List (List UInt8)), ([] : List (Int × Bool × Int × Int × Int)))))))).2.2.2.1])] (.bool y_8) []) ∧ ((True) ∧ ((True) ∧ (True)))))))))))) := ⟨trivial, ⟨trivial, ⟨trivial, ⟨trivial, ⟨trivial, ⟨trivial, ⟨trivial, ⟨trivial, ⟨⟨⟨by decide, trivial⟩, ⟨⟨by decide, trivial⟩, ⟨⟨by decide, trivial⟩, ⟨⟨by decide, trivial⟩, trivial⟩⟩⟩⟩, ⟨⟨⟨trivial, trivial⟩, F16_ok n ([(c_Faces.getD x_2.toNat ((0 : Int), ((0 : Int), ((0 : Int), ((0 : Int), (([] : List (List UInt8)), ([] : List (Int × Bool × Int × Int × Int)))))))).1, (c_Faces.getD x_2.toNat ((0 : Int), ((0 : Int), ((0 : Int), ((0 : Int), (([] : List (List UInt8)), ([] : List (Int × Bool × Int × Int × Int)))))))).2.1, (c_Faces.getD x_2.toNat ((0 : Int), ((0 : Int), ((0 : Int), ((0 : Int), (([] : List (List UInt8)), ([] : List (Int × Bool × Int × Int × Int)))))))).2.2.1, (c_Faces.getD x_2.toNat ((0 : Int), ((0 : Int), ((0 : Int), ((0 : Int), (([] : List (List UInt8)), ([] : List (Int × Bool × Int × Int × Int)))))))).2.2.2.1]) y_8 hx25⟩, ⟨trivial, ⟨trivial, trivial⟩⟩⟩⟩⟩⟩⟩⟩⟩⟩⟩⟩
              refine TS.reg [.none, .none, .none, .none, .none, .none, .none, .none, .none, (.call (.bool y_8) [])] ?_ ?_
              · apply prop_of ?_ hq
                kernel_rfl
              refine XS.then ?_
              rcases bif_some h with ⟨c26, h⟩ | ⟨c27, h⟩
              · refine TS.cond (!y_8) ?_ (fun hcz => ?_) (fun hcz => by rw [c26] at hcz; cases hcz)
                · kernel_rfl
                refine TS.seq ?_
                have hq : (True) ∧ (True) := ⟨trivial, trivial⟩
                refine TS.reg [] ?_ ?_
                · apply prop_of ?_ hq
                  kernel_rfl
                refine XS.then ?_
                refine TS.ret ?_
                refine XS.blockRet ?_
                refine XS.passR ?_
                refine XS.backR 3 (mkTs 126 [(1, (.ptr 0 [])), (4, (.mp 1)), (5, (.str rest)), (6, (.int .i64 x_2)), (7, (.ptr 2 [])), (39, (.sl (.st (.pair (.int .i64) (.pair (.int .i64) (.pair (.int .i64) (.pair (.int .i64) (.pair (.sl .str) (.sl (.st (.pair (.int .i64) (.pair .bool (.pair (.int .i64) (.pair (.int .i64) (.int .i64))))))))))))) c_Faces)), (40, (.int .i64 ((c_Faces.length : Nat) : Int))), (41, (.int .i64 x_2))]) (mkTs 126 [(1, (.ptr 0 [])), (4, (.mp 1)), (5, (.str rest)), (6, (.int .i64 x_2)), (7, (.ptr 2 [])), (39, (.sl (.st (.pair (.int .i64) (.pair (.int .i64) (.pair (.int .i64) (.pair (.int .i64) (.pair (.sl .str) (.sl (.st (.pair (.int .i64) (.pair .bool (.pair (.int .i64) (.pair (.int .i64) (.int .i64))))))))))))) c_Faces)), (40, (.int .i64 ((c_Faces.length : Nat) : Int))), (41, (.int .i64 x_2)), (48, (.int .i64 (1 : Int)))], [(.box 24 (.st (.cons (.int .i64 c_Value) (.cons (.int .i64 c_Name) (.cons (.int .i64 c_Attr) (.cons (.int .i64 c_Power) (.sl (.st (.pair (.int .i64) (.pair (.int .i64) (.pair (.int .i64) (.pair (.int .i64) (.pair (.sl .str) (.sl (.st (.pair (.int .i64) (.pair .bool (.pair (.int .i64) (.pair (.int .i64) (.int .i64))))))))))))) c_Faces))))))), (.map 46 (.st (.pair (.int .i64) .bool)) .bool m1), (.box 49 (.st (.cons (.int .i64 (c_Faces.getD x_2.toNat ((0 : Int), ((0 : Int), ((0 : Int), ((0 : Int), (([] : List (List UInt8)), ([] : List (Int × Bool × Int × Int × Int)))))))).1) (.cons (.int .i64 (c_Faces.getD x_2.toNat ((0 : Int), ((0 : Int), ((0 : Int), ((0 : Int), (([] : List (List UInt8)), ([] : List (Int × Bool × Int × Int × Int)))))))).2.1) (.cons (.int .i64 (c_Faces.getD x_2.toNat ((0 : Int), ((0 : Int), ((0 : Int), ((0 : Int), (([] : List (List UInt8)), ([] : List (Int × Bool × Int × Int × Int)))))))).2.2.1) (.cons (.int .i64 (c_Faces.getD x_2.toNat ((0 : Int), ((0 : Int), ((0 : Int), ((0 : Int), (([] : List (List UInt8)), ([] : List (Int × Bool × Int × Int × Int)))))))).2.2.2.1) (.cons (.sl .str (c_Faces.getD x_2.toNat ((0 : Int), ((0 : Int), ((0 : Int), ((0 : Int), (([] : List (List UInt8)), ([] : List (Int × Bool × Int × Int × Int)))))))).2.2.2.2.1) (.sl (.st (.pair (.int .i64) (.pair .bool (.pair (.int .i64) (.pair (.int .i64) (.int .i64)))))) (c_Faces.getD x_2.toNat ((0 : Int), ((0 : Int), ((0 : Int), ((0 : Int), (([] : List (List UInt8)), ([] : List (Int × Bool × Int × Int × Int)))))))).2.2.2.2.2)))))))), .dead, (.box 49 (.st (.cons (.int .i64 (c_Faces.getD x_2.toNat ((0 : Int), ((0 : Int), ((0 : Int), ((0 : Int), (([] : List (List UInt8)), ([] : List (Int × Bool × Int × Int × Int)))))))).1) (.cons (.int .i64 (c_Faces.getD x_2.toNat ((0 : Int), ((0 : Int), ((0 : Int), ((0 : Int), (([] : List (List UInt8)), ([] : List (Int × Bool × Int × Int × Int)))))))).2.1) (.cons (.int .i64 (c_Faces.getD x_2.toNat ((0 : Int), ((0 : Int), ((0 : Int), ((0 : Int), (([] : List (List UInt8)), ([] : List (Int × Bool × Int × Int × Int)))))))).2.2.1) (.cons (.int .i64 (c_Faces.getD x_2.toNat ((0 : Int), ((0 : Int), ((0 : Int), ((0 : Int), (([] : List (List UInt8)), ([] : List (Int × Bool × Int × Int × Int)))))))).2.2.2.1) (.cons (.sl .str (c_Faces.getD x_2.toNat ((0 : Int), ((0 : Int), ((0 : Int), ((0 : Int), (([] : List (List UInt8)), ([] : List (Int × Bool × Int × Int × Int)))))))).2.2.2.2.1) (.sl (.st (.pair (.int .i64) (.pair .bool (.pair (.int .i64) (.pair (.int .i64) (.int .i64)))))) (c_Faces.getD x_2.toNat ((0 : Int), ((0 : Int), ((0 : Int), ((0 : Int), (([] : List (List UInt8)), ([] : List (Int × Bool × Int × Int × Int)))))))).2.2.2.2.2)))))))), (.row 3 (.int .i64) [(c_Faces.getD x_2.toNat ((0 : Int), ((0 : Int), ((0 : Int), ((0 : Int), (([] : List (List UInt8)), ([] : List (Int × Bool × Int × Int × Int)))))))).1, (c_Faces.getD x_2.toNat ((0 : Int), ((0 : Int), ((0 : Int), ((0 : Int), (([] : List (List UInt8)), ([] : List (Int × Bool × Int × Int × Int)))))))).2.1, (c_Faces.getD x_2.toNat ((0 : Int), ((0 : Int), ((0 : Int), ((0 : Int), (([] : List (List UInt8)), ([] : List (Int × Bool × Int × Int × Int)))))))).2.2.1, (c_Faces.getD x_2.toNat ((0 : Int), ((0 : Int), ((0 : Int), ((0 : Int), (([] : List (List UInt8)), ([] : List (Int × Bool × Int × Int × Int)))))))).2.2.2.1])]) ((True) ∧ (True)) (by kernel_rfl) (by kernel_rfl) ⟨trivial, trivial⟩ ?_
                refine KS.ofX ?_
                refine XS.reAny [0, 1, 2] (mkMask 126 [1, 4, 5, 6, 7, 39, 40, 41, 48]) ((1 : Int), m1) h ?_
                kernel_rfl
              · refine TS.cond (!y_8) ?_ (fun hcz => by rw [c27] at hcz; cases hcz) (fun hcz => ?_)
                · kernel_rfl
                refine TS.seq ?_
                have hq : (True) ∧ ((True) ∧ ((True) ∧ ((True) ∧ ((True) ∧ (True))))) := ⟨trivial, ⟨trivial, ⟨trivial, ⟨trivial, ⟨trivial, trivial⟩⟩⟩⟩⟩
                refine TS.reg [] ?_ ?_
                · apply prop_of ?_ hq
                  kernel_rfl
                refine XS.then ?_
                rcases bif_some h with ⟨c28, h⟩ | ⟨c29, h⟩
                · refine TS.cond (decide (((((c_Faces.getD x_2.toNat ((0 : Int), ((0 : Int), ((0 : Int), ((0 : Int), (([] : List (List UInt8)), ([] : List (Int × Bool × Int × Int × Int)))))))).2.2.2.2.1).length : Nat) : Int) > (2 : Int))) ?_ (fun hcz => ?_) (fun hcz => by rw [c28] at hcz; cases hcz)
                  · kernel_rfl
                  refine TS.seq ?_
                  have hq : (True) ∧ (True) := ⟨trivial, trivial⟩
                  refine TS.reg [] ?_ ?_
                  · apply prop_of ?_ hq
                    kernel_rfl
                  refine XS.then ?_
                  refine TS.ret ?_
                  refine XS.blockRet ?_
                  refine XS.passR ?_
                  refine XS.backR 3 (mkTs 126 [(1, (.ptr 0 [])), (4, (.mp 1)), (5, (.str rest)), (6, (.int .i64 x_2)), (7, (.ptr 2 [])), (39, (.sl (.st (.pair (.int .i64) (.pair (.int .i64) (.pair (.int .i64) (.pair (.int .i64) (.pair (.sl .str) (.sl (.st (.pair (.int .i64) (.pair .bool (.pair (.int .i64) (.pair (.int .i64) (.int .i64))))))))))))) c_Faces)), (40, (.int .i64 ((c_Faces.length : Nat) : Int))), (41, (.int .i64 x_2))]) (mkTs 126 [(1, (.ptr 0 [])), (4, (.mp 1)), (5, (.str rest)), (6, (.int .i64 x_2)), (7, (.ptr 2 [])), (39, (.sl (.st (.pair (.int .i64) (.pair (.int .i64) (.pair (.int .i64) (.pair (.int .i64) (.pair (.sl .str) (.sl (.st (.pair (.int .i64) (.pair .bool (.pair (.int .i64) (.pair (.int .i64) (.int .i64))))))))))))) c_Faces)), (40, (.int .i64 ((c_Faces.length : Nat) : Int))), (41, (.int .i64 x_2)), (48, (.int .i64 (2 : Int)))], [(.box 24 (.st (.cons (.int .i64 c_Value) (.cons (.int .i64 c_Name) (.cons (.int .i64 c_Attr) (.cons (.int .i64 c_Power) (.sl (.st (.pair (.int .i64) (.pair (.int .i64) (.pair (.int .i64) (.pair (.int .i64) (.pair (.sl .str) (.sl (.st (.pair (.int .i64) (.pair .bool (.pair (.int .i64) (.pair (.int .i64) (.int .i64))))))))))))) c_Faces))))))), (.map 46 (.st (.pair (.int .i64) .bool)) .bool m1), (.box 49 (.st (.cons (.int .i64 (c_Faces.getD x_2.toNat ((0 : Int), ((0 : Int), ((0 : Int), ((0 : Int), (([] : List (List UInt8)), ([] : List (Int × Bool × Int × Int × Int)))))))).1) (.cons (.int .i64 (c_Faces.getD x_2.toNat ((0 : Int), ((0 : Int), ((0 : Int), ((0 : Int), (([] : List (List UInt8)), ([] : List (Int × Bool × Int × Int × Int)))))))).2.1) (.cons (.int .i64 (c_Faces.getD x_2.toNat ((0 : Int), ((0 : Int), ((0 : Int), ((0 : Int), (([] : List (List UInt8)), ([] : List (Int × Bool × Int × Int × Int)))))))).2.2.1) (.cons (.int .i64 (c_Faces.getD x_2.toNat ((0 : Int), ((0 : Int), ((0 : Int), ((0 : Int), (([] : List (List UInt8)), ([] : List (Int × Bool × Int × Int × Int)))))))).2.2.2.1) (.cons (.sl .str (c_Faces.getD x_2.toNat ((0 : Int), ((0 : Int), ((0 : Int), ((0 : Int), (([] : List (List UInt8)), ([] : List (Int × Bool × Int × Int × Int)))))))).2.2.2.2.1) (.sl (.st (.pair (.int .i64) (.pair .bool (.pair (.int .i64) (.pair (.int .i64) (.int .i64)))))) (c_Faces.getD x_2.toNat ((0 : Int), ((0 : Int), ((0 : Int), ((0 : Int), (([] : List (List UInt8)), ([] : List (Int × Bool × Int × Int × Int)))))))).2.2.2.2.2)))))))), .dead, (.box 49 (.st (.cons (.int .i64 (c_Faces.getD x_2.toNat ((0 : Int), ((0 : Int), ((0 : Int), ((0 : Int), (([] : List (List UInt8)), ([] : List (Int × Bool × Int × Int × Int)))))))).1) (.cons (.int .i64 (c_Faces.getD x_2.toNat ((0 : Int), ((0 : Int), ((0 : Int), ((0 : Int), (([] : List (List UInt8)), ([] : List (Int × Bool × Int × Int × Int)))))))).2.1) (.cons (.int .i64 (c_Faces.getD x_2.toNat ((0 : Int), ((0 : Int), ((0 : Int), ((0 : Int), (([] : List (List UInt8)), ([] : List (Int × Bool × Int × Int × Int)))))))).2.2.1) (.cons (.int .i64 (c_Faces.getD x_2.toNat ((0 : Int), ((0 : Int), ((0 : Int), ((0 : Int), (([] : List (List UInt8)), ([] : List (Int × Bool × Int × Int × Int)))))))).2.2.2.1) (.cons (.sl .str (c_Faces.getD x_2.toNat ((0 : Int), ((0 : Int), ((0 : Int), ((0 : Int), (([] : List (List UInt8)), ([] : List (Int × Bool × Int × Int × Int)))))))).2.2.2.2.1) (.sl (.st (.pair (.int .i64) (.pair .bool (.pair (.int .i64) (.pair (.int .i64) (.int .i64)))))) (c_Faces.getD x_2.toNat ((0 : Int), ((0 : Int), ((0 : Int), ((0 : Int), (([] : List (List UInt8)), ([] : List (Int × Bool × Int × Int × Int)))))))).2.2.2.2.2)))))))), (.row 3 (.int .i64) [(c_Faces.getD x_2.toNat ((0 : Int), ((0 : Int), ((0 : Int), ((0 : Int), (([] : List (List UInt8)), ([] : List (Int × Bool × Int × Int × Int)))))))).1, (c_Faces.getD x_2.toNat ((0 : Int), ((0 : Int), ((0 : Int), ((0 : Int), (([] : List (List UInt8)), ([] : List (Int × Bool × Int × Int × Int)))))))).2.1, (c_Faces.getD x_2.toNat ((0 : Int), ((0 : Int), ((0 : Int), ((0 : Int), (([] : List (List UInt8)), ([] : List (Int × Bool × Int × Int × Int)))))))).2.2.1, (c_Faces.getD x_2.toNat ((0 : Int), ((0 : Int), ((0 : Int), ((0 : Int), (([] : List (List UInt8)), ([] : List (Int × Bool × Int × Int × Int)))))))).2.2.2.1])]) ((True) ∧ (True)) (by kernel_rfl) (by kernel_rfl) ⟨trivial, trivial⟩ ?_
                  refine KS.ofX ?_
                  refine XS.reAny [0, 1, 2] (mkMask 126 [1, 4, 5, 6, 7, 39, 40, 41, 48]) ((2 : Int), m1) h ?_
                  kernel_rfl
                · refine TS.cond (decide (((((c_Faces.getD x_2.toNat ((0 : Int), ((0 : Int), ((0 : Int), ((0 : Int), (([] : List (List UInt8)), ([] : List (Int × Bool × Int × Int × Int)))))))).2.2.2.2.1).length : Nat) : Int) > (2 : Int))) ?_ (fun hcz => by rw [c29] at hcz; cases hcz) (fun hcz => ?_)
                  · kernel_rfl
                  refine TS.skip ?_
                  refine XS.blockEnd ?_
                  refine XS.then ?_
                  refine TS.seq ?_
                  refine TS.seq ?_
                  have hq : (True) ∧ ((True) ∧ ((True) ∧ ((True) ∧ (True)))) := ⟨trivial, ⟨trivial, ⟨trivial, ⟨trivial, trivial⟩⟩⟩⟩
                  refine TS.reg [] ?_ ?_
                  · apply prop_of ?_ hq
                    kernel_rfl
                  refine XS.then ?_
                  refine TS.block ?_
                  refine TS.reLoop [3, 0, 1, 2, 4] (mkMask 92 [1, 2, 28, 29, 30]) (D := Int) (fun d => match d with | x_5 => (mkTs 92 [(1, (.mp 2)), (2, (.ptr 4 [])), (28, (.sl .str (c_Faces.getD x_2.toNat ((0 : Int), ((0 : Int), ((0 : Int), ((0 : Int), (([] : List (List UInt8)), ([] : List (Int × Bool × Int × Int × Int)))))))).2.2.2.2.1)), (29, (.int .i64 ((((c_Faces.getD x_2.toNat ((0 : Int), ((0 : Int), ((0 : Int), ((0 : Int), (([] : List (List UInt8)), ([] : List (Int × Bool × Int × Int × Int)))))))).2.2.2.2.1).length : Nat) : Int))), (30, (.int .i64 x_5))], [(.sav (mkTs 126 [(1, (.ptr 1 [])), (4, (.mp 2)), (5, (.str rest)), (6, (.int .i64 x_2)), (7, (.ptr 3 [])), (39, (.sl (.st (.pair (.int .i64) (.pair (.int .i64) (.pair (.int .i64) (.pair (.int .i64) (.pair (.sl .str) (.sl (.st (.pair (.int .i64) (.pair .bool (.pair (.int .i64) (.pair (.int .i64) (.int .i64))))))))))))) c_Faces)), (40, (.int .i64 ((c_Faces.length : Nat) : Int))), (41, (.int .i64 x_2))]) fv6), (.box 24 (.st (.cons (.int .i64 c_Value) (.cons (.int .i64 c_Name) (.cons (.int .i64 c_Attr) (.cons (.int .i64 c_Power) (.sl (.st (.pair (.int .i64) (.pair (.int .i64) (.pair (.int .i64) (.pair (.int .i64) (.pair (.sl .str) (.sl (.st (.pair (.int .i64) (.pair .bool (.pair (.int .i64) (.pair (.int .i64) (.int .i64))))))))))))) c_Faces))))))), (.map 46 (.st (.pair (.int .i64) .bool)) .bool m1), (.box 49 (.st (.cons (.int .i64 (c_Faces.getD x_2.toNat ((0 : Int), ((0 : Int), ((0 : Int), ((0 : Int), (([] : List (List UInt8)), ([] : List (Int × Bool × Int × Int × Int)))))))).1) (.cons (.int .i64 (c_Faces.getD x_2.toNat ((0 : Int), ((0 : Int), ((0 : Int), ((0 : Int), (([] : List (List UInt8)), ([] : List (Int × Bool × Int × Int × Int)))))))).2.1) (.cons (.int .i64 (c_Faces.getD x_2.toNat ((0 : Int), ((0 : Int), ((0 : Int), ((0 : Int), (([] : List (List UInt8)), ([] : List (Int × Bool × Int × Int × Int)))))))).2.2.1) (.cons (.int .i64 (c_Faces.getD x_2.toNat ((0 : Int), ((0 : Int), ((0 : Int), ((0 : Int), (([] : List (List UInt8)), ([] : List (Int × Bool × Int × Int × Int)))))))).2.2.2.1) (.cons (.sl .str (c_Faces.getD x_2.toNat ((0 : Int), ((0 : Int), ((0 : Int), ((0 : Int), (([] : List (List UInt8)), ([] : List (Int × Bool × Int × Int × Int)))))))).2.2.2.2.1) (.sl (.st (.pair (.int .i64) (.pair .bool (.pair (.int .i64) (.pair (.int .i64) (.int .i64)))))) (c_Faces.getD x_2.toNat ((0 : Int), ((0 : Int), ((0 : Int), ((0 : Int), (([] : List (List UInt8)), ([] : List (Int × Bool × Int × Int × Int)))))))).2.2.2.2.2)))))))), (.box 49 (.st (.cons (.int .i64 (c_Faces.getD x_2.toNat ((0 : Int), ((0 : Int), ((0 : Int), ((0 : Int), (([] : List (List UInt8)), ([] : List (Int × Bool × Int × Int × Int)))))))).1) (.cons (.int .i64 (c_Faces.getD x_2.toNat ((0 : Int), ((0 : Int), ((0 : Int), ((0 : Int), (([] : List (List UInt8)), ([] : List (Int × Bool × Int × Int × Int)))))))).2.1) (.cons (.int .i64 (c_Faces.getD x_2.toNat ((0 : Int), ((0 : Int), ((0 : Int), ((0 : Int), (([] : List (List UInt8)), ([] : List (Int × Bool × Int × Int × Int)))))))).2.2.1) (.cons (.int .i64 (c_Faces.getD x_2.toNat ((0 : Int), ((0 : Int), ((0 : Int), ((0 : Int), (([] : List (List UInt8)), ([] : List (Int × Bool × Int × Int × Int)))))))).2.2.2.1) (.cons (.sl .str (c_Faces.getD x_2.toNat ((0 : Int), ((0 : Int), ((0 : Int), ((0 : Int), (([] : List (List UInt8)), ([] : List (Int × Bool × Int × Int × Int)))))))).2.2.2.2.1) (.sl (.st (.pair (.int .i64) (.pair .bool (.pair (.int .i64) (.pair (.int .i64) (.int .i64)))))) (c_Faces.getD x_2.toNat ((0 : Int), ((0 : Int), ((0 : Int), ((0 : Int), (([] : List (List UInt8)), ([] : List (Int × Bool × Int × Int × Int)))))))).2.2.2.2.2))))))))])) (fun n' d => loopF (F7_l186 n (loopF (F7_l159 n c_Value c_Name c_Attr c_Power c_Faces) n159) c_Faces rest x_2 m1) n' d = some r) n (0 : Int) h ?_ (fun d => loopF_zero _ d r) ?_
                  · kernel_rfl
                  · rintro n186 x_5 h
                    replace h : (bif (decide (x_5 < ((((c_Faces.getD x_2.toNat ((0 : Int), ((0 : Int), ((0 : Int), ((0 : Int), (([] : List (List UInt8)), ([] : List (Int × Bool × Int × Int × Int)))))))).2.2.2.2.1).length : Nat) : Int))) then (bif inb x_5 (((c_Faces.getD x_2.toNat ((0 : Int), ((0 : Int), ((0 : Int), ((0 : Int), (([] : List (List UInt8)), ([] : List (Int × Bool × Int × Int × Int)))))))).2.2.2.2.1).length) then ((F45 n (((c_Faces.getD x_2.toNat ((0 : Int), ((0 : Int), ((0 : Int), ((0 : Int), (([] : List (List UInt8)), ([] : List (Int × Bool × Int × Int × Int)))))))).2.2.2.2.1).getD x_5.toNat ([] : List UInt8))).bind fun y_9 => (bif (!y_9) then (F7_j173 n (loopF (F7_l159 n c_Value c_Name c_Attr c_Power c_Faces) n159) c_Faces rest x_2 ((1 : Int), m1)) else ((loopF (F7_l186 n (loopF (F7_l159 n c_Value c_Name c_Attr c_Power c_Faces) n159) c_Faces rest x_2 m1) n186) (IntKind.wrap .i64 (x_5 + (1 : Int)))))) else none) else (bif (decide (((((c_Faces.getD x_2.toNat ((0 : Int), ((0 : Int), ((0 : Int), ((0 : Int), (([] : List (List UInt8)), ([] : List (Int × Bool × Int × Int × Int)))))))).2.2.2.2.2).length : Nat) : Int) > (4 : Int))) then (F7_j173 n (loopF (F7_l159 n c_Value c_Name c_Attr c_Power c_Faces) n159) c_Faces rest x_2 ((2 : Int), m1)) else (loopF (F7_l189 n (loopF (F7_l159 n c_Value c_Name c_Attr c_Power c_Faces) n159) c_Faces rest x_2) n ((0 : Int), m1)))) = some r := h
                    refine TS.seq ?_
                    have hq : (True) ∧ (True) := ⟨trivial, trivial⟩
                    refine TS.reg [] ?_ ?_
                    · apply prop_of ?_ hq
                      kernel_rfl
                    refine XS.then ?_
                    refine TS.seq ?_
                    rcases bif_some h with ⟨c30, h⟩ | ⟨c31, h⟩
                    · refine TS.cond (decide (x_5 < ((((c_Faces.getD x_2.toNat ((0 : Int), ((0 : Int), ((0 : Int), ((0 : Int), (([] : List (List UInt8)), ([] : List (Int × Bool × Int × Int × Int)))))))).2.2.2.2.1).length : Nat) : Int))) ?_ (fun hcz => ?_) (fun hcz => by rw [c30] at hcz; cases hcz)
                      · kernel_rfl
                      refine TS.skip ?_
                      refine XS.then ?_
                      refine TS.seq ?_
                      refine TS.block ?_
                      refine TS.seq ?_
                      obtain ⟨t32, h⟩ := test_some h
                      have hq : (inR x_5 (((c_Faces.getD x_2.toNat ((0 : Int), ((0 : Int), ((0 : Int), ((0 : Int), (([] : List (List UInt8)), ([] : List (Int × Bool × Int × Int × Int)))))))).2.2.2.2.1).length)) ∧ ((True) ∧ ((True) ∧ (True))) := ⟨inb_ok t32, ⟨trivial, ⟨trivial, trivial⟩⟩⟩
                      refine TS.reg [] ?_ ?_
                      · apply prop_of ?_ hq
                        kernel_rfl
                      refine XS.then ?_
                      refine TS.seq ?_
                      obtain ⟨y_9, hx33, h⟩ := bind_some' h
                      have hq : (True) ∧ ((PureC Try.prog 45 [(.str (((c_Faces.getD x_2.toNat ((0 : Int), ((0 : Int), ((0 : Int), ((0 : Int), (([] : List (List UInt8)), ([] : List (Int × Bool × Int × Int × Int)))))))).2.2.2.2.1).getD x_5.toNat ([] : List UInt8)))] (.bool y_9) []) ∧ ((True) ∧ (True))) := ⟨trivial, ⟨F45_ok n (((c_Faces.getD x_2.toNat ((0 : Int), ((0 : Int), ((0 : Int), ((0 : Int), (([] : List (List UInt8)), ([] : List (Int × Bool × Int × Int × Int)))))))).2.2.2.2.1).getD x_5.toNat ([] : List UInt8)) y_9 hx33, ⟨trivial, trivial⟩⟩⟩
                      refine TS.reg [.none, (.call (.bool y_9) [])] ?_ ?_
                      · apply prop_of ?_ hq
                        kernel_rfl
                      refine XS.then ?_
                      rcases bif_some h with ⟨c34, h⟩ | ⟨c35, h⟩
                      · refine TS.cond (!y_9) ?_ (fun hcz => ?_) (fun hcz => by rw [c34] at hcz; cases hcz)
                        · kernel_rfl
                        refine TS.seq ?_
                        have hq : (True) ∧ (True) := ⟨trivial, trivial⟩
                        refine TS.reg [] ?_ ?_
                        · apply prop_of ?_ hq
                          kernel_rfl
                        refine XS.then ?_
                        refine TS.ret ?_
                        refine XS.blockRet ?_
                        refine XS.passR ?_
                        refine XS.passR ?_
                        refine XS.blockRet ?_
                        refine XS.passR ?_
                        refine XS.backR 0 (mkTs 126 [(1, (.ptr 1 [])), (4, (.mp 2)), (5, (.str rest)), (6, (.int .i64 x_2)), (7, (.ptr 3 [])), (39, (.sl (.st (.pair (.int .i64) (.pair (.int .i64) (.pair (.int .i64) (.pair (.int .i64) (.pair (.sl .str) (.sl (.st (.pair (.int .i64) (.pair .bool (.pair (.int .i64) (.pair (.int .i64) (.int .i64))))))))))))) c_Faces)), (40, (.int .i64 ((c_Faces.length : Nat) : Int))), (41, (.int .i64 x_2))]) (mkTs 126 [(1, (.ptr 1 [])), (4, (.mp 2)), (5, (.str rest)), (6, (.int .i64 x_2)), (7, (.ptr 3 [])), (39, (.sl (.st (.pair (.int .i64) (.pair (.int .i64) (.pair (.int .i64) (.pair (.int .i64) (.pair (.sl .str) (.sl (.st (.pair (.int .i64) (.pair .bool (.pair (.int .i64) (.pair (.int .i64) (.int .i64))))))))))))) c_Faces)), (40, (.int .i64 ((c_Faces.length : Nat) : Int))), (41, (.int .i64 x_2)), (48, (.int .i64 (1 : Int)))], [.dead, (.box 24 (.st (.cons (.int .i64 c_Value) (.cons (.int .i64 c_Name) (.cons (.int .i64 c_Attr) (.cons (.int .i64 c_Power) (.sl (.st (.pair (.int .i64) (.pair (.int .i64) (.pair (.int .i64) (.pair (.int .i64) (.pair (.sl .str) (.sl (.st (.pair (.int .i64) (.pair .bool (.pair (.int .i64) (.pair (.int .i64) (.int .i64))))))))))))) c_Faces))))))), (.map 46 (.st (.pair (.int .i64) .bool)) .bool m1), (.box 49 (.st (.cons (.int .i64 (c_Faces.getD x_2.toNat ((0 : Int), ((0 : Int), ((0 : Int), ((0 : Int), (([] : List (List UInt8)), ([] : List (Int × Bool × Int × Int × Int)))))))).1) (.cons (.int .i64 (c_Faces.getD x_2.toNat ((0 : Int), ((0 : Int), ((0 : Int), ((0 : Int), (([] : List (List UInt8)), ([] : List (Int × Bool × Int × Int × Int)))))))).2.1) (.cons (.int .i64 (c_Faces.getD x_2.toNat ((0 : Int), ((0 : Int), ((0 : Int), ((0 : Int), (([] : List (List UInt8)), ([] : List (Int × Bool × Int × Int × Int)))))))).2.2.1) (.cons (.int .i64 (c_Faces.getD x_2.toNat ((0 : Int), ((0 : Int), ((0 : Int), ((0 : Int), (([] : List (List UInt8)), ([] : List (Int × Bool × Int × Int × Int)))))))).2.2.2.1) (.cons (.sl .str (c_Faces.getD x_2.toNat ((0 : Int), ((0 : Int), ((0 : Int), ((0 : Int), (([] : List (List UInt8)), ([] : List (Int × Bool × Int × Int × Int)))))))).2.2.2.2.1) (.sl (.st (.pair (.int .i64) (.pair .bool (.pair (.int .i64) (.pair (.int .i64) (.int .i64)))))) (c_Faces.getD x_2.toNat ((0 : Int), ((0 : Int), ((0 : Int), ((0 : Int), (([] : List (List UInt8)), ([] : List (Int × Bool × Int × Int × Int)))))))).2.2.2.2.2)))))))), (.box 49 (.st (.cons (.int .i64 (c_Faces.getD x_2.toNat ((0 : Int), ((0 : Int), ((0 : Int), ((0 : Int), (([] : List (List UInt8)), ([] : List (Int × Bool × Int × Int × Int)))))))).1) (.cons (.int .i64 (c_Faces.getD x_2.toNat ((0 : Int), ((0 : Int), ((0 : Int), ((0 : Int), (([] : List (List UInt8)), ([] : List (Int × Bool × Int × Int × Int)))))))).2.1) (.cons (.int .i64 (c_Faces.getD x_2.toNat ((0 : Int), ((0 : Int), ((0 : Int), ((0 : Int), (([] : List (List UInt8)), ([] : List (Int × Bool × Int × Int × Int)))))))).2.2.1) (.cons (.int .i64 (c_Faces.getD x_2.toNat ((0 : Int), ((0 : Int), ((0 : Int), ((0 : Int), (([] : List (List UInt8)), ([] : List (Int × Bool × Int × Int × Int)))))))).2.2.2.1) (.cons (.sl .str (c_Faces.getD x_2.toNat ((0 : Int), ((0 : Int), ((0 : Int), ((0 : Int), (([] : List (List UInt8)), ([] : List (Int × Bool × Int × Int × Int)))))))).2.2.2.2.1) (.sl (.st (.pair (.int .i64) (.pair .bool (.pair (.int .i64) (.pair (.int .i64) (.int .i64)))))) (c_Faces.getD x_2.toNat ((0 : Int), ((0 : Int), ((0 : Int), ((0 : Int), (([] : List (List UInt8)), ([] : List (Int × Bool × Int × Int × Int)))))))).2.2.2.2.2))))))))]) ((True) ∧ (True)) (by kernel_rfl) (by kernel_rfl) ⟨trivial, trivial⟩ ?_
                        refine KS.ofX ?_
                        refine XS.reAny [1, 2, 3] (mkMask 126 [1, 4, 5, 6, 7, 39, 40, 41, 48]) ((1 : Int), m1) h ?_
                        kernel_rfl
                      · refine TS.cond (!y_9) ?_ (fun hcz => by rw [c35] at hcz; cases hcz) (fun hcz => ?_)
                        · kernel_rfl
                        refine TS.skip ?_
                        refine XS.blockEnd ?_
                        refine XS.then ?_
                        have hq : (True) ∧ ((True) ∧ (True)) := ⟨trivial, ⟨trivial, trivial⟩⟩
                        refine TS.reg [] ?_ ?_
                        · apply prop_of ?_ hq
                          kernel_rfl
                        refine XS.reAny [0, 1, 2, 3, 4] (mkMask 92 [1, 2, 28, 29, 30]) (IntKind.wrap .i64 (x_5 + (1 : Int))) h ?_
                        kernel_rfl
                    · refine TS.cond (decide (x_5 < ((((c_Faces.getD x_2.toNat ((0 : Int), ((0 : Int), ((0 : Int), ((0 : Int), (([] : List (List UInt8)), ([] : List (Int × Bool × Int × Int × Int)))))))).2.2.2.2.1).length : Nat) : Int))) ?_ (fun hcz => by rw [c31] at hcz; cases hcz) (fun hcz => ?_)
                      · kernel_rfl
                      refine TS.exit ?_
                      refine XS.passE ?_
                      refine XS.passE ?_
                      refine XS.out ?_
                      refine XS.then ?_
                      refine TS.seq ?_
                      refine TS.seq ?_
                      have hq : (True) ∧ ((True) ∧ ((True) ∧ ((True) ∧ (True)))) := ⟨trivial, ⟨trivial, ⟨trivial, ⟨trivial, trivial⟩⟩⟩⟩
                      refine TS.reg [] ?_ ?_
                      · apply prop_of ?_ hq
                        kernel_rfl
                      refine XS.then ?_
                      rcases bif_some h with ⟨c36, h⟩ | ⟨c37, h⟩
                      · refine TS.cond (decide (((((c_Faces.getD x_2.toNat ((0 : Int), ((0 : Int), ((0 : Int), ((0 : Int), (([] : List (List UInt8)), ([] : List (Int × Bool × Int × Int × Int)))))))).2.2.2.2.2).length : Nat) : Int) > (4 : Int))) ?_ (fun hcz => ?_) (fun hcz => by rw [c36] at hcz; cases hcz)
                        · kernel_rfl
                        refine TS.seq ?_
                        have hq : (True) ∧ (True) := ⟨trivial, trivial⟩
                        refine TS.reg [] ?_ ?_
                        · apply prop_of ?_ hq
                          kernel_rfl
                        refine XS.then ?_
                        refine TS.ret ?_
                        refine XS.passR ?_
                        refine XS.backR 0 (mkTs 126 [(1, (.ptr 1 [])), (4, (.mp 2)), (5, (.str rest)), (6, (.int .i64 x_2)), (7, (.ptr 3 [])), (39, (.sl (.st (.pair (.int .i64) (.pair (.int .i64) (.pair (.int .i64) (.pair (.int .i64) (.pair (.sl .str) (.sl (.st (.pair (.int .i64) (.pair .bool (.pair (.int .i64) (.pair (.int .i64) (.int .i64))))))))))))) c_Faces)), (40, (.int .i64 ((c_Faces.length : Nat) : Int))), (41, (.int .i64 x_2))]) (mkTs 126 [(1, (.ptr 1 [])), (4, (.mp 2)), (5, (.str rest)), (6, (.int .i64 x_2)), (7, (.ptr 3 [])), (39, (.sl (.st (.pair (.int .i64) (.pair (.int .i64) (.pair (.int .i64) (.pair (.int .i64) (.pair (.sl .str) (.sl (.st (.pair (.int .i64) (.pair .bool (.pair (.int .i64) (.pair (.int .i64) (.int .i64))))))))))))) c_Faces)), (40, (.int .i64 ((c_Faces.length : Nat) : Int))), (41, (.int .i64 x_2)), (48, (.int .i64 (2 : Int)))], [.dead, (.box 24 (.st (.cons (.int .i64 c_Value) (.cons (.int .i64 c_Name) (.cons (.int .i64 c_Attr) (.cons (.int .i64 c_Power) (.sl (.st (.pair (.int .i64) (.pair (.int .i64) (.pair (.int .i64) (.pair (.int .i64) (.pair (.sl .str) (.sl (.st (.pair (.int .i64) (.pair .bool (.pair (.int .i64) (.pair (.int .i64) (.int .i64))))))))))))) c_Faces))))))), (.map 46 (.st (.pair (.int .i64) .bool)) .bool m1), (.box 49 (.st (.cons (.int .i64 (c_Faces.getD x_2.toNat ((0 : Int), ((0 : Int), ((0 : Int), ((0 : Int), (([] : List (List UInt8)), ([] : List (Int × Bool × Int × Int × Int)))))))).1) (.cons (.int .i64 (c_Faces.getD x_2.toNat ((0 : Int), ((0 : Int), ((0 : Int), ((0 : Int), (([] : List (List UInt8)), ([] : List (Int × Bool × Int × Int × Int)))))))).2.1) (.cons (.int .i64 (c_Faces.getD x_2.toNat ((0 : Int), ((0 : Int), ((0 : Int), ((0 : Int), (([] : List (List UInt8)), ([] : List (Int × Bool × Int × Int × Int)))))))).2.2.1) (.cons (.int .i64 (c_Faces.getD x_2.toNat ((0 : Int), ((0 : Int), ((0 : Int), ((0 : Int), (([] : List (List UInt8)), ([] : List (Int × Bool × Int × Int × Int)))))))).2.2.2.1) (.cons (.sl .str (c_Faces.getD x_2.toNat ((0 : Int), ((0 : Int), ((0 : Int), ((0 : Int), (([] : List (List UInt8)), ([] : List (Int × Bool × Int × Int × Int)))))))).2.2.2.2.1) (.sl (.st (.pair (.int .i64) (.pair .bool (.pair (.int .i64) (.pair (.int .i64) (.int .i64)))))) (c_Faces.getD x_2.toNat ((0 : Int), ((0 : Int), ((0 : Int), ((0 : Int), (([] : List (List UInt8)), ([] : List (Int × Bool × Int × Int × Int)))))))).2.2.2.2.2)))))))), (.box 49 (.st (.cons (.int .i64 (c_Faces.getD x_2.toNat ((0 : Int), ((0 : Int), ((0 : Int), ((0 : Int), (([] : List (List UInt8)), ([] : List (Int × Bool × Int × Int × Int)))))))).1) (.cons (.int .i64 (c_Faces.getD x_2.toNat ((0 : Int), ((0 : Int), ((0 : Int), ((0 : Int), (([] : List (List UInt8)), ([] : List (Int × Bool × Int × Int × Int)))))))).2.1) (.cons (.int .i64 (c_Faces.getD x_2.toNat ((0 : Int), ((0 : Int), ((0 : Int), ((0 : Int), (([] : List (List UInt8)), ([] : List (Int × Bool × Int × Int × Int)))))))).2.2.1) (.cons (.int .i64 (c_Faces.getD x_2.toNat ((0 : Int), ((0 : Int), ((0 : Int), ((0 : Int), (([] : List (List UInt8)), ([] : List (Int × Bool × Int × Int × Int)))))))).2.2.2.1) (.cons (.sl .str (c_Faces.getD x_2.toNat ((0 : Int), ((0 : Int), ((0 : Int), ((0 : Int), (([] : List (List UInt8)), ([] : List (Int × Bool × Int × Int × Int)))))))).2.2.2.2.1) (.sl (.st (.pair (.int .i64) (.pair .bool (.pair (.int .i64) (.pair (.int .i64) (.int .i64)))))) (c_Faces.getD x_2.toNat ((0 : Int), ((0 : Int), ((0 : Int), ((0 : Int), (([] : List (List UInt8)), ([] : List (Int × Bool × Int × Int × Int)))))))).2.2.2.2.2))))))))]) ((True) ∧ (True)) (by kernel_rfl) (by kernel_rfl) ⟨trivial, trivial⟩ ?_
                        refine KS.ofX ?_
                        refine XS.reAny [1, 2, 3] (mkMask 126 [1, 4, 5, 6, 7, 39, 40, 41, 48]) ((2 : Int), m1) h ?_
                        kernel_rfl
                      · refine TS.cond (decide (((((c_Faces.getD x_2.toNat ((0 : Int), ((0 : Int), ((0 : Int), ((0 : Int), (([] : List (List UInt8)), ([] : List (Int × Bool × Int × Int × Int)))))))).2.2.2.2.2).length : Nat) : Int) > (4 : Int))) ?_ (fun hcz => by rw [c37] at hcz; cases hcz) (fun hcz => ?_)
                        · kernel_rfl
                        refine TS.skip ?_
                        refine XS.then ?_
                        refine TS.seq ?_
                        refine TS.seq ?_
                        have hq : (True) ∧ ((True) ∧ ((True) ∧ ((True) ∧ (True)))) := ⟨trivial, ⟨trivial, ⟨trivial, ⟨trivial, trivial⟩⟩⟩⟩
                        refine TS.reg [] ?_ ?_
                        · apply prop_of ?_ hq
                          kernel_rfl
                        refine XS.then ?_
                        refine TS.block ?_
                        refine TS.reLoop [0, 1, 2, 3] (mkMask 92 [1, 43, 44, 45]) (D := Int × (List ((Int × Bool) × Bool))) (fun d => match d with | (x_6, m2) => (mkTs 92 [(1, (.mp 2)), (43, (.sl (.st (.pair (.int .i64) (.pair .bool (.pair (.int .i64) (.pair (.int .i64) (.int .i64)))))) (c_Faces.getD x_2.toNat ((0 : Int), ((0 : Int), ((0 : Int), ((0 : Int), (([] : List (List UInt8)), ([] : List (Int × Bool × Int × Int × Int)))))))).2.2.2.2.2)), (44, (.int .i64 ((((c_Faces.getD x_2.toNat ((0 : Int), ((0 : Int), ((0 : Int), ((0 : Int), (([] : List (List UInt8)), ([] : List (Int × Bool × Int × Int × Int)))))))).2.2.2.2.2).length : Nat) : Int))), (45, (.int .i64 x_6))], [(.sav (mkTs 126 [(1, (.ptr 1 [])), (4, (.mp 2)), (5, (.str rest)), (6, (.int .i64 x_2)), (7, (.ptr 3 [])), (39, (.sl (.st (.pair (.int .i64) (.pair (.int .i64) (.pair (.int .i64) (.pair (.int .i64) (.pair (.sl .str) (.sl (.st (.pair (.int .i64) (.pair .bool (.pair (.int .i64) (.pair (.int .i64) (.int .i64))))))))))))) c_Faces)), (40, (.int .i64 ((c_Faces.length : Nat) : Int))), (41, (.int .i64 x_2))]) fv6), (.box 24 (.st (.cons (.int .i64 c_Value) (.cons (.int .i64 c_Name) (.cons (.int .i64 c_Attr) (.cons (.int .i64 c_Power) (.sl (.st (.pair (.int .i64) (.pair (.int .i64) (.pair (.int .i64) (.pair (.int .i64) (.pair (.sl .str) (.sl (.st (.pair (.int .i64) (.pair .bool (.pair (.int .i64) (.pair (.int .i64) (.int .i64))))))))))))) c_Faces))))))), (.map 46 (.st (.pair (.int .i64) .bool)) .bool m2), (.box 49 (.st (.cons (.int .i64 (c_Faces.getD x_2.toNat ((0 : Int), ((0 : Int), ((0 : Int), ((0 : Int), (([] : List (List UInt8)), ([] : List (Int × Bool × Int × Int × Int)))))))).1) (.cons (.int .i64 (c_Faces.getD x_2.toNat ((0 : Int), ((0 : Int), ((0 : Int), ((0 : Int), (([] : List (List UInt8)), ([] : List (Int × Bool × Int × Int × Int)))))))).2.1) (.cons (.int .i64 (c_Faces.getD x_2.toNat ((0 : Int), ((0 : Int), ((0 : Int), ((0 : Int), (([] : List (List UInt8)), ([] : List (Int × Bool × Int × Int × Int)))))))).2.2.1) (.cons (.int .i64 (c_Faces.getD x_2.toNat ((0 : Int), ((0 : Int), ((0 : Int), ((0 : Int), (([] : List (List UInt8)), ([] : List (Int × Bool × Int × Int × Int)))))))).2.2.2.1) (.cons (.sl .str (c_Faces.getD x_2.toNat ((0 : Int), ((0 : Int), ((0 : Int), ((0 : Int), (([] : List (List UInt8)), ([] : List (Int × Bool × Int × Int × Int)))))))).2.2.2.2.1) (.sl (.st (.pair (.int .i64) (.pair .bool (.pair (.int .i64) (.pair (.int .i64) (.int .i64)))))) (c_Faces.getD x_2.toNat ((0 : Int), ((0 : Int), ((0 : Int), ((0 : Int), (([] : List (List UInt8)), ([] : List (Int × Bool × Int × Int × Int)))))))).2.2.2.2.2))))))))])) (fun n' d => loopF (F7_l189 n (loopF (F7_l159 n c_Value c_Name c_Attr c_Power c_Faces) n159) c_Faces rest x_2) n' d = some r) n ((0 : Int), m1) h ?_ (fun d => loopF_zero _ d r) ?_
                        · kernel_rfl
                        · rintro n189 ⟨x_6, m2⟩ h
                          replace h : (bif (decide (x_6 < ((((c_Faces.getD x_2.toNat ((0 : Int), ((0 : Int), ((0 : Int), ((0 : Int), (([] : List (List UInt8)), ([] : List (Int × Bool × Int × Int × Int)))))))).2.2.2.2.2).length : Nat) : Int))) then (bif inb x_6 (((c_Faces.getD x_2.toNat ((0 : Int), ((0 : Int), ((0 : Int), ((0 : Int), (([] : List (List UInt8)), ([] : List (Int × Bool × Int × Int × Int)))))))).2.2.2.2.2).length) then (bif (decide ((((c_Faces.getD x_2.toNat ((0 : Int), ((0 : Int), ((0 : Int), ((0 : Int), (([] : List (List UInt8)), ([] : List (Int × Bool × Int × Int × Int)))))))).2.2.2.2.2).getD x_6.toNat ((0 : Int), (false, ((0 : Int), ((0 : Int), (0 : Int)))))).1 < (1 : Int))) then (F7_j190 n (loopF (F7_l159 n c_Value c_Name c_Attr c_Power c_Faces) n159) (loopF (F7_l189 n (loopF (F7_l159 n c_Value c_Name c_Attr c_Power c_Faces) n159) c_Faces rest x_2) n189) c_Faces rest x_2 x_6 m2 true) else (bif (decide ((((c_Faces.getD x_2.toNat ((0 : Int), ((0 : Int), ((0 : Int), ((0 : Int), (([] : List (List UInt8)), ([] : List (Int × Bool × Int × Int × Int)))))))).2.2.2.2.2).getD x_6.toNat ((0 : Int), (false, ((0 : Int), ((0 : Int), (0 : Int)))))).1 > (15 : Int))) then (F7_j190 n (loopF (F7_l159 n c_Value c_Name c_Attr c_Power c_Faces) n159) (loopF (F7_l189 n (loopF (F7_l159 n c_Value c_Name c_Attr c_Power c_Faces) n159) c_Faces rest x_2) n189) c_Faces rest x_2 x_6 m2 true) else ((F44 n (3 : Int) ([(((c_Faces.getD x_2.toNat ((0 : Int), ((0 : Int), ((0 : Int), ((0 : Int), (([] : List (List UInt8)), ([] : List (Int × Bool × Int × Int × Int)))))))).2.2.2.2.2).getD x_6.toNat ((0 : Int), (false, ((0 : Int), ((0 : Int), (0 : Int)))))).2.2.1])).bind fun y_10 => (bif (!y_10) then (F7_j190 n (loopF (F7_l159 n c_Value c_Name c_Attr c_Power c_Faces) n159) (loopF (F7_l189 n (loopF (F7_l159 n c_Value c_Name c_Attr c_Power c_Faces) n159) c_Faces rest x_2) n189) c_Faces rest x_2 x_6 m2 true) else (bif (decide ((((c_Faces.getD x_2.toNat ((0 : Int), ((0 : Int), ((0 : Int), ((0 : Int), (([] : List (List UInt8)), ([] : List (Int × Bool × Int × Int × Int)))))))).2.2.2.2.2).getD x_6.toNat ((0 : Int), (false, ((0 : Int), ((0 : Int), (0 : Int)))))).2.2.2.1 < (1 : Int))) then (F7_j190 n (loopF (F7_l159 n c_Value c_Name c_Attr c_Power c_Faces) n159) (loopF (F7_l189 n (loopF (F7_l159 n c_Value c_Name c_Attr c_Power c_Faces) n159) c_Faces rest x_2) n189) c_Faces rest x_2 x_6 m2 true) else (bif (decide ((((c_Faces.getD x_2.toNat ((0 : Int), ((0 : Int), ((0 : Int), ((0 : Int), (([] : List (List UInt8)), ([] : List (Int × Bool × Int × Int × Int)))))))).2.2.2.2.2).getD x_6.toNat ((0 : Int), (false, ((0 : Int), ((0 : Int), (0 : Int)))))).2.2.2.1 > (64 : Int))) then (F7_j190 n (loopF (F7_l159 n c_Value c_Name c_Attr c_Power c_Faces) n159) (loopF (F7_l189 n (loopF (F7_l159 n c_Value c_Name c_Attr c_Power c_Faces) n159) c_Faces rest x_2) n189) c_Faces rest x_2 x_6 m2 true) else ((F16 n ([(((c_Faces.getD x_2.toNat ((0 : Int), ((0 : Int), ((0 : Int), ((0 : Int), (([] : List (List UInt8)), ([] : List (Int × Bool × Int × Int × Int)))))))).2.2.2.2.2).getD x_6.toNat ((0 : Int), (false, ((0 : Int), ((0 : Int), (0 : Int)))))).2.2.2.2])).bind fun y_11 => (F7_j190 n (loopF (F7_l159 n c_Value c_Name c_Attr c_Power c_Faces) n159) (loopF (F7_l189 n (loopF (F7_l159 n c_Value c_Name c_Attr c_Power c_Faces) n159) c_Faces rest x_2) n189) c_Faces rest x_2 x_6 m2 (!y_11))))))))) else none) else (F7_j173 n (loopF (F7_l159 n c_Value c_Name c_Attr c_Power c_Faces) n159) c_Faces rest x_2 ((0 : Int), m2))) = some r := h
                          refine TS.seq ?_
                          have hq : (True) ∧ (True) := ⟨trivial, trivial⟩
                          refine TS.reg [] ?_ ?_
                          · apply prop_of ?_ hq
                            kernel_rfl
                          refine XS.then ?_
                          refine TS.seq ?_
                          rcases bif_some h with ⟨c38, h⟩ | ⟨c39, h⟩
                          · refine TS.cond (decide (x_6 < ((((c_Faces.getD x_2.toNat ((0 : Int), ((0 : Int), ((0 : Int), ((0 : Int), (([] : List (List UInt8)), ([] : List (Int × Bool × Int × Int × Int)))))))).2.2.2.2.2).length : Nat) : Int))) ?_ (fun hcz => ?_) (fun hcz => by rw [c38] at hcz; cases hcz)
                            · kernel_rfl
                            refine TS.skip ?_
                            refine XS.then ?_
                            refine TS.seq ?_
                            refine TS.block ?_
                            refine TS.seq ?_
                            obtain ⟨t40, h⟩ := test_some h
                            have hq : (inR x_6 (((c_Faces.getD x_2.toNat ((0 : Int), ((0 : Int), ((0 : Int), ((0 : Int), (([] : List (List UInt8)), ([] : List (Int × Bool × Int × Int × Int)))))))).2.2.2.2.2).length)) ∧ ((True) ∧ ((True) ∧ ((True) ∧ (True)))) := ⟨inb_ok t40, ⟨trivial, ⟨trivial, ⟨trivial, trivial⟩⟩⟩⟩
                            refine TS.reg [] ?_ ?_
                            · apply prop_of ?_ hq
                              kernel_rfl
                            refine XS.then ?_
                            refine TS.seq ?_
                            refine TS.seq ?_
                            refine TS.cut (D := Bool) (fun d => match d with | x_7 => (mkTs 92 [(1, (.mp 2)), (8, (.ptr 4 [])), (43, (.sl (.st (.pair (.int .i64) (.pair .bool (.pair (.int .i64) (.pair (.int .i64) (.int .i64)))))) (c_Faces.getD x_2.toNat ((0 : Int), ((0 : Int), ((0 : Int), ((0 : Int), (([] : List (List UInt8)), ([] : List (Int × Bool × Int × Int × Int)))))))).2.2.2.2.2)), (44, (.int .i64 ((((c_Faces.getD x_2.toNat ((0 : Int), ((0 : Int), ((0 : Int), ((0 : Int), (([] : List (List UInt8)), ([] : List (Int × Bool × Int × Int × Int)))))))).2.2.2.2.2).length : Nat) : Int))), (45, (.int .i64 x_6)), (80, (.bool x_7))], [(.sav (mkTs 126 [(1, (.ptr 1 [])), (4, (.mp 2)), (5, (.str rest)), (6, (.int .i64 x_2)), (7, (.ptr 3 [])), (39, (.sl (.st (.pair (.int .i64) (.pair (.int .i64) (.pair (.int .i64) (.pair (.int .i64) (.pair (.sl .str) (.sl (.st (.pair (.int .i64) (.pair .bool (.pair (.int .i64) (.pair (.int .i64) (.int .i64))))))))))))) c_Faces)), (40, (.int .i64 ((c_Faces.length : Nat) : Int))), (41, (.int .i64 x_2))]) fv6), (.box 24 (.st (.cons (.int .i64 c_Value) (.cons (.int .i64 c_Name) (.cons (.int .i64 c_Attr) (.cons (.int .i64 c_Power) (.sl (.st (.pair (.int .i64) (.pair (.int .i64) (.pair (.int .i64) (.pair (.int .i64) (.pair (.sl .str) (.sl (.st (.pair (.int .i64) (.pair .bool (.pair (.int .i64) (.pair (.int .i64) (.int .i64))))))))))))) c_Faces))))))), (.map 46 (.st (.pair (.int .i64) .bool)) .bool m2), (.box 49 (.st (.cons (.int .i64 (c_Faces.getD x_2.toNat ((0 : Int), ((0 : Int), ((0 : Int), ((0 : Int), (([] : List (List UInt8)), ([] : List (Int × Bool × Int × Int × Int)))))))).1) (.cons (.int .i64 (c_Faces.getD x_2.toNat ((0 : Int), ((0 : Int), ((0 : Int), ((0 : Int), (([] : List (List UInt8)), ([] : List (Int × Bool × Int × Int × Int)))))))).2.1) (.cons (.int .i64 (c_Faces.getD x_2.toNat ((0 : Int), ((0 : Int), ((0 : Int), ((0 : Int), (([] : List (List UInt8)), ([] : List (Int × Bool × Int × Int × Int)))))))).2.2.1) (.cons (.int .i64 (c_Faces.getD x_2.toNat ((0 : Int), ((0 : Int), ((0 : Int), ((0 : Int), (([] : List (List UInt8)), ([] : List (Int × Bool × Int × Int × Int)))))))).2.2.2.1) (.cons (.sl .str (c_Faces.getD x_2.toNat ((0 : Int), ((0 : Int), ((0 : Int), ((0 : Int), (([] : List (List UInt8)), ([] : List (Int × Bool × Int × Int × Int)))))))).2.2.2.2.1) (.sl (.st (.pair (.int .i64) (.pair .bool (.pair (.int .i64) (.pair (.int .i64) (.int .i64)))))) (c_Faces.getD x_2.toNat ((0 : Int), ((0 : Int), ((0 : Int), ((0 : Int), (([] : List (List UInt8)), ([] : List (Int × Bool × Int × Int × Int)))))))).2.2.2.2.2)))))))), (.box 54 (.st (.cons (.int .i64 (((c_Faces.getD x_2.toNat ((0 : Int), ((0 : Int), ((0 : Int), ((0 : Int), (([] : List (List UInt8)), ([] : List (Int × Bool × Int × Int × Int)))))))).2.2.2.2.2).getD x_6.toNat ((0 : Int), (false, ((0 : Int), ((0 : Int), (0 : Int)))))).1) (.cons (.bool (((c_Faces.getD x_2.toNat ((0 : Int), ((0 : Int), ((0 : Int), ((0 : Int), (([] : List (List UInt8)), ([] : List (Int × Bool × Int × Int × Int)))))))).2.2.2.2.2).getD x_6.toNat ((0 : Int), (false, ((0 : Int), ((0 : Int), (0 : Int)))))).2.1) (.cons (.int .i64 (((c_Faces.getD x_2.toNat ((0 : Int), ((0 : Int), ((0 : Int), ((0 : Int), (([] : List (List UInt8)), ([] : List (Int × Bool × Int × Int × Int)))))))).2.2.2.2.2).getD x_6.toNat ((0 : Int), (false, ((0 : Int), ((0 : Int), (0 : Int)))))).2.2.1) (.cons (.int .i64 (((c_Faces.getD x_2.toNat ((0 : Int), ((0 : Int), ((0 : Int), ((0 : Int), (([] : List (List UInt8)), ([] : List (Int × Bool × Int × Int × Int)))))))).2.2.2.2.2).getD x_6.toNat ((0 : Int), (false, ((0 : Int), ((0 : Int), (0 : Int)))))).2.2.2.1) (.int .i64 (((c_Faces.getD x_2.toNat ((0 : Int), ((0 : Int), ((0 : Int), ((0 : Int), (([] : List (List UInt8)), ([] : List (Int × Bool × Int × Int × Int)))))))).2.2.2.2.2).getD x_6.toNat ((0 : Int), (false, ((0 : Int), ((0 : Int), (0 : Int)))))).2.2.2.2)))))))])) (fun d => F7_j190 n (loopF (F7_l159 n c_Value c_Name c_Attr c_Power c_Faces) n159) (loopF (F7_l189 n (loopF (F7_l159 n c_Value c_Name c_Attr c_Power c_Faces) n159) c_Faces rest x_2) n189) c_Faces rest x_2 x_6 m2 d = some r) ?_ ?_
                            · rintro x_7 h
                              replace h : (bif x_7 then (F7_j173 n (loopF (F7_l159 n c_Value c_Name c_Attr c_Power c_Faces) n159) c_Faces rest x_2 ((1 : Int), m2)) else (bif ((mapGet (.st (.pair (.int .i64) .bool)) .bool ((((c_Faces.getD x_2.toNat ((0 : Int), ((0 : Int), ((0 : Int), ((0 : Int), (([] : List (List UInt8)), ([] : List (Int × Bool × Int × Int × Int)))))))).2.2.2.2.2).getD x_6.toNat ((0 : Int), (false, ((0 : Int), ((0 : Int), (0 : Int)))))).1, (((c_Faces.getD x_2.toNat ((0 : Int), ((0 : Int), ((0 : Int), ((0 : Int), (([] : List (List UInt8)), ([] : List (Int × Bool × Int × Int × Int)))))))).2.2.2.2.2).getD x_6.toNat ((0 : Int), (false, ((0 : Int), ((0 : Int), (0 : Int)))))).2.1) m2).getD false) then (F7_j173 n (loopF (F7_l159 n c_Value c_Name c_Attr c_Power c_Faces) n159) c_Faces rest x_2 ((13 : Int), m2)) else ((loopF (F7_l189 n (loopF (F7_l159 n c_Value c_Name c_Attr c_Power c_Faces) n159) c_Faces rest x_2) n189) ((IntKind.wrap .i64 (x_6 + (1 : Int))), (mapPut (.st (.pair (.int .i64) .bool)) .bool ((((c_Faces.getD x_2.toNat ((0 : Int), ((0 : Int), ((0 : Int), ((0 : Int), (([] : List (List UInt8)), ([] : List (Int × Bool × Int × Int × Int)))))))).2.2.2.2.2).getD x_6.toNat ((0 : Int), (false, ((0 : Int), ((0 : Int), (0 : Int)))))).1, (((c_Faces.getD x_2.toNat ((0 : Int), ((0 : Int), ((0 : Int), ((0 : Int), (([] : List (List UInt8)), ([] : List (Int × Bool × Int × Int × Int)))))))).2.2.2.2.2).getD x_6.toNat ((0 : Int), (false, ((0 : Int), ((0 : Int), (0 : Int)))))).2.1) true m2))))) = some r := h
                              refine XS.then ?_
                              rcases bif_some h with ⟨c41, h⟩ | ⟨c42, h⟩
                              · refine TS.cond x_7 ?_ (fun hcz => ?_) (fun hcz => by rw [c41] at hcz; cases hcz)
                                · kernel_rfl
                                refine TS.seq ?_
                                have hq : (True) ∧ (True) := ⟨trivial, trivial⟩
                                refine TS.reg [] ?_ ?_
                                · apply prop_of ?_ hq
                                  kernel_rfl
                                refine XS.then ?_
                                refine TS.ret ?_
                                refine XS.passR ?_
                                refine XS.blockRet ?_
                                refine XS.passR ?_
                                refine XS.passR ?_
                                refine XS.blockRet ?_
                                refine XS.passR ?_
                                refine XS.backR 0 (mkTs 126 [(1, (.ptr 1 [])), (4, (.mp 2)), (5, (.str rest)), (6, (.int .i64 x_2)), (7, (.ptr 3 [])), (39, (.sl (.st (.pair (.int .i64) (.pair (.int .i64) (.pair (.int .i64) (.pair (.int .i64) (.pair (.sl .str) (.sl (.st (.pair (.int .i64) (.pair .bool (.pair (.int .i64) (.pair (.int .i64) (.int .i64))))))))))))) c_Faces)), (40, (.int .i64 ((c_Faces.length : Nat) : Int))), (41, (.int .i64 x_2))]) (mkTs 126 [(1, (.ptr 1 [])), (4, (.mp 2)), (5, (.str rest)), (6, (.int .i64 x_2)), (7, (.ptr 3 [])), (39, (.sl (.st (.pair (.int .i64) (.pair (.int .i64) (.pair (.int .i64) (.pair (.int .i64) (.pair (.sl .str) (.sl (.st (.pair (.int .i64) (.pair .bool (.pair (.int .i64) (.pair (.int .i64) (.int .i64))))))))))))) c_Faces)), (40, (.int .i64 ((c_Faces.length : Nat) : Int))), (41, (.int .i64 x_2)), (48, (.int .i64 (1 : Int)))], [.dead, (.box 24 (.st (.cons (.int .i64 c_Value) (.cons (.int .i64 c_Name) (.cons (.int .i64 c_Attr) (.cons (.int .i64 c_Power) (.sl (.st (.pair (.int .i64) (.pair (.int .i64) (.pair (.int .i64) (.pair (.int .i64) (.pair (.sl .str) (.sl (.st (.pair (.int .i64) (.pair .bool (.pair (.int .i64) (.pair (.int .i64) (.int .i64))))))))))))) c_Faces))))))), (.map 46 (.st (.pair (.int .i64) .bool)) .bool m2), (.box 49 (.st (.cons (.int .i64 (c_Faces.getD x_2.toNat ((0 : Int), ((0 : Int), ((0 : Int), ((0 : Int), (([] : List (List UInt8)), ([] : List (Int × Bool × Int × Int × Int)))))))).1) (.cons (.int .i64 (c_Faces.getD x_2.toNat ((0 : Int), ((0 : Int), ((0 : Int), ((0 : Int), (([] : List (List UInt8)), ([] : List (Int × Bool × Int × Int × Int)))))))).2.1) (.cons (.int .i64 (c_Faces.getD x_2.toNat ((0 : Int), ((0 : Int), ((0 : Int), ((0 : Int), (([] : List (List UInt8)), ([] : List (Int × Bool × Int × Int × Int)))))))).2.2.1) (.cons (.int .i64 (c_Faces.getD x_2.toNat ((0 : Int), ((0 : Int), ((0 : Int), ((0 : Int), (([] : List (List UInt8)), ([] : List (Int × Bool × Int × Int × Int)))))))).2.2.2.1) (.cons (.sl .str (c_Faces.getD x_2.toNat ((0 : Int), ((0 : Int), ((0 : Int), ((0 : Int), (([] : List (List UInt8)), ([] : List (Int × Bool × Int × Int × Int)))))))).2.2.2.2.1) (.sl (.st (.pair (.int .i64) (.pair .bool (.pair (.int .i64) (.pair (.int .i64) (.int .i64)))))) (c_Faces.getD x_2.toNat ((0 : Int), ((0 : Int), ((0 : Int), ((0 : Int), (([] : List (List UInt8)), ([] : List (Int × Bool × Int × Int × Int)))))))).2.2.2.2.2)))))))), (.box 54 (.st (.cons (.int .i64 (((c_Faces.getD x_2.toNat ((0 : Int), ((0 : Int), ((0 : Int), ((0 : Int), (([] : List (List UInt8)), ([] : List (Int × Bool × Int × Int × Int)))))))).2.2.2.2.2).getD x_6.toNat ((0 : Int), (false, ((0 : Int), ((0 : Int), (0 : Int)))))).1) (.cons (.bool (((c_Faces.getD x_2.toNat ((0 : Int), ((0 : Int), ((0 : Int), ((0 : Int), (([] : List (List UInt8)), ([] : List (Int × Bool × Int × Int × Int)))))))).2.2.2.2.2).getD x_6.toNat ((0 : Int), (false, ((0 : Int), ((0 : Int), (0 : Int)))))).2.1) (.cons (.int .i64 (((c_Faces.getD x_2.toNat ((0 : Int), ((0 : Int), ((0 : Int), ((0 : Int), (([] : List (List UInt8)), ([] : List (Int × Bool × Int × Int × Int)))))))).2.2.2.2.2).getD x_6.toNat ((0 : Int), (false, ((0 : Int), ((0 : Int), (0 : Int)))))).2.2.1) (.cons (.int .i64 (((c_Faces.getD x_2.toNat ((0 : Int), ((0 : Int), ((0 : Int), ((0 : Int), (([] : List (List UInt8)), ([] : List (Int × Bool × Int × Int × Int)))))))).2.2.2.2.2).getD x_6.toNat ((0 : Int), (false, ((0 : Int), ((0 : Int), (0 : Int)))))).2.2.2.1) (.int .i64 (((c_Faces.getD x_2.toNat ((0 : Int), ((0 : Int), ((0 : Int), ((0 : Int), (([] : List (List UInt8)), ([] : List (Int × Bool × Int × Int × Int)))))))).2.2.2.2.2).getD x_6.toNat ((0 : Int), (false, ((0 : Int), ((0 : Int), (0 : Int)))))).2.2.2.2)))))))]) ((True) ∧ (True)) (by kernel_rfl) (by kernel_rfl) ⟨trivial, trivial⟩ ?_
                                refine KS.ofX ?_
                                refine XS.reAny [1, 2, 3] (mkMask 126 [1, 4, 5, 6, 7, 39, 40, 41, 48]) ((1 : Int), m2) h ?_
                                kernel_rfl
                              · refine TS.cond x_7 ?_ (fun hcz => by rw [c42] at hcz; cases hcz) (fun hcz => ?_)
                                · kernel_rfl
                                refine TS.skip ?_
                                refine XS.then ?_
                                refine TS.seq ?_
                                have hq : (True) ∧ ((True) ∧ ((True) ∧ ((True) ∧ (((True) ∧ ((True) ∧ (True))) ∧ ((True) ∧ ((True) ∧ (True))))))) := ⟨trivial, ⟨trivial, ⟨trivial, ⟨trivial, ⟨⟨trivial, ⟨trivial, trivial⟩⟩, ⟨trivial, ⟨trivial, trivial⟩⟩⟩⟩⟩⟩⟩
                                refine TS.reg [] ?_ ?_
                                · apply prop_of ?_ hq
                                  kernel_rfl
                                refine XS.then ?_
                                refine TS.seq ?_
                                refine TS.seq ?_
                                have hq : (True) ∧ ((True) ∧ ((True) ∧ (True))) := ⟨trivial, ⟨trivial, ⟨trivial, trivial⟩⟩⟩
                                refine TS.reg [] ?_ ?_
                                · apply prop_of ?_ hq
                                  kernel_rfl
                                refine XS.then ?_
                                rcases bif_some h with ⟨c43, h⟩ | ⟨c44, h⟩
                                · refine TS.cond ((mapGet (.st (.pair (.int .i64) .bool)) .bool ((((c_Faces.getD x_2.toNat ((0 : Int), ((0 : Int), ((0 : Int), ((0 : Int), (([] : List (List UInt8)), ([] : List (Int × Bool × Int × Int × Int)))))))).2.2.2.2.2).getD x_6.toNat ((0 : Int), (false, ((0 : Int), ((0 : Int), (0 : Int)))))).1, (((c_Faces.getD x_2.toNat ((0 : Int), ((0 : Int), ((0 : Int), ((0 : Int), (([] : List (List UInt8)), ([] : List (Int × Bool × Int × Int × Int)))))))).2.2.2.2.2).getD x_6.toNat ((0 : Int), (false, ((0 : Int), ((0 : Int), (0 : Int)))))).2.1) m2).getD false) ?_ (fun hcz => ?_) (fun hcz => by rw [c43] at hcz; cases hcz)
                                  · kernel_rfl
                                  refine TS.seq ?_
                                  have hq : (True) ∧ (True) := ⟨trivial, trivial⟩
                                  refine TS.reg [] ?_ ?_
                                  · apply prop_of ?_ hq
                                    kernel_rfl
                                  refine XS.then ?_
                                  refine TS.ret ?_
                                  refine XS.passR ?_
                                  refine XS.blockRet ?_
                                  refine XS.passR ?_
                                  refine XS.passR ?_
                                  refine XS.blockRet ?_
                                  refine XS.passR ?_
                                  refine XS.backR 0 (mkTs 126 [(1, (.ptr 1 [])), (4, (.mp 2)), (5, (.str rest)), (6, (.int .i64 x_2)), (7, (.ptr 3 [])), (39, (.sl (.st (.pair (.int .i64) (.pair (.int .i64) (.pair (.int .i64) (.pair (.int .i64) (.pair (.sl .str) (.sl (.st (.pair (.int .i64) (.pair .bool (.pair (.int .i64) (.pair (.int .i64) (.int .i64))))))))))))) c_Faces)), (40, (.int .i64 ((c_Faces.length : Nat) : Int))), (41, (.int .i64 x_2))]) (mkTs 126 [(1, (.ptr 1 [])), (4, (.mp 2)), (5, (.str rest)), (6, (.int .i64 x_2)), (7, (.ptr 3 [])), (39, (.sl (.st (.pair (.int .i64) (.pair (.int .i64) (.pair (.int .i64) (.pair (.int .i64) (.pair (.sl .str) (.sl (.st (.pair (.int .i64) (.pair .bool (.pair (.int .i64) (.pair (.int .i64) (.int .i64))))))))))))) c_Faces)), (40, (.int .i64 ((c_Faces.length : Nat) : Int))), (41, (.int .i64 x_2)), (48, (.int .i64 (13 : Int)))], [.dead, (.box 24 (.st (.cons (.int .i64 c_Value) (.cons (.int .i64 c_Name) (.cons (.int .i64 c_Attr) (.cons (.int .i64 c_Power) (.sl (.st (.pair (.int .i64) (.pair (.int .i64) (.pair (.int .i64) (.pair (.int .i64) (.pair (.sl .str) (.sl (.st (.pair (.int .i64) (.pair .bool (.pair (.int .i64) (.pair (.int .i64) (.int .i64))))))))))))) c_Faces))))))), (.map 46 (.st (.pair (.int .i64) .bool)) .bool m2), (.box 49 (.st (.cons (.int .i64 (c_Faces.getD x_2.toNat ((0 : Int), ((0 : Int), ((0 : Int), ((0 : Int), (([] : List (List UInt8)), ([] : List (Int × Bool × Int × Int × Int)))))))).1) (.cons (.int .i64 (c_Faces.getD x_2.toNat ((0 : Int), ((0 : Int), ((0 : Int), ((0 : Int), (([] : List (List UInt8)), ([] : List (Int × Bool × Int × Int × Int)))))))).2.1) (.cons (.int .i64 (c_Faces.getD x_2.toNat ((0 : Int), ((0 : Int), ((0 : Int), ((0 : Int), (([] : List (List UInt8)), ([] : List (Int × Bool × Int × Int × Int)))))))).2.2.1) (.cons (.int .i64 (c_Faces.getD x_2.toNat ((0 : Int), ((0 : Int), ((0 : Int), ((0 : Int), (([] : List (List UInt8)), ([] : List (Int × Bool × Int × Int × Int)))))))).2.2.2.1) (.cons (.sl .str (c_Faces.getD x_2.toNat ((0 : Int), ((0 : Int), ((0 : Int), ((0 : Int), (([] : List (List UInt8)), ([] : List (Int × Bool × Int × Int × Int)))))))).2.2.2.2.1) (.sl (.st (.pair (.int .i64) (.pair .bool (.pair (.int .i64) (.pair (.int .i64) (.int .i64)))))) (c_Faces.getD x_2.toNat ((0 : Int), ((0 : Int), ((0 : Int), ((0 : Int), (([] : List (List UInt8)), ([] : List (Int × Bool × Int × Int × Int)))))))).2.2.2.2.2)))))))), (.box 54 (.st (.cons (.int .i64 (((c_Faces.getD x_2.toNat ((0 : Int), ((0 : Int), ((0 : Int), ((0 : Int), (([] : List (List UInt8)), ([] : List (Int × Bool × Int × Int × Int)))))))).2.2.2.2.2).getD x_6.toNat ((0 : Int), (false, ((0 : Int), ((0 : Int), (0 : Int)))))).1) (.cons (.bool (((c_Faces.getD x_2.toNat ((0 : Int), ((0 : Int), ((0 : Int), ((0 : Int), (([] : List (List UInt8)), ([] : List (Int × Bool × Int × Int × Int)))))))).2.2.2.2.2).getD x_6.toNat ((0 : Int), (false, ((0 : Int), ((0 : Int), (0 : Int)))))).2.1) (.cons (.int .i64 (((c_Faces.getD x_2.toNat ((0 : Int), ((0 : Int), ((0 : Int), ((0 : Int), (([] : List (List UInt8)), ([] : List (Int × Bool × Int × Int × Int)))))))).2.2.2.2.2).getD x_6.toNat ((0 : Int), (false, ((0 : Int), ((0 : Int), (0 : Int)))))).2.2.1) (.cons (.int .i64 (((c_Faces.getD x_2.toNat ((0 : Int), ((0 : Int), ((0 : Int), ((0 : Int), (([] : List (List UInt8)), ([] : List (Int × Bool × Int × Int × Int)))))))).2.2.2.2.2).getD x_6.toNat ((0 : Int), (false, ((0 : Int), ((0 : Int), (0 : Int)))))).2.2.2.1) (.int .i64 (((c_Faces.getD x_2.toNat ((0 : Int), ((0 : Int), ((0 : Int), ((0 : Int), (([] : List (List UInt8)), ([] : List (Int × Bool × Int × Int × Int)))))))).2.2.2.2.2).getD x_6.toNat ((0 : Int), (false, ((0 : Int), ((0 : Int), (0 : Int)))))).2.2.2.2))))))), (.box 86 (.st (.cons (.int .i64 (((c_Faces.getD x_2.toNat ((0 : Int), ((0 : Int), ((0 : Int), ((0 : Int), (([] : List (List UInt8)), ([] : List (Int × Bool × Int × Int × Int)))))))).2.2.2.2.2).getD x_6.toNat ((0 : Int), (false, ((0 : Int), ((0 : Int), (0 : Int)))))).1) (.bool (((c_Faces.getD x_2.toNat ((0 : Int), ((0 : Int), ((0 : Int), ((0 : Int), (([] : List (List UInt8)), ([] : List (Int × Bool × Int × Int × Int)))))))).2.2.2.2.2).getD x_6.toNat ((0 : Int), (false, ((0 : Int), ((0 : Int), (0 : Int)))))).2.1))))]) ((True) ∧ (True)) (by kernel_rfl) (by kernel_rfl) ⟨trivial, trivial⟩ ?_
                                  refine KS.ofX ?_
                                  refine XS.reAny [1, 2, 3] (mkMask 126 [1, 4, 5, 6, 7, 39, 40, 41, 48]) ((13 : Int), m2) h ?_
                                  kernel_rfl
                                · refine TS.cond ((mapGet (.st (.pair (.int .i64) .bool)) .bool ((((c_Faces.getD x_2.toNat ((0 : Int), ((0 : Int), ((0 : Int), ((0 : Int), (([] : List (List UInt8)), ([] : List (Int × Bool × Int × Int × Int)))))))).2.2.2.2.2).getD x_6.toNat ((0 : Int), (false, ((0 : Int), ((0 : Int), (0 : Int)))))).1, (((c_Faces.getD x_2.toNat ((0 : Int), ((0 : Int), ((0 : Int), ((0 : Int), (([] : List (List UInt8)), ([] : List (Int × Bool × Int × Int × Int)))))))).2.2.2.2.2).getD x_6.toNat ((0 : Int), (false, ((0 : Int), ((0 : Int), (0 : Int)))))).2.1) m2).getD false) ?_ (fun hcz => by rw [c44] at hcz; cases hcz) (fun hcz => ?_)
                                  · kernel_rfl
                                  refine TS.skip ?_
                                  refine XS.then ?_
                                  have hq : (True) ∧ ((True) ∧ ((True) ∧ (True))) := ⟨trivial, ⟨trivial, ⟨trivial, trivial⟩⟩⟩
                                  refine TS.reg [] ?_ ?_
                                  · apply prop_of ?_ hq
                                    kernel_rfl
                                  refine XS.blockEnd ?_
                                  refine XS.then ?_
                                  have hq : (True) ∧ ((True) ∧ (True)) := ⟨trivial, ⟨trivial, trivial⟩⟩
                                  refine TS.reg [] ?_ ?_
                                  · apply prop_of ?_ hq
                                    kernel_rfl
                                  refine XS.reAny [0, 1, 2, 3] (mkMask 92 [1, 43, 44, 45]) ((IntKind.wrap .i64 (x_6 + (1 : Int))), (mapPut (.st (.pair (.int .i64) .bool)) .bool ((((c_Faces.getD x_2.toNat ((0 : Int), ((0 : Int), ((0 : Int), ((0 : Int), (([] : List (List UInt8)), ([] : List (Int × Bool × Int × Int × Int)))))))).2.2.2.2.2).getD x_6.toNat ((0 : Int), (false, ((0 : Int), ((0 : Int), (0 : Int)))))).1, (((c_Faces.getD x_2.toNat ((0 : Int), ((0 : Int), ((0 : Int), ((0 : Int), (([] : List (List UInt8)), ([] : List (Int × Bool × Int × Int × Int)))))))).2.2.2.2.2).getD x_6.toNat ((0 : Int), (false, ((0 : Int), ((0 : Int), (0 : Int)))))).2.1) true m2)) h ?_
                                  kernel_rfl
                            · rcases bif_some h with ⟨c45, h⟩ | ⟨c46, h⟩
                              · have hq : (True) ∧ ((True) ∧ ((True) ∧ (((True) ∧ (decide ((((c_Faces.getD x_2.toNat ((0 : Int), ((0 : Int), ((0 : Int), ((0 : Int), (([] : List (List UInt8)), ([] : List (Int × Bool × Int × Int × Int)))))))).2.2.2.2.2).getD x_6.toNat ((0 : Int), (false, ((0 : Int), ((0 : Int), (0 : Int)))))).1 < (1 : Int))) = true) ∧ ((True) ∧ ((True) ∧ ((True) ∧ ((True) ∧ ((True) ∧ ((True) ∧ ((True) ∧ ((True) ∧ ((True) ∧ (True))))))))))))) := ⟨trivial, ⟨trivial, ⟨trivial, ⟨⟨trivial, c45⟩, ⟨trivial, ⟨trivial, ⟨trivial, ⟨trivial, ⟨trivial, ⟨trivial, ⟨trivial, ⟨trivial, ⟨trivial, trivial⟩⟩⟩⟩⟩⟩⟩⟩⟩⟩⟩⟩⟩
                                refine TS.reg [.none, .none, .none, .dec true] ?_ ?_
                                · apply prop_of ?_ hq
                                  kernel_rfl
                                refine XS.reAny [0, 1, 2, 3, 4] (mkMask 92 [1, 8, 43, 44, 45, 80]) true h ?_
                                kernel_rfl
                              · rcases bif_some h with ⟨c47, h⟩ | ⟨c48, h⟩
                                · have hq : (True) ∧ ((True) ∧ ((True) ∧ (((True) ∧ (decide ((((c_Faces.getD x_2.toNat ((0 : Int), ((0 : Int), ((0 : Int), ((0 : Int), (([] : List (List UInt8)), ([] : List (Int × Bool × Int × Int × Int)))))))).2.2.2.2.2).getD x_6.toNat ((0 : Int), (false, ((0 : Int), ((0 : Int), (0 : Int)))))).1 < (1 : Int))) = false) ∧ ((True) ∧ ((True) ∧ ((True) ∧ ((True) ∧ (((True) ∧ (decide ((((c_Faces.getD x_2.toNat ((0 : Int), ((0 : Int), ((0 : Int), ((0 : Int), (([] : List (List UInt8)), ([] : List (Int × Bool × Int × Int × Int)))))))).2.2.2.2.2).getD x_6.toNat ((0 : Int), (false, ((0 : Int), ((0 : Int), (0 : Int)))))).1 > (15 : Int))) = true) ∧ ((True) ∧ ((True) ∧ ((True) ∧ ((True) ∧ ((True) ∧ ((True) ∧ ((True) ∧ (True)))))))))))))))) := ⟨trivial, ⟨trivial, ⟨trivial, ⟨⟨trivial, c46⟩, ⟨trivial, ⟨trivial, ⟨trivial, ⟨trivial, ⟨⟨trivial, c47⟩, ⟨trivial, ⟨trivial, ⟨trivial, ⟨trivial, ⟨trivial, ⟨trivial, ⟨trivial, trivial⟩⟩⟩⟩⟩⟩⟩⟩⟩⟩⟩⟩⟩⟩⟩⟩
                                  refine TS.reg [.none, .none, .none, .dec false, .none, .none, .none, .none, .dec true] ?_ ?_
                                  · apply prop_of ?_ hq
                                    kernel_rfl
                                  refine XS.reAny [0, 1, 2, 3, 4] (mkMask 92 [1, 8, 43, 44, 45, 80]) true h ?_
                                  kernel_rfl
                                · obtain ⟨y_10, hx49, h⟩ := bind_some' h
                                  rcases bif_some h with ⟨c50, h⟩ | ⟨c51, h⟩
                                  · have hq : (True) ∧ ((True) ∧ ((True) ∧ (((True) ∧ (decide ((((c_Faces.getD x_2.toNat ((0 : Int), ((0 : Int), ((0 : Int), ((0 : Int), (([] : List (List UInt8)), ([] : List (Int × Bool × Int × Int × Int)))))))).2.2.2.2.2).getD x_6.toNat ((0 : Int), (false, ((0 : Int), ((0 : Int), (0 : Int)))))).1 < (1 : Int))) = false) ∧ ((True) ∧ ((True) ∧ ((True) ∧ ((True) ∧ (((True) ∧ (decide ((((c_Faces.getD x_2.toNat ((0 : Int), ((0 : Int), ((0 : Int), ((0 : Int), (([] : List (List UInt8)), ([] : List (Int × Bool × Int × Int × Int)))))))).2.2.2.2.2).getD x_6.toNat ((0 : Int), (false, ((0 : Int), ((0 : Int), (0 : Int)))))).1 > (15 : Int))) = false) ∧ ((True) ∧ ((True) ∧ (((0 < 1 ∧ True) ∧ (True)) ∧ ((((True) ∧ ((True) ∧ (True))) ∧ PureC Try.prog 44 [(.int .i64 (3 : Int)), (.sl (.int .i64) [(((c_Faces.getD x_2.toNat ((0 : Int), ((0 : Int), ((0 : Int), ((0 : Int), (([] : List (List UInt8)), ([] : List (Int × Bool × Int × Int × Int)))))))).2.2.2.2.2).getD x_6.toNat ((0 : Int), (false, ((0 : Int), ((0 : Int), (0 : Int)))))).2.2.1])] (.bool y_10) []) ∧ ((True) ∧ ((True) ∧ (((True) ∧ (!y_10) = true) ∧ ((True) ∧ ((True) ∧ ((True) ∧ ((True) ∧ ((True) ∧ (True))))))))))))))))))))) := ⟨trivial, ⟨trivial, ⟨trivial, ⟨⟨trivial, c46⟩, ⟨trivial, ⟨trivial, ⟨trivial, ⟨trivial, ⟨⟨trivial, c48⟩, ⟨trivial, ⟨trivial, ⟨⟨⟨by decide, trivial⟩, trivial⟩, ⟨⟨⟨trivial, ⟨trivial, trivial⟩⟩, F44_ok n (3 : Int) ([(((c_Faces.getD x_2.toNat ((0 : Int), ((0 : Int), ((0 : Int), ((0 : Int), (([] : List (List UInt8)), ([] : List (Int × Bool × Int × Int × Int)))))))).2.2.2.2.2).getD x_6.toNat ((0 : Int), (false, ((0 : Int), ((0 : Int), (0 : Int)))))).2.2.1]) y_10 hx49⟩, ⟨trivial, ⟨trivial, ⟨⟨trivial, c50⟩, ⟨trivial, ⟨trivial, ⟨trivial, ⟨trivial, ⟨trivial, trivial⟩⟩⟩⟩⟩⟩⟩⟩⟩⟩⟩⟩⟩⟩⟩⟩⟩⟩⟩⟩⟩
                                    refine TS.reg [.none, .none, .none, .dec false, .none, .none, .none, .none, .dec false, .none, .none, .none, (.call (.bool y_10) []), .none, .none, .dec true] ?_ ?_
                                    · apply prop_of ?_ hq
                                      kernel_rfl
                                    refine XS.reAny [0, 1, 2, 3, 4] (mkMask 92 [1, 8, 43, 44, 45, 80]) true h ?_
                                    kernel_rfl
                                  · rcases bif_some h with ⟨c52, h⟩ | ⟨c53, h⟩
                                    · have hq : (True) ∧ ((True) ∧ ((True) ∧ (((True) ∧ (decide ((((c_Faces.getD x_2.toNat ((0 : Int), ((0 : Int), ((0 : Int), ((0 : Int), (([] : List (List UInt8)), ([] : List (Int × Bool × Int × Int × Int)))))))).2.2.2.2.2).getD x_6.toNat ((0 : Int), (false, ((0 : Int), ((0 : Int), (0 : Int)))))).1 < (1 : Int))) = false) ∧ ((True) ∧ ((True) ∧ ((True) ∧ ((True) ∧ (((True) ∧ (decide ((((c_Faces.getD x_2.toNat ((0 : Int), ((0 : Int), ((0 : Int), ((0 : Int), (([] : List (List UInt8)), ([] : List (Int × Bool × Int × Int × Int)))))))).2.2.2.2.2).getD x_6.toNat ((0 : Int), (false, ((0 : Int), ((0 : Int), (0 : Int)))))).1 > (15 : Int))) = false) ∧ ((True) ∧ ((True) ∧ (((0 < 1 ∧ True) ∧ (True)) ∧ ((((True) ∧ ((True) ∧ (True))) ∧ PureC Try.prog 44 [(.int .i64 (3 : Int)), (.sl (.int .i64) [(((c_Faces.getD x_2.toNat ((0 : Int), ((0 : Int), ((0 : Int), ((0 : Int), (([] : List (List UInt8)), ([] : List (Int × Bool × Int × Int × Int)))))))).2.2.2.2.2).getD x_6.toNat ((0 : Int), (false, ((0 : Int), ((0 : Int), (0 : Int)))))).2.2.1])] (.bool y_10) []) ∧ ((True) ∧ ((True) ∧ (((True) ∧ (!y_10) = false) ∧ ((True) ∧ ((True) ∧ ((True) ∧ ((True) ∧ (((True) ∧ (decide ((((c_Faces.getD x_2.toNat ((0 : Int), ((0 : Int), ((0 : Int), ((0 : Int), (([] : List (List UInt8)), ([] : List (Int × Bool × Int × Int × Int)))))))).2.2.2.2.2).getD x_6.toNat ((0 : Int), (false, ((0 : Int), ((0 : Int), (0 : Int)))))).2.2.2.1 < (1 : Int))) = true) ∧ ((True) ∧ ((True) ∧ ((True) ∧ (True)))))))))))))))))))))))) := ⟨trivial, ⟨trivial, ⟨trivial, ⟨⟨trivial, c46⟩, ⟨trivial, ⟨trivial, ⟨trivial, ⟨trivial, ⟨⟨trivial, c48⟩, ⟨trivial, ⟨trivial, ⟨⟨⟨by decide, trivial⟩, trivial⟩, ⟨⟨⟨trivial, ⟨trivial, trivial⟩⟩, F44_ok n (3 : Int) ([(((c_Faces.getD x_2.toNat ((0 : Int), ((0 : Int), ((0 : Int), ((0 : Int), (([] : List (List UInt8)), ([] : List (Int × Bool × Int × Int × Int)))))))).2.2.2.2.2).getD x_6.toNat ((0 : Int), (false, ((0 : Int), ((0 : Int), (0 : Int)))))).2.2.1]) y_10 hx49⟩, ⟨trivial, ⟨trivial, ⟨⟨trivial, c51⟩, ⟨trivial, ⟨trivial, ⟨trivial, ⟨trivial, ⟨⟨trivial, c52⟩, ⟨trivial, ⟨trivial, ⟨trivial, trivial⟩⟩⟩⟩⟩⟩⟩⟩⟩⟩⟩⟩⟩⟩⟩⟩⟩⟩⟩⟩⟩⟩⟩⟩
                                      refine TS.reg [.none, .none, .none, .dec false, .none, .none, .none, .none, .dec false, .none, .none, .none, (.call (.bool y_10) []), .none, .none, .dec false, .none, .none, .none, .none, .dec true] ?_ ?_
                                      · apply prop_of ?_ hq
                                        kernel_rfl
                                      refine XS.reAny [0, 1, 2, 3, 4] (mkMask 92 [1, 8, 43, 44, 45, 80]) true h ?_
                                      kernel_rfl
                                    · rcases bif_some h with ⟨c54, h⟩ | ⟨c55, h⟩
                                      · have hq : (True) ∧ ((True) ∧ ((True) ∧ (((True) ∧ (decide ((((c_Faces.getD x_2.toNat ((0 : Int), ((0 : Int), ((0 : Int), ((0 : Int), (([] : List (List UInt8)), ([] : List (Int × Bool × Int × Int × Int)))))))).2.2.2.2.2).getD x_6.toNat ((0 : Int), (false, ((0 : Int), ((0 : Int), (0 : Int)))))).1 < (1 : Int))) = false) ∧ ((True) ∧ ((True) ∧ ((True) ∧ ((True) ∧ (((True) ∧ (decide ((((c_Faces.getD x_2.toNat ((0 : Int), ((0 : Int), ((0 : Int), ((0 : Int), (([] : List (List UInt8)), ([] : List (Int × Bool × Int × Int × Int)))))))).2.2.2.2.2).getD x_6.toNat ((0 : Int), (false, ((0 : Int), ((0 : Int), (0 : Int)))))).1 > (15 : Int))) = false) ∧ ((True) ∧ ((True) ∧ (((0 < 1 ∧ True) ∧ (True)) ∧ ((((True) ∧ ((True) ∧ (True))) ∧ PureC Try.prog 44 [(.int .i64 (3 : Int)), (.sl (.int .i64) [(((c_Faces.getD x_2.toNat ((0 : Int), ((0 : Int), ((0 : Int), ((0 : Int), (([] : List (List UInt8)), ([] : List (Int × Bool × Int × Int × Int)))))))).2.2.2.2.2).getD x_6.toNat ((0 : Int), (false, ((0 : Int), ((0 : Int), (0 : Int)))))).2.2.1])] (.bool y_10) []) ∧ ((True) ∧ ((True) ∧ (((True) ∧ (!y_10) = false) ∧ ((True) ∧ ((True) ∧ ((True) ∧ ((True) ∧ (((True) ∧ (decide ((((c_Faces.getD x_2.toNat ((0 : Int), ((0 : Int), ((0 : Int), ((0 : Int), (([] : List (List UInt8)), ([] : List (Int × Bool × Int × Int × Int)))))))).2.2.2.2.2).getD x_6.toNat ((0 : Int), (false, ((0 : Int), ((0 : Int), (0 : Int)))))).2.2.2.1 < (1 : Int))) = false) ∧ ((True) ∧ ((True) ∧ ((True) ∧ ((True) ∧ (((True) ∧ (decide ((((c_Faces.getD x_2.toNat ((0 : Int), ((0 : Int), ((0 : Int), ((0 : Int), (([] : List (List UInt8)), ([] : List (Int × Bool × Int × Int × Int)))))))).2.2.2.2.2).getD x_6.toNat ((0 : Int), (false, ((0 : Int), ((0 : Int), (0 : Int)))))).2.2.2.1 > (64 : Int))) = true) ∧ ((True) ∧ (True))))))))))))))))))))))))))) := ⟨trivial, ⟨trivial, ⟨trivial, ⟨⟨trivial, c46⟩, ⟨trivial, ⟨trivial, ⟨trivial, ⟨trivial, ⟨⟨trivial, c48⟩, ⟨trivial, ⟨trivial, ⟨⟨⟨by decide, trivial⟩, trivial⟩, ⟨⟨⟨trivial, ⟨trivial, trivial⟩⟩, F44_ok n (3 : Int) ([(((c_Faces.getD x_2.toNat ((0 : Int), ((0 : Int), ((0 : Int), ((0 : Int), (([] : List (List UInt8)), ([] : List (Int × Bool × Int × Int × Int)))))))).2.2.2.2.2).getD x_6.toNat ((0 : Int), (false, ((0 : Int), ((0 : Int), (0 : Int)))))).2.2.1]) y_10 hx49⟩, ⟨trivial, ⟨trivial, ⟨⟨trivial, c51⟩, ⟨trivial, ⟨trivial, ⟨trivial, ⟨trivial, ⟨⟨trivial, c53⟩, ⟨trivial, ⟨trivial, ⟨trivial, ⟨trivial, ⟨⟨trivial, c54⟩, ⟨trivial, trivial⟩⟩⟩⟩⟩⟩⟩⟩⟩⟩⟩⟩⟩⟩⟩⟩⟩⟩⟩⟩⟩⟩⟩⟩⟩⟩⟩
                                        refine TS.reg [.none, .none, .none, .dec false, .none, .none, .none, .none, .dec false, .none, .none, .none, (.call (.bool y_10) []), .none, .none, .dec false, .none, .none, .none, .none, .dec false, .none, .none, .none, .none, .dec true] ?_ ?_
                                        · apply prop_of ?_ hq
                                          kernel_rfl
                                        refine XS.reAny [0, 1, 2, 3, 4] (mkMask 92 [1, 8, 43, 44, 45, 80]) true h ?_
                                        kernel_rfl
                                      · obtain ⟨y_11, hx56, h⟩ := bind_some' h
                                        have hq : (True) ∧ ((True) ∧ ((True) ∧ (((True) ∧ (decide ((((c_Faces.getD x_2.toNat ((0 : Int), ((0 : Int), ((0 : Int), ((0 : Int), (([] : List (List UInt8)), ([] : List (Int × Bool × Int × Int × Int)))))))).2.2.2.2.2).getD x_6.toNat ((0 : Int), (false, ((0 : Int), ((0 : Int), (0 : Int)))))).1 < (1 : Int))) = false) ∧ ((True) ∧ ((True) ∧ ((True) ∧ ((True) ∧ (((True) ∧ (decide ((((c_Faces.getD x_2.toNat ((0 : Int), ((0 : Int), ((0 : Int), ((0 : Int), (([] : List (List UInt8)), ([] : List (Int × Bool × Int × Int × Int)))))))).2.2.2.2.2).getD x_6.toNat ((0 : Int), (false, ((0 : Int), ((0 : Int), (0 : Int)))))).1 > (15 : Int))) = false) ∧ ((True) ∧ ((True) ∧ (((0 < 1 ∧ True) ∧ (True)) ∧ ((((True) ∧ ((True) ∧ (True))) ∧ PureC Try.prog 44 [(.int .i64 (3 : Int)), (.sl (.int .i64) [(((c_Faces.getD x_2.toNat ((0 : Int), ((0 : Int), ((0 : Int), ((0 : Int), (([] : List (List UInt8)), ([] : List (Int × Bool × Int × Int × Int)))))))).2.2.2.2.2).getD x_6.toNat ((0 : Int), (false, ((0 : Int), ((0 : Int), (0 : Int)))))).2.2.1])] (.bool y_10) []) ∧ ((True) ∧ ((True) ∧ (((True) ∧ (!y_10) = false) ∧ ((True) ∧ ((True) ∧ ((True) ∧ ((True) ∧ (((True) ∧ (decide ((((c_Faces.getD x_2.toNat ((0 : Int), ((0 : Int), ((0 : Int), ((0 : Int), (([] : List (List UInt8)), ([] : List (Int × Bool × Int × Int × Int)))))))).2.2.2.2.2).getD x_6.toNat ((0 : Int), (false, ((0 : Int), ((0 : Int), (0 : Int)))))).2.2.2.1 < (1 : Int))) = false) ∧ ((True) ∧ ((True) ∧ ((True) ∧ ((True) ∧ (((True) ∧ (decide ((((c_Faces.getD x_2.toNat ((0 : Int), ((0 : Int), ((0 : Int), ((0 : Int), (([] : List (List UInt8)), ([] : List (Int × Bool × Int × Int × Int)))))))).2.2.2.2.2).getD x_6.toNat ((0 : Int), (false, ((0 : Int), ((0 : Int), (0 : Int)))))).2.2.2.1 > (64 : Int))) = false) ∧ ((True) ∧ ((True) ∧ (((0 < 1 ∧ True) ∧ (True)) ∧ ((((True) ∧ (True)) ∧ PureC Try.prog 16 [(.sl (.int .i64) [(((c_Faces.getD x_2.toNat ((0 : Int), ((0 : Int), ((0 : Int), ((0 : Int), (([] : List (List UInt8)), ([] : List (Int × Bool × Int × Int × Int)))))))).2.2.2.2.2).getD x_6.toNat ((0 : Int), (false, ((0 : Int), ((0 : Int), (0 : Int)))))).2.2.2.2])] (.bool y_11) []) ∧ ((True) ∧ ((True) ∧ (True)))))))))))))))))))))))))))))))) := ⟨trivial, ⟨trivial, ⟨trivial, ⟨⟨trivial, c46⟩, ⟨trivial, ⟨trivial, ⟨trivial, ⟨trivial, ⟨⟨trivial, c48⟩, ⟨trivial, ⟨trivial, ⟨⟨⟨by decide, trivial⟩, trivial⟩, ⟨⟨⟨trivial, ⟨trivial, trivial⟩⟩, F44_ok n (3 : Int) ([(((c_Faces.getD x_2.toNat ((0 : Int), ((0 : Int), ((0 : Int), ((0 : Int), (([] : List (List UInt8)), ([] : List (Int × Bool × Int × Int × Int)))))))).2.2.2.2.2).getD x_6.toNat ((0 : Int), (false, ((0 : Int), ((0 : Int), (0 : Int)))))).2.2.1]) y_10 hx49⟩, ⟨trivial, ⟨trivial, ⟨⟨trivial, c51⟩, ⟨trivial, ⟨trivial, ⟨trivial, ⟨trivial, ⟨⟨trivial, c53⟩, ⟨trivial, ⟨trivial, ⟨trivial, ⟨trivial, ⟨⟨trivial, c55⟩, ⟨trivial, ⟨trivial, ⟨⟨⟨by decide, trivial⟩, trivial⟩, ⟨⟨⟨trivial, trivial⟩, F16_ok n ([(((c_Faces.getD x_2.toNat ((0 : Int), ((0 : Int), ((0 : Int), ((0 : Int), (([] : List (List UInt8)), ([] : List (Int × Bool × Int × Int × Int)))))))).2.2.2.2.2).getD x_6.toNat ((0 : Int), (false, ((0 : Int), ((0 : Int), (0 : Int)))))).2.2.2.2]) y_11 hx56⟩, ⟨trivial, ⟨trivial, trivial⟩⟩⟩⟩⟩⟩⟩⟩⟩⟩⟩⟩⟩⟩⟩⟩⟩⟩⟩⟩⟩⟩⟩⟩⟩⟩⟩⟩⟩⟩⟩⟩
                                        refine TS.reg [.none, .none, .none, .dec false, .none, .none, .none, .none, .dec false, .none, .none, .none, (.call (.bool y_10) []), .none, .none, .dec false, .none, .none, .none, .none, .dec false, .none, .none, .none, .none, .dec false, .none, .none, .none, (.call (.bool y_11) [])] ?_ ?_
                                        · apply prop_of ?_ hq
                                          kernel_rfl
                                        refine XS.reAny [0, 1, 2, 3, 4] (mkMask 92 [1, 8, 43, 44, 45, 80]) (!y_11) h ?_
                                        kernel_rfl
                          · refine TS.cond (decide (x_6 < ((((c_Faces.getD x_2.toNat ((0 : Int), ((0 : Int), ((0 : Int), ((0 : Int), (([] : List (List UInt8)), ([] : List (Int × Bool × Int × Int × Int)))))))).2.2.2.2.2).length : Nat) : Int))) ?_ (fun hcz => by rw [c39] at hcz; cases hcz) (fun hcz => ?_)
                            · kernel_rfl
                            refine TS.exit ?_
                            refine XS.passE ?_
                            refine XS.passE ?_
                            refine XS.out ?_
                            refine XS.then ?_
                            refine TS.seq ?_
                            have hq : (True) ∧ (True) := ⟨trivial, trivial⟩
                            refine TS.reg [] ?_ ?_
                            · apply prop_of ?_ hq
                              kernel_rfl
                            refine XS.then ?_
                            refine TS.ret ?_
                            refine XS.backR 0 (mkTs 126 [(1, (.ptr 1 [])), (4, (.mp 2)), (5, (.str rest)), (6, (.int .i64 x_2)), (7, (.ptr 3 [])), (39, (.sl (.st (.pair (.int .i64) (.pair (.int .i64) (.pair (.int .i64) (.pair (.int .i64) (.pair (.sl .str) (.sl (.st (.pair (.int .i64) (.pair .bool (.pair (.int .i64) (.pair (.int .i64) (.int .i64))))))))))))) c_Faces)), (40, (.int .i64 ((c_Faces.length : Nat) : Int))), (41, (.int .i64 x_2))]) (mkTs 126 [(1, (.ptr 1 [])), (4, (.mp 2)), (5, (.str rest)), (6, (.int .i64 x_2)), (7, (.ptr 3 [])), (39, (.sl (.st (.pair (.int .i64) (.pair (.int .i64) (.pair (.int .i64) (.pair (.int .i64) (.pair (.sl .str) (.sl (.st (.pair (.int .i64) (.pair .bool (.pair (.int .i64) (.pair (.int .i64) (.int .i64))))))))))))) c_Faces)), (40, (.int .i64 ((c_Faces.length : Nat) : Int))), (41, (.int .i64 x_2)), (48, (.int .i64 (0 : Int)))], [.dead, (.box 24 (.st (.cons (.int .i64 c_Value) (.cons (.int .i64 c_Name) (.cons (.int .i64 c_Attr) (.cons (.int .i64 c_Power) (.sl (.st (.pair (.int .i64) (.pair (.int .i64) (.pair (.int .i64) (.pair (.int .i64) (.pair (.sl .str) (.sl (.st (.pair (.int .i64) (.pair .bool (.pair (.int .i64) (.pair (.int .i64) (.int .i64))))))))))))) c_Faces))))))), (.map 46 (.st (.pair (.int .i64) .bool)) .bool m2), (.box 49 (.st (.cons (.int .i64 (c_Faces.getD x_2.toNat ((0 : Int), ((0 : Int), ((0 : Int), ((0 : Int), (([] : List (List UInt8)), ([] : List (Int × Bool × Int × Int × Int)))))))).1) (.cons (.int .i64 (c_Faces.getD x_2.toNat ((0 : Int), ((0 : Int), ((0 : Int), ((0 : Int), (([] : List (List UInt8)), ([] : List (Int × Bool × Int × Int × Int)))))))).2.1) (.cons (.int .i64 (c_Faces.getD x_2.toNat ((0 : Int), ((0 : Int), ((0 : Int), ((0 : Int), (([] : List (List UInt8)), ([] : List (Int × Bool × Int × Int × Int)))))))).2.2.1) (.cons (.int .i64 (c_Faces.getD x_2.toNat ((0 : Int), ((0 : Int), ((0 : Int), ((0 : Int), (([] : List (List UInt8)), ([] : List (Int × Bool × Int × Int × Int)))))))).2.2.2.1) (.cons (.sl .str (c_Faces.getD x_2.toNat ((0 : Int), ((0 : Int), ((0 : Int), ((0 : Int), (([] : List (List UInt8)), ([] : List (Int × Bool × Int × Int × Int)))))))).2.2.2.2.1) (.sl (.st (.pair (.int .i64) (.pair .bool (.pair (.int .i64) (.pair (.int .i64) (.int .i64)))))) (c_Faces.getD x_2.toNat ((0 : Int), ((0 : Int), ((0 : Int), ((0 : Int), (([] : List (List UInt8)), ([] : List (Int × Bool × Int × Int × Int)))))))).2.2.2.2.2))))))))]) ((True) ∧ (True)) (by kernel_rfl) (by kernel_rfl) ⟨trivial, trivial⟩ ?_
                            refine KS.ofX ?_
                            refine XS.reAny [1, 2, 3] (mkMask 126 [1, 4, 5, 6, 7, 39, 40, 41, 48]) ((0 : Int), m2) h ?_
                            kernel_rfl
          · refine TS.cond (decide (x_2 < ((c_Faces.length : Nat) : Int))) ?_ (fun hcz => by rw [c6] at hcz; cases hcz) (fun hcz => ?_)
            · kernel_rfl
            refine TS.exit ?_
            refine XS.passE ?_
            refine XS.passE ?_
            refine XS.out ?_
            refine XS.then ?_
            refine TS.seq ?_
            obtain ⟨y_12, hx57, h⟩ := bind_some' h
            obtain ⟨y_13, hx58, h⟩ := bind_some' h
            obtain ⟨t59, h⟩ := test_some h
            obtain ⟨y_14, hx60, h⟩ := bind_some' h
            obtain ⟨t61, h⟩ := test_some h
            obtain ⟨t62, h⟩ := test_some h
            have hq : (((0 < 2 ∧ True) ∧ ((1 < 2 ∧ True) ∧ (True))) ∧ ((((True) ∧ (True)) ∧ PureC Try.prog 18 [(.sl (.int .i64) [(9 : Int), (2 : Int)])] (.str y_12) []) ∧ ((True) ∧ ((True) ∧ ((True) ∧ ((PureC Try.prog 20 [(.int .i64 (IntKind.wrap .i64 ((9 : Int) + ((rest.length : Nat) : Int))))] (.str y_13) []) ∧ ((y_12.length + y_13.length ≤ 9223372036854775807) ∧ ((True) ∧ ((True) ∧ ((True) ∧ ((True) ∧ ((True) ∧ ((True) ∧ ((True) ∧ ((True) ∧ ((True) ∧ ((True) ∧ ((True) ∧ (((0 < 5 ∧ True) ∧ ((1 < 5 ∧ True) ∧ ((2 < 5 ∧ True) ∧ ((3 < 5 ∧ True) ∧ ((4 < 5 ∧ True) ∧ (True)))))) ∧ ((((True) ∧ (True)) ∧ PureC Try.prog 18 [(.sl (.int .i64) [((c_Faces.length : Nat) : Int), c_Value, c_Name, c_Attr, c_Power])] (.str y_14) []) ∧ (((y_12 ++ y_13).length + y_14.length ≤ 9223372036854775807) ∧ ((True) ∧ ((((y_12 ++ y_13) ++ y_14).length + rest.length ≤ 9223372036854775807) ∧ (True)))))))))))))))))))))))) ∧ ((True) ∧ ((True) ∧ (True))) := ⟨⟨⟨⟨by decide, trivial⟩, ⟨⟨by decide, trivial⟩, trivial⟩⟩, ⟨⟨⟨trivial, trivial⟩, F18_ok n [(9 : Int), (2 : Int)] y_12 hx57⟩, ⟨trivial, ⟨trivial, ⟨trivial, ⟨F20_ok n (IntKind.wrap .i64 ((9 : Int) + ((rest.length : Nat) : Int))) y_13 hx58, ⟨of_decide_eq_true t59, ⟨trivial, ⟨trivial, ⟨trivial, ⟨trivial, ⟨trivial, ⟨trivial, ⟨trivial, ⟨trivial, ⟨trivial, ⟨trivial, ⟨trivial, ⟨⟨⟨by decide, trivial⟩, ⟨⟨by decide, trivial⟩, ⟨⟨by decide, trivial⟩, ⟨⟨by decide, trivial⟩, ⟨⟨by decide, trivial⟩, trivial⟩⟩⟩⟩⟩, ⟨⟨⟨trivial, trivial⟩, F18_ok n [((c_Faces.length : Nat) : Int), c_Value, c_Name, c_Attr, c_Power] y_14 hx60⟩, ⟨of_decide_eq_true t61, ⟨trivial, ⟨of_decide_eq_true t62, trivial⟩⟩⟩⟩⟩⟩⟩⟩⟩⟩⟩⟩⟩⟩⟩⟩⟩⟩⟩⟩⟩⟩⟩, ⟨trivial, ⟨trivial, trivial⟩⟩⟩
            refine TS.draw 23 [] [.none, (.call (.str y_12) []), .none, .none, .none, (.call (.str y_13) []), .none, .none, .none, .none, .none, .none, .none, .none, .none, .none, .none, .none, .none, (.call (.str y_14) [])] (by kernel_rfl) ?_ ?_
            · apply prop_of ?_ hq
              kernel_rfl
            refine XS.then ?_
            refine TS.ret ?_
            obtain rfl : ((((y_12 ++ y_13) ++ y_14) ++ rest), (0 : Int)) = r := Option.some.inj h
            exact XS.fin [] ((True) ∧ ((True) ∧ (True))) (by kernel_rfl) ⟨trivial, ⟨trivial, trivial⟩⟩
  · rcases bif_some h with ⟨c63, h⟩ | ⟨c64, h⟩
    · have hq : (True) ∧ ((True) ∧ ((True) ∧ (((True) ∧ (decide (c_Value < (1 : Int))) = true) ∧ ((True) ∧ ((True) ∧ ((True) ∧ ((True) ∧ (True)))))))) := ⟨trivial, ⟨trivial, ⟨trivial, ⟨⟨trivial, c63⟩, ⟨trivial, ⟨trivial, ⟨trivial, ⟨trivial, trivial⟩⟩⟩⟩⟩⟩⟩⟩
      refine TS.reg [.none, .none, .none, .dec true] ?_ ?_
      · apply prop_of ?_ hq
        kernel_rfl
      refine XS.reAny [0] (mkMask 126 [1, 12]) true h ?_
      kernel_rfl
    · rcases bif_some h with ⟨c65, h⟩ | ⟨c66, h⟩
      · have hq : (True) ∧ ((True) ∧ ((True) ∧ (((True) ∧ (decide (c_Value < (1 : Int))) = false) ∧ ((True) ∧ ((True) ∧ ((True) ∧ ((True) ∧ (((True) ∧ (decide (c_Value > (255 : Int))) = true) ∧ ((True) ∧ ((True) ∧ (True))))))))))) := ⟨trivial, ⟨trivial, ⟨trivial, ⟨⟨trivial, c64⟩, ⟨trivial, ⟨trivial, ⟨trivial, ⟨trivial, ⟨⟨trivial, c65⟩, ⟨trivial, ⟨trivial, trivial⟩⟩⟩⟩⟩⟩⟩⟩⟩⟩⟩
        refine TS.reg [.none, .none, .none, .dec false, .none, .none, .none, .none, .dec true] ?_ ?_
        · apply prop_of ?_ hq
          kernel_rfl
        refine XS.reAny [0] (mkMask 126 [1, 12]) true h ?_
        kernel_rfl
      · obtain ⟨y_15, hx67, h⟩ := bind_some' h
        have hq : (True) ∧ ((True) ∧ ((True) ∧ (((True) ∧ (decide (c_Value < (1 : Int))) = false) ∧ ((True) ∧ ((True) ∧ ((True) ∧ ((True) ∧ (((True) ∧ (decide (c_Value > (255 : Int))) = false) ∧ ((True) ∧ ((True) ∧ ((True) ∧ ((True) ∧ ((True) ∧ ((True) ∧ (((0 < 3 ∧ True) ∧ ((1 < 3 ∧ True) ∧ ((2 < 3 ∧ True) ∧ (True)))) ∧ ((((True) ∧ (True)) ∧ PureC Try.prog 16 [(.sl (.int .i64) [c_Name, c_Attr, c_Power])] (.bool y_15) []) ∧ ((True) ∧ ((True) ∧ ((True) ∧ (True)))))))))))))))))))) := ⟨trivial, ⟨trivial, ⟨trivial, ⟨⟨trivial, c64⟩, ⟨trivial, ⟨trivial, ⟨trivial, ⟨trivial, ⟨⟨trivial, c66⟩, ⟨trivial, ⟨trivial, ⟨trivial, ⟨trivial, ⟨trivial, ⟨trivial, ⟨⟨⟨by decide, trivial⟩, ⟨⟨by decide, trivial⟩, ⟨⟨by decide, trivial⟩, trivial⟩⟩⟩, ⟨⟨⟨trivial, trivial⟩, F16_ok n [c_Name, c_Attr, c_Power] y_15 hx67⟩, ⟨trivial, ⟨trivial, ⟨trivial, trivial⟩⟩⟩⟩⟩⟩⟩⟩⟩⟩⟩⟩⟩⟩⟩⟩⟩⟩⟩⟩
        refine TS.reg [.none, .none, .none, .dec false, .none, .none, .none, .none, .dec false, .none, .none, .none, .none, .none, .none, .none, (.call (.bool y_15) [])] ?_ ?_
        · apply prop_of ?_ hq
          kernel_rfl
        refine XS.reAny [0] (mkMask 126 [1, 12]) (!y_15) h ?_
        kernel_rfl

/-! plugtree/plugref.Between -/
def F49 (n : Nat) (vn : Int) (low : Int) (high : Int) : Option Bool := (bif (decide (low ≤ vn)) then (some (decide (vn ≤ high))) else (some false))
theorem F49_ok (n : Nat) (vn : Int) (low : Int) (high : Int) (r : Bool) (h : F49 n vn low high = some r) : PureC Try.prog 49 [(.int .i64 vn), (.int .i64 low), (.int .i64 high)] (.bool r) [] := by
  refine PureC.mkS Try.func49 rfl rfl ?_
  intro w0 fz0 hfz
  replace h : (bif (decide (low ≤ vn)) then (some (decide (vn ≤ high))) else (some false)) = some r := h
  refine TS.seq ?_
  have hq : (True) ∧ (True) := ⟨trivial, trivial⟩
  refine TS.reg [] ?_ ?_
  · apply prop_of ?_ hq
    kernel_rfl
  refine XS.then ?_
  refine TS.seq ?_
  rcases bif_some h with ⟨c1, h⟩ | ⟨c2, h⟩
  · have hq : (True) ∧ ((True) ∧ ((True) ∧ (((True) ∧ (decide (low ≤ vn)) = true) ∧ ((True) ∧ ((True) ∧ ((True) ∧ ((True) ∧ ((True) ∧ (True))))))))) := ⟨trivial, ⟨trivial, ⟨trivial, ⟨⟨trivial, c1⟩, ⟨trivial, ⟨trivial, ⟨trivial, ⟨trivial, ⟨trivial, trivial⟩⟩⟩⟩⟩⟩⟩⟩⟩
    refine TS.reg [.none, .none, .none, .dec true] ?_ ?_
    · apply prop_of ?_ hq
      kernel_rfl
    refine XS.then ?_
    refine TS.ret ?_
    obtain rfl : (decide (vn ≤ high)) = r := Option.some.inj h
    exact XS.fin [] ((True) ∧ (True)) (by kernel_rfl) ⟨trivial, trivial⟩
  · have hq : (True) ∧ ((True) ∧ ((True) ∧ (((True) ∧ (decide (low ≤ vn)) = false) ∧ ((True) ∧ ((True) ∧ (True)))))) := ⟨trivial, ⟨trivial, ⟨trivial, ⟨⟨trivial, c2⟩, ⟨trivial, ⟨trivial, trivial⟩⟩⟩⟩⟩⟩
    refine TS.reg [.none, .none, .none, .dec false] ?_ ?_
    · apply prop_of ?_ hq
      kernel_rfl
    refine XS.then ?_
    refine TS.ret ?_
    obtain rfl : false = r := Option.some.inj h
    exact XS.fin [] ((True) ∧ (True)) (by kernel_rfl) ⟨trivial, trivial⟩

/-! plugtree/plugref.bytesOf -/
def F21_l2 (n : Nat) (l : List Int) (k21_2 : (Int × (List Int)) → Option ((List UInt8) × Bool)) : (Int × (List Int)) → Option ((List UInt8) × Bool)
  | (x, m0) => (bif (decide (x < ((l.length : Nat) : Int))) then (bif inb x l.length then ((F49 n (l.getD x.toNat (0 : Int)) (0 : Int) (255 : Int)).bind fun y_3 => (bif (!y_3) then (some (([] : List UInt8), false)) else (bif (decide (m0.length + [(IntKind.wrap .u8 ((l.getD x.toNat (0 : Int))))].length ≤ 140737488355328)) then (k21_2 ((IntKind.wrap .i64 (x + (1 : Int))), (m0 ++ [(IntKind.wrap .u8 ((l.getD x.toNat (0 : Int))))]))) else none))) else none) else (some ((strOf m0), true)))
def F21 (n : Nat) (l : List Int) : Option ((List UInt8) × Bool) := (loopF (F21_l2 n l) n ((0 : Int), ([] : List Int)))
theorem F21_ok (n : Nat) (l : List Int) (r : (List UInt8) × Bool) (h : F21 n l = some r) : PureC Try.prog 21 [(.sl (.int .i64) l)] (.tup (.cons (.str r.1) (.cons (.bool r.2) .nil))) [] := by
  refine PureC.mkS Try.func21 rfl rfl ?_
  intro w0 fz0 hfz
  replace h : (loopF (F21_l2 n l) n ((0 : Int), ([] : List Int))) = some r := h
  refine TS.seq ?_
  have hq : (True) ∧ ((True) ∧ (True)) := ⟨trivial, ⟨trivial, trivial⟩⟩
  refine TS.reg [] ?_ ?_
  · apply prop_of ?_ hq
    kernel_rfl
  refine XS.then ?_
  refine TS.seq ?_
  have hq : (True) ∧ (True) := ⟨trivial, trivial⟩
  refine TS.reg [] ?_ ?_
  · apply prop_of ?_ hq
    kernel_rfl
  refine XS.then ?_
  refine TS.seq ?_
  refine TS.seq ?_
  have hq : (True) ∧ ((True) ∧ ((True) ∧ (True))) := ⟨trivial, ⟨trivial, ⟨trivial, trivial⟩⟩⟩
  refine TS.reg [] ?_ ?_
  · apply prop_of ?_ hq
    kernel_rfl
  refine XS.then ?_
  refine TS.block ?_
  refine TS.wk (.row false 4 [] 5 (.int .u8)) ?_
  refine TS.reLoop [0] (mkMask 24 [4, 7, 8, 9]) (D := Int × (List Int)) (fun d => match d with | (x, m0) => (mkTs 24 [(4, (.row 0)), (7, (.sl (.int .i64) l)), (8, (.int .i64 ((l.length : Nat) : Int))), (9, (.int .i64 x))], [(.row 5 (.int .u8) m0)])) (fun n' d => loopF (F21_l2 n l) n' d = some r) n ((0 : Int), ([] : List Int)) h ?_ (fun d => loopF_zero _ d r) ?_
  · kernel_rfl
  · rintro n2 ⟨x, m0⟩ h
    replace h : (bif (decide (x < ((l.length : Nat) : Int))) then (bif inb x l.length then ((F49 n (l.getD x.toNat (0 : Int)) (0 : Int) (255 : Int)).bind fun y_3 => (bif (!y_3) then (some (([] : List UInt8), false)) else (bif (decide (m0.length + [(IntKind.wrap .u8 ((l.getD x.toNat (0 : Int))))].length ≤ 140737488355328)) then ((loopF (F21_l2 n l) n2) ((IntKind.wrap .i64 (x + (1 : Int))), (m0 ++ [(IntKind.wrap .u8 ((l.getD x.toNat (0 : Int))))]))) else none))) else none) else (some ((strOf m0), true))) = some r := h
    refine TS.seq ?_
    have hq : (True) ∧ (True) := ⟨trivial, trivial⟩
    refine TS.reg [] ?_ ?_
    · apply prop_of ?_ hq
      kernel_rfl
    refine XS.then ?_
    refine TS.seq ?_
    rcases bif_some h with ⟨c1, h⟩ | ⟨c2, h⟩
    · refine TS.cond (decide (x < ((l.length : Nat) : Int))) ?_ (fun hcz => ?_) (fun hcz => by rw [c1] at hcz; cases hcz)
      · kernel_rfl
      refine TS.skip ?_
      refine XS.then ?_
      refine TS.seq ?_
      refine TS.block ?_
      refine TS.seq ?_
      obtain ⟨t3, h⟩ := test_some h
      have hq : (inR x l.length) ∧ ((True) ∧ ((True) ∧ (True))) := ⟨inb_ok t3, ⟨trivial, ⟨trivial, trivial⟩⟩⟩
      refine TS.reg [] ?_ ?_
      · apply prop_of ?_ hq
        kernel_rfl
      refine XS.then ?_
      refine TS.seq ?_
      refine TS.seq ?_
      obtain ⟨y_3, hx4, h⟩ := bind_some' h
      have hq : (True) ∧ ((PureC Try.prog 49 [(.int .i64 (l.getD x.toNat (0 : Int))), (.int .i64 (0 : Int)), (.int .i64 (255 : Int))] (.bool y_3) []) ∧ ((True) ∧ (True))) := ⟨trivial, ⟨F49_ok n (l.getD x.toNat (0 : Int)) (0 : Int) (255 : Int) y_3 hx4, ⟨trivial, trivial⟩⟩⟩
      refine TS.reg [.none, (.call (.bool y_3) [])] ?_ ?_
      · apply prop_of ?_ hq
        kernel_rfl
      refine XS.then ?_
      rcases bif_some h with ⟨c5, h⟩ | ⟨c6, h⟩
      · refine TS.cond (!y_3) ?_ (fun hcz => ?_) (fun hcz => by rw [c5] at hcz; cases hcz)
        · kernel_rfl
        refine TS.seq ?_
        have hq : (True) ∧ ((True) ∧ (True)) := ⟨trivial, ⟨trivial, trivial⟩⟩
        refine TS.reg [] ?_ ?_
        · apply prop_of ?_ hq
          kernel_rfl
        refine XS.then ?_
        refine TS.ret ?_
        refine XS.passR ?_
        refine XS.blockRet ?_
        refine XS.passR ?_
        refine XS.passR ?_
        refine XS.blockRet ?_
        refine XS.passR ?_
        obtain rfl : (([] : List UInt8), false) = r := Option.some.inj h
        exact XS.fin [] ((True) ∧ ((True) ∧ (True))) (by kernel_rfl) ⟨trivial, ⟨trivial, trivial⟩⟩
      · refine TS.cond (!y_3) ?_ (fun hcz => by rw [c6] at hcz; cases hcz) (fun hcz => ?_)
        · kernel_rfl
        refine TS.skip ?_
        refine XS.then ?_
        obtain ⟨t7, h⟩ := test_some h
        have hq : (True) ∧ ((True) ∧ ((True) ∧ (((0 < 1 ∧ True) ∧ (True)) ∧ ((m0.length + [(IntKind.wrap .u8 ((l.getD x.toNat (0 : Int))))].length ≤ 140737488355328) ∧ ((True) ∧ (True)))))) := ⟨trivial, ⟨trivial, ⟨trivial, ⟨⟨⟨by decide, trivial⟩, trivial⟩, ⟨of_decide_eq_true t7, ⟨trivial, trivial⟩⟩⟩⟩⟩⟩
        refine TS.reg [] ?_ ?_
        · apply prop_of ?_ hq
          kernel_rfl
        refine XS.blockEnd ?_
        refine XS.then ?_
        have hq : (True) ∧ ((True) ∧ (True)) := ⟨trivial, ⟨trivial, trivial⟩⟩
        refine TS.reg [] ?_ ?_
        · apply prop_of ?_ hq
          kernel_rfl
        refine XS.reAny [2] (mkMask 24 [4, 7, 8, 9]) ((IntKind.wrap .i64 (x + (1 : Int))), (m0 ++ [(IntKind.wrap .u8 ((l.getD x.toNat (0 : Int))))])) h ?_
        kernel_rfl
    · refine TS.cond (decide (x < ((l.length : Nat) : Int))) ?_ (fun hcz => by rw [c2] at hcz; cases hcz) (fun hcz => ?_)
      · kernel_rfl
      refine TS.exit ?_
      refine XS.passE ?_
      refine XS.passE ?_
      refine XS.out ?_
      refine XS.then ?_
      refine TS.seq ?_
      have hq : (True) ∧ ((True) ∧ ((True) ∧ ((True) ∧ (True)))) := ⟨trivial, ⟨trivial, ⟨trivial, ⟨trivial, trivial⟩⟩⟩⟩
      refine TS.reg [] ?_ ?_
      · apply prop_of ?_ hq
        kernel_rfl
      refine XS.then ?_
      refine TS.ret ?_
      obtain rfl : ((strOf m0), true) = r := Option.some.inj h
      exact XS.fin [] ((True) ∧ ((True) ∧ (True))) (by kernel_rfl) ⟨trivial, ⟨trivial, trivial⟩⟩

/-! slices.Clone[[]plugtree/api.End,plugtree/api.End] -/
def F50 (n : Nat) (s : List (Int × Bool × Int × Int × Int)) : Option (List (Int × Bool × Int × Int × Int)) := (bif (decide (([] : List (Int × Bool × Int × Int × Int)).length + s.length ≤ 3518437208883)) then (some (([] : List (Int × Bool × Int × Int × Int)) ++ s)) else none)
theorem F50_ok (n : Nat) (s : List (Int × Bool × Int × Int × Int)) (r : List (Int × Bool × Int × Int × Int)) (h : F50 n s = some r) : PureC Try.prog 50 [(.sl (.st (.pair (.int .i64) (.pair .bool (.pair (.int .i64) (.pair (.int .i64) (.int .i64)))))) s)] (.row 0) [(.row 54 (.st (.pair (.int .i64) (.pair .bool (.pair (.int .i64) (.pair (.int .i64) (.int .i64)))))) r)] := by
  refine PureC.mkS Try.func50 rfl rfl ?_
  intro w0 fz0 hfz
  replace h : (bif (decide (([] : List (Int × Bool × Int × Int × Int)).length + s.length ≤ 3518437208883)) then (some (([] : List (Int × Bool × Int × Int × Int)) ++ s)) else none) = some r := h
  refine TS.seq ?_
  have hq : (True) ∧ (True) := ⟨trivial, trivial⟩
  refine TS.reg [] ?_ ?_
  · apply prop_of ?_ hq
    kernel_rfl
  refine XS.then ?_
  refine TS.seq ?_
  refine TS.seq ?_
  have hq : (True) ∧ (True) := ⟨trivial, trivial⟩
  refine TS.nilReg 1 [] (.st (.pair (.int .i64) (.pair .bool (.pair (.int .i64) (.pair (.int .i64) (.int .i64)))))) s ?_ (by kernel_rfl) ?_
  · apply prop_of ?_ hq
    kernel_rfl
  · intro b2 hb4
    cases b2
    · clear hb4
      refine XS.then ?_
      refine TS.no ?_ ?_
      · kernel_rfl
      refine TS.skip ?_
      refine XS.then ?_
      refine TS.seq ?_
      obtain ⟨t1, h⟩ := test_some h
      have hq : (True) ∧ ((True) ∧ ((([] : List (Int × Bool × Int × Int × Int)).length + s.length ≤ 3518437208883) ∧ ((True) ∧ (True)))) := ⟨trivial, ⟨trivial, ⟨of_decide_eq_true t1, ⟨trivial, trivial⟩⟩⟩⟩
      refine TS.reg [] ?_ ?_
      · apply prop_of ?_ hq
        kernel_rfl
      refine XS.then ?_
      refine TS.ret ?_
      obtain rfl : (([] : List (Int × Bool × Int × Int × Int)) ++ s) = r := Option.some.inj h
      exact XS.fin [1] ((True) ∧ (True)) (by kernel_rfl) ⟨trivial, trivial⟩
    · have e3 := hb4 rfl
      replace h : (some ([] : List (Int × Bool × Int × Int × Int))) = some r := by first | exact h | (rw [e3] at h ⊢; exact h) | simpa [e3] using h
      refine XS.then ?_
      refine TS.yes ?_ ?_
      · kernel_rfl
      refine TS.seq ?_
      have hq : (True) ∧ (True) := ⟨trivial, trivial⟩
      refine TS.reg [] ?_ ?_
      · apply prop_of ?_ hq
        kernel_rfl
      refine XS.then ?_
      refine TS.ret ?_
      refine XS.passR ?_
      obtain rfl : ([] : List (Int × Bool × Int × Int × Int)) = r := Option.some.inj h
      refine XS.wk (.row false 2 [] 54 (.st (.pair (.int .i64) (.pair .bool (.pair (.int .i64) (.pair (.int .i64) (.int .i64))))))) ?_
      exact XS.fin [0] ((True) ∧ (True)) (by kernel_rfl) ⟨trivial, trivial⟩

/-! plugtree/plugref.faceError -/
def F22_l44 (n : Nat) (k22_42 : Int → Option Int) (f_Ends : List (Int × Bool × Int × Int × Int)) (x_2 : Int) (y_4 : List (Int × Bool × Int × Int × Int)) (k22_44 : Int → Option Int) : Int → Option Int
  | x_4 => (bif (decide (x_4 < (((y_4 ++ (f_Ends.take x_2.toNat)).length : Nat) : Int))) then (bif inb x_4 ((y_4 ++ (f_Ends.take x_2.toNat)).length) then (bif (((y_4 ++ (f_Ends.take x_2.toNat)).getD x_4.toNat ((0 : Int), (false, ((0 : Int), ((0 : Int), (0 : Int)))))).1 == (f_Ends.getD x_2.toNat ((0 : Int), (false, ((0 : Int), ((0 : Int), (0 : Int)))))).1) then (bif (((y_4 ++ (f_Ends.take x_2.toNat)).getD x_4.toNat ((0 : Int), (false, ((0 : Int), ((0 : Int), (0 : Int)))))).2.1 == (f_Ends.getD x_2.toNat ((0 : Int), (false, ((0 : Int), ((0 : Int), (0 : Int)))))).2.1) then (some (13 : Int)) else (k22_44 (IntKind.wrap .i64 (x_4 + (1 : Int))))) else (k22_44 (IntKind.wrap .i64 (x_4 + (1 : Int))))) else none) else (k22_42 (IntKind.wrap .i64 (x_2 + (1 : Int)))))
def F22_j43 (n : Nat) (k22_42 : Int → Option Int) (f_Ends : List (Int × Bool × Int × Int × Int)) (ahead : List (Int × Bool × Int × Int × Int)) (x_2 : Int) : Bool → Option Int
  | x_3 => (bif x_3 then (some (1 : Int)) else ((F50 n ahead).bind fun y_4 => (bif subB f_Ends.length none (some x_2) then (bif (decide (y_4.length + (f_Ends.take x_2.toNat).length ≤ 3518437208883)) then (loopF (F22_l44 n k22_42 f_Ends x_2 y_4) n (0 : Int)) else none) else none)))
def F22_l42 (n : Nat) (f_Ends : List (Int × Bool × Int × Int × Int)) (ahead : List (Int × Bool × Int × Int × Int)) (k22_42 : Int → Option Int) : Int → Option Int
  | x_2 => (bif (decide (x_2 < ((f_Ends.length : Nat) : Int))) then (bif inb x_2 f_Ends.length then ((F49 n ((f_Ends.getD x_2.toNat ((0 : Int), (false, ((0 : Int), ((0 : Int), (0 : Int)))))).1) (1 : Int) (15 : Int)).bind fun y_5 => (bif (!y_5) then (F22_j43 n k22_42 f_Ends ahead x_2 true) else ((F49 n ((f_Ends.getD x_2.toNat ((0 : Int), (false, ((0 : Int), ((0 : Int), (0 : Int)))))).2.2.1) (0 : Int) (3 : Int)).bind fun y_6 => (bif (!y_6) then (F22_j43 n k22_42 f_Ends ahead x_2 true) else ((F49 n ((f_Ends.getD x_2.toNat ((0 : Int), (false, ((0 : Int), ((0 : Int), (0 : Int)))))).2.2.2.1) (1 : Int) (64 : Int)).bind fun y_7 => (bif (!y_7) then (F22_j43 n k22_42 f_Ends ahead x_2 true) else ((F49 n ((f_Ends.getD x_2.toNat ((0 : Int), (false, ((0 : Int), ((0 : Int), (0 : Int)))))).2.2.2.2) (0 : Int) (255 : Int)).bind fun y_8 => (F22_j43 n k22_42 f_Ends ahead x_2 (!y_8))))))))) else none) else (some (0 : Int)))
def F22_l37 (n : Nat) (f_Extra : List (List UInt8)) (f_Ends : List (Int × Bool × Int × Int × Int)) (ahead : List (Int × Bool × Int × Int × Int)) (k22_37 : Int → Option Int) : Int → Option Int
  | x => (bif (decide (x < ((f_Extra.length : Nat) : Int))) then (bif inb x f_Extra.length then ((F49 n (((f_Extra.getD x.toNat ([] : List UInt8)).length : Nat) : Int) (2 : Int) (32 : Int)).bind fun y_3 => (bif (!y_3) then (some (1 : Int)) else (bif inb (0 : Int) ((f_Extra.getD x.toNat ([] : List UInt8)).length) then (bif ((IntKind.wrap .i64 (((((f_Extra.getD x.toNat ([] : List UInt8)).getD 0 0).toNat : Nat) : Int))) != (((f_Extra.getD x.toNat ([] : List UInt8)).length : Nat) : Int)) then (some (1 : Int)) else (bif inb (1 : Int) ((f_Extra.getD x.toNat ([] : List UInt8)).length) then (bif (decide (((((f_Extra.getD x.toNat ([] : List UInt8)).getD 1 0).toNat : Nat) : Int) ≤ (5 : Int))) then (some (1 : Int)) else (k22_37 (IntKind.wrap .i64 (x + (1 : Int))))) else none)) else none))) else none) else (bif (decide (((f_Ends.length : Nat) : Int) > (4 : Int))) then (some (2 : Int)) else (loopF (F22_l42 n f_Ends ahead) n (0 : Int))))
def F22 (n : Nat) (f_Class : Int) (f_Sub : Int) (f_Proto : Int) (f_Name : Int) (f_Extra : List (List UInt8)) (f_Ends : List (Int × Bool × Int × Int × Int)) (ahead : List (Int × Bool × Int × Int × Int)) : Option Int := ((F21 n [f_Class, f_Sub, f_Proto, f_Name]).bind fun y_2 => (bif (!y_2.2) then (some (1 : Int)) else (bif (decide (((f_Extra.length : Nat) : Int) > (2 : Int))) then (some (2 : Int)) else (loopF (F22_l37 n f_Extra f_Ends ahead) n (0 : Int)))))
theorem F22_ok (n : Nat) (f_Class : Int) (f_Sub : Int) (f_Proto : Int) (f_Name : Int) (f_Extra : List (List UInt8)) (f_Ends : List (Int × Bool × Int × Int × Int)) (ahead : List (Int × Bool × Int × Int × Int)) (r : Int) (h : F22 n f_Class f_Sub f_Proto f_Name f_Extra f_Ends ahead = some r) : PureC Try.prog 22 [(.st (.cons (.int .i64 f_Class) (.cons (.int .i64 f_Sub) (.cons (.int .i64 f_Proto) (.cons (.int .i64 f_Name) (.cons (.sl .str f_Extra) (.sl (.st (.pair (.int .i64) (.pair .bool (.pair (.int .i64) (.pair (.int .i64) (.int .i64)))))) f_Ends))))))), (.sl (.st (.pair (.int .i64) (.pair .bool (.pair (.int .i64) (.pair (.int .i64) (.int .i64)))))) ahead)] (.int .i64 r) [] := by
  refine PureC.mkS Try.func22 rfl rfl ?_
  intro w0 fz0 hfz
  replace h : ((F21 n [f_Class, f_Sub, f_Proto, f_Name]).bind fun y_2 => (bif (!y_2.2) then (some (1 : Int)) else (bif (decide (((f_Extra.length : Nat) : Int) > (2 : Int))) then (some (2 : Int)) else (loopF (F22_l37 n f_Extra f_Ends ahead) n (0 : Int))))) = some r := h
  refine TS.seq ?_
  have hq : (True) ∧ ((True) ∧ (True)) := ⟨trivial, ⟨trivial, trivial⟩⟩
  refine TS.reg [] ?_ ?_
  · apply prop_of ?_ hq
    kernel_rfl
  refine XS.then ?_
  refine TS.seq ?_
  refine TS.seq ?_
  obtain ⟨y_2, hx1, h⟩ := bind_some' h
  have hq : (True) ∧ ((True) ∧ ((True) ∧ ((True) ∧ ((True) ∧ ((True) ∧ ((True) ∧ ((True) ∧ (((0 < 4 ∧ True) ∧ ((1 < 4 ∧ True) ∧ ((2 < 4 ∧ True) ∧ ((3 < 4 ∧ True) ∧ (True))))) ∧ ((((True) ∧ (True)) ∧ PureC Try.prog 21 [(.sl (.int .i64) [f_Class, f_Sub, f_Proto, f_Name])] (.tup (.cons (.str y_2.1) (.cons (.bool y_2.2) .nil))) []) ∧ ((True) ∧ ((True) ∧ ((True) ∧ ((True) ∧ ((True) ∧ (True))))))))))))))) := ⟨trivial, ⟨trivial, ⟨trivial, ⟨trivial, ⟨trivial, ⟨trivial, ⟨trivial, ⟨trivial, ⟨⟨⟨by decide, trivial⟩, ⟨⟨by decide, trivial⟩, ⟨⟨by decide, trivial⟩, ⟨⟨by decide, trivial⟩, trivial⟩⟩⟩⟩, ⟨⟨⟨trivial, trivial⟩, F21_ok n [f_Class, f_Sub, f_Proto, f_Name] y_2 hx1⟩, ⟨trivial, ⟨trivial, ⟨trivial, ⟨trivial, ⟨trivial, trivial⟩⟩⟩⟩⟩⟩⟩⟩⟩⟩⟩⟩⟩⟩⟩
  refine TS.reg [.none, .none, .none, .none, .none, .none, .none, .none, .none, (.call (.tup (.cons (.str y_2.1) (.cons (.bool y_2.2) .nil))) [])] ?_ ?_
  · apply prop_of ?_ hq
    kernel_rfl
  refine XS.then ?_
  refine TS.seq ?_
  have hq : (True) ∧ ((True) ∧ (True)) := ⟨trivial, ⟨trivial, trivial⟩⟩
  refine TS.reg [] ?_ ?_
  · apply prop_of ?_ hq
    kernel_rfl
  refine XS.then ?_
  rcases bif_some h with ⟨c2, h⟩ | ⟨c3, h⟩
  · refine TS.cond (!y_2.2) ?_ (fun hcz => ?_) (fun hcz => by rw [c2] at hcz; cases hcz)
    · kernel_rfl
    refine TS.seq ?_
    have hq : (True) ∧ (True) := ⟨trivial, trivial⟩
    refine TS.reg [] ?_ ?_
    · apply prop_of ?_ hq
      kernel_rfl
    refine XS.then ?_
    refine TS.ret ?_
    refine XS.passR ?_
    obtain rfl : (1 : Int) = r := Option.some.inj h
    exact XS.fin [] ((True) ∧ (True)) (by kernel_rfl) ⟨trivial, trivial⟩
  · refine TS.cond (!y_2.2) ?_ (fun hcz => by rw [c3] at hcz; cases hcz) (fun hcz => ?_)
    · kernel_rfl
    refine TS.skip ?_
    refine XS.then ?_
    refine TS.seq ?_
    refine TS.seq ?_
    have hq : (True) ∧ ((True) ∧ ((True) ∧ ((True) ∧ (True)))) := ⟨trivial, ⟨trivial, ⟨trivial, ⟨trivial, trivial⟩⟩⟩⟩
    refine TS.reg [] ?_ ?_
    · apply prop_of ?_ hq
      kernel_rfl
    refine XS.then ?_
    rcases bif_some h with ⟨c4, h⟩ | ⟨c5, h⟩
    · refine TS.cond (decide (((f_Extra.length : Nat) : Int) > (2 : Int))) ?_ (fun hcz => ?_) (fun hcz => by rw [c4] at hcz; cases hcz)
      · kernel_rfl
      refine TS.seq ?_
      have hq : (True) ∧ (True) := ⟨trivial, trivial⟩
      refine TS.reg [] ?_ ?_
      · apply prop_of ?_ hq
        kernel_rfl
      refine XS.then ?_
      refine TS.ret ?_
      refine XS.passR ?_
      obtain rfl : (2 : Int) = r := Option.some.inj h
      exact XS.fin [] ((True) ∧ (True)) (by kernel_rfl) ⟨trivial, trivial⟩
    · refine TS.cond (decide (((f_Extra.length : Nat) : Int) > (2 : Int))) ?_ (fun hcz => by rw [c5] at hcz; cases hcz) (fun hcz => ?_)
      · kernel_rfl
      refine TS.skip ?_
      refine XS.then ?_
      refine TS.seq ?_
      refine TS.seq ?_
      have hq : (True) ∧ ((True) ∧ ((True) ∧ ((True) ∧ (True)))) := ⟨trivial, ⟨trivial, ⟨trivial, ⟨trivial, trivial⟩⟩⟩⟩
      refine TS.reg [] ?_ ?_
      · apply prop_of ?_ hq
        kernel_rfl
      refine XS.then ?_
      refine TS.block ?_
      refine TS.reLoop [0] (mkMask 117 [1, 2, 33, 34, 35]) (D := Int) (fun d => match d with | x => (mkTs 117 [(1, (.sl (.st (.pair (.int .i64) (.pair .bool (.pair (.int .i64) (.pair (.int .i64) (.int .i64)))))) ahead)), (2, (.ptr 0 [])), (33, (.sl .str f_Extra)), (34, (.int .i64 ((f_Extra.length : Nat) : Int))), (35, (.int .i64 x))], [(.box 49 (.st (.cons (.int .i64 f_Class) (.cons (.int .i64 f_Sub) (.cons (.int .i64 f_Proto) (.cons (.int .i64 f_Name) (.cons (.sl .str f_Extra) (.sl (.st (.pair (.int .i64) (.pair .bool (.pair (.int .i64) (.pair (.int .i64) (.int .i64)))))) f_Ends))))))))])) (fun n' d => loopF (F22_l37 n f_Extra f_Ends ahead) n' d = some r) n (0 : Int) h ?_ (fun d => loopF_zero _ d r) ?_
      · kernel_rfl
      · rintro n37 x h
        replace h : (bif (decide (x < ((f_Extra.length : Nat) : Int))) then (bif inb x f_Extra.length then ((F49 n (((f_Extra.getD x.toNat ([] : List UInt8)).length : Nat) : Int) (2 : Int) (32 : Int)).bind fun y_3 => (bif (!y_3) then (some (1 : Int)) else (bif inb (0 : Int) ((f_Extra.getD x.toNat ([] : List UInt8)).length) then (bif ((IntKind.wrap .i64 (((((f_Extra.getD x.toNat ([] : List UInt8)).getD 0 0).toNat : Nat) : Int))) != (((f_Extra.getD x.toNat ([] : List UInt8)).length : Nat) : Int)) then (some (1 : Int)) else (bif inb (1 : Int) ((f_Extra.getD x.toNat ([] : List UInt8)).length) then (bif (decide (((((f_Extra.getD x.toNat ([] : List UInt8)).getD 1 0).toNat : Nat) : Int) ≤ (5 : Int))) then (some (1 : Int)) else ((loopF (F22_l37 n f_Extra f_Ends ahead) n37) (IntKind.wrap .i64 (x + (1 : Int))))) else none)) else none))) else none) else (bif (decide (((f_Ends.length : Nat) : Int) > (4 : Int))) then (some (2 : Int)) else (loopF (F22_l42 n f_Ends ahead) n (0 : Int)))) = some r := h
        refine TS.seq ?_
        have hq : (True) ∧ (True) := ⟨trivial, trivial⟩
        refine TS.reg [] ?_ ?_
        · apply prop_of ?_ hq
          kernel_rfl
        refine XS.then ?_
        refine TS.seq ?_
        rcases bif_some h with ⟨c6, h⟩ | ⟨c7, h⟩
        · refine TS.cond (decide (x < ((f_Extra.length : Nat) : Int))) ?_ (fun hcz => ?_) (fun hcz => by rw [c6] at hcz; cases hcz)
          · kernel_rfl
          refine TS.skip ?_
          refine XS.then ?_
          refine TS.seq ?_
          refine TS.block ?_
          refine TS.seq ?_
          obtain ⟨t8, h⟩ := test_some h
          have hq : (inR x f_Extra.length) ∧ ((True) ∧ ((True) ∧ (True))) := ⟨inb_ok t8, ⟨trivial, ⟨trivial, trivial⟩⟩⟩
          refine TS.reg [] ?_ ?_
          · apply prop_of ?_ hq
            kernel_rfl
          refine XS.then ?_
          refine TS.seq ?_
          obtain ⟨y_3, hx9, h⟩ := bind_some' h
          rcases bif_some h with ⟨c10, h⟩ | ⟨c11, h⟩
          · have hq : (True) ∧ ((True) ∧ ((PureC Try.prog 49 [(.int .i64 (((f_Extra.getD x.toNat ([] : List UInt8)).length : Nat) : Int)), (.int .i64 (2 : Int)), (.int .i64 (32 : Int))] (.bool y_3) []) ∧ ((True) ∧ (((True) ∧ (!y_3) = true) ∧ ((True) ∧ ((True) ∧ ((True) ∧ (True)))))))) := ⟨trivial, ⟨trivial, ⟨F49_ok n (((f_Extra.getD x.toNat ([] : List UInt8)).length : Nat) : Int) (2 : Int) (32 : Int) y_3 hx9, ⟨trivial, ⟨⟨trivial, c10⟩, ⟨trivial, ⟨trivial, ⟨trivial, trivial⟩⟩⟩⟩⟩⟩⟩⟩
            refine TS.reg [.none, .none, (.call (.bool y_3) []), .none, .dec true] ?_ ?_
            · apply prop_of ?_ hq
              kernel_rfl
            refine XS.then ?_
            refine TS.yes ?_ ?_
            · kernel_rfl
            refine TS.seq ?_
            have hq : (True) ∧ (True) := ⟨trivial, trivial⟩
            refine TS.reg [] ?_ ?_
            · apply prop_of ?_ hq
              kernel_rfl
            refine XS.then ?_
            refine TS.ret ?_
            refine XS.blockRet ?_
            refine XS.passR ?_
            refine XS.passR ?_
            refine XS.blockRet ?_
            refine XS.passR ?_
            obtain rfl : (1 : Int) = r := Option.some.inj h
            exact XS.fin [] ((True) ∧ (True)) (by kernel_rfl) ⟨trivial, trivial⟩
          · obtain ⟨t12, h⟩ := test_some h
            rcases bif_some h with ⟨c13, h⟩ | ⟨c14, h⟩
            · have hq : (True) ∧ ((True) ∧ ((PureC Try.prog 49 [(.int .i64 (((f_Extra.getD x.toNat ([] : List UInt8)).length : Nat) : Int)), (.int .i64 (2 : Int)), (.int .i64 (32 : Int))] (.bool y_3) []) ∧ ((True) ∧ (((True) ∧ (!y_3) = false) ∧ ((True) ∧ ((inR (0 : Int) ((f_Extra.getD x.toNat ([] : List UInt8)).length)) ∧ ((True) ∧ ((True) ∧ ((True) ∧ ((True) ∧ ((True) ∧ (((True) ∧ ((IntKind.wrap .i64 (((((f_Extra.getD x.toNat ([] : List UInt8)).getD 0 0).toNat : Nat) : Int))) != (((f_Extra.getD x.toNat ([] : List UInt8)).length : Nat) : Int)) = true) ∧ ((True) ∧ (True)))))))))))))) := ⟨trivial, ⟨trivial, ⟨F49_ok n (((f_Extra.getD x.toNat ([] : List UInt8)).length : Nat) : Int) (2 : Int) (32 : Int) y_3 hx9, ⟨trivial, ⟨⟨trivial, c11⟩, ⟨trivial, ⟨inb_ok t12, ⟨trivial, ⟨trivial, ⟨trivial, ⟨trivial, ⟨trivial, ⟨⟨trivial, c13⟩, ⟨trivial, trivial⟩⟩⟩⟩⟩⟩⟩⟩⟩⟩⟩⟩⟩⟩
              refine TS.reg [.none, .none, (.call (.bool y_3) []), .none, .dec false, .none, .none, .none, .none, .none, .none, .none, .dec true] ?_ ?_
              · apply prop_of ?_ hq
                kernel_rfl
              refine XS.then ?_
              refine TS.yes ?_ ?_
              · kernel_rfl
              refine TS.seq ?_
              have hq : (True) ∧ (True) := ⟨trivial, trivial⟩
              refine TS.reg [] ?_ ?_
              · apply prop_of ?_ hq
                kernel_rfl
              refine XS.then ?_
              refine TS.ret ?_
              refine XS.blockRet ?_
              refine XS.passR ?_
              refine XS.passR ?_
              refine XS.blockRet ?_
              refine XS.passR ?_
              obtain rfl : (1 : Int) = r := Option.some.inj h
              exact XS.fin [] ((True) ∧ (True)) (by kernel_rfl) ⟨trivial, trivial⟩
            · obtain ⟨t15, h⟩ := test_some h
              have hq : (True) ∧ ((True) ∧ ((PureC Try.prog 49 [(.int .i64 (((f_Extra.getD x.toNat ([] : List UInt8)).length : Nat) : Int)), (.int .i64 (2 : Int)), (.int .i64 (32 : Int))] (.bool y_3) []) ∧ ((True) ∧ (((True) ∧ (!y_3) = false) ∧ ((True) ∧ ((inR (0 : Int) ((f_Extra.getD x.toNat ([] : List UInt8)).length)) ∧ ((True) ∧ ((True) ∧ ((True) ∧ ((True) ∧ ((True) ∧ (((True) ∧ ((IntKind.wrap .i64 (((((f_Extra.getD x.toNat ([] : List UInt8)).getD 0 0).toNat : Nat) : Int))) != (((f_Extra.getD x.toNat ([] : List UInt8)).length : Nat) : Int)) = false) ∧ ((True) ∧ ((inR (1 : Int) ((f_Extra.getD x.toNat ([] : List UInt8)).length)) ∧ ((True) ∧ ((True) ∧ (True))))))))))))))))) := ⟨trivial, ⟨trivial, ⟨F49_ok n (((f_Extra.getD x.toNat ([] : List UInt8)).length : Nat) : Int) (2 : Int) (32 : Int) y_3 hx9, ⟨trivial, ⟨⟨trivial, c11⟩, ⟨trivial, ⟨inb_ok t12, ⟨trivial, ⟨trivial, ⟨trivial, ⟨trivial, ⟨trivial, ⟨⟨trivial, c14⟩, ⟨trivial, ⟨inb_ok t15, ⟨trivial, ⟨trivial, trivial⟩⟩⟩⟩⟩⟩⟩⟩⟩⟩⟩⟩⟩⟩⟩⟩⟩
              refine TS.reg [.none, .none, (.call (.bool y_3) []), .none, .dec false, .none, .none, .none, .none, .none, .none, .none, .dec false] ?_ ?_
              · apply prop_of ?_ hq
                kernel_rfl
              refine XS.then ?_
              rcases bif_some h with ⟨c16, h⟩ | ⟨c17, h⟩
              · refine TS.cond (decide (((((f_Extra.getD x.toNat ([] : List UInt8)).getD 1 0).toNat : Nat) : Int) ≤ (5 : Int))) ?_ (fun hcz => ?_) (fun hcz => by rw [c16] at hcz; cases hcz)
                · kernel_rfl
                refine TS.seq ?_
                have hq : (True) ∧ (True) := ⟨trivial, trivial⟩
                refine TS.reg [] ?_ ?_
                · apply prop_of ?_ hq
                  kernel_rfl
                refine XS.then ?_
                refine TS.ret ?_
                refine XS.blockRet ?_
                refine XS.passR ?_
                refine XS.passR ?_
                refine XS.blockRet ?_
                refine XS.passR ?_
                obtain rfl : (1 : Int) = r := Option.some.inj h
                exact XS.fin [] ((True) ∧ (True)) (by kernel_rfl) ⟨trivial, trivial⟩
              · refine TS.cond (decide (((((f_Extra.getD x.toNat ([] : List UInt8)).getD 1 0).toNat : Nat) : Int) ≤ (5 : Int))) ?_ (fun hcz => by rw [c17] at hcz; cases hcz) (fun hcz => ?_)
                · kernel_rfl
                refine TS.skip ?_
                refine XS.blockEnd ?_
                refine XS.then ?_
                have hq : (True) ∧ ((True) ∧ (True)) := ⟨trivial, ⟨trivial, trivial⟩⟩
                refine TS.reg [] ?_ ?_
                · apply prop_of ?_ hq
                  kernel_rfl
                refine XS.reAny [0] (mkMask 117 [1, 2, 33, 34, 35]) (IntKind.wrap .i64 (x + (1 : Int))) h ?_
                kernel_rfl
        · refine TS.cond (decide (x < ((f_Extra.length : Nat) : Int))) ?_ (fun hcz => by rw [c7] at hcz; cases hcz) (fun hcz => ?_)
          · kernel_rfl
          refine TS.exit ?_
          refine XS.passE ?_
          refine XS.passE ?_
          refine XS.out ?_
          refine XS.then ?_
          refine TS.seq ?_
          refine TS.seq ?_
          have hq : (True) ∧ ((True) ∧ ((True) ∧ ((True) ∧ (True)))) := ⟨trivial, ⟨trivial, ⟨trivial, ⟨trivial, trivial⟩⟩⟩⟩
          refine TS.reg [] ?_ ?_
          · apply prop_of ?_ hq
            kernel_rfl
          refine XS.then ?_
          rcases bif_some h with ⟨c18, h⟩ | ⟨c19, h⟩
          · refine TS.cond (decide (((f_Ends.length : Nat) : Int) > (4 : Int))) ?_ (fun hcz => ?_) (fun hcz => by rw [c18] at hcz; cases hcz)
            · kernel_rfl
            refine TS.seq ?_
            have hq : (True) ∧ (True) := ⟨trivial, trivial⟩
            refine TS.reg [] ?_ ?_
            · apply prop_of ?_ hq
              kernel_rfl
            refine XS.then ?_
            refine TS.ret ?_
            refine XS.passR ?_
            obtain rfl : (2 : Int) = r := Option.some.inj h
            exact XS.fin [] ((True) ∧ (True)) (by kernel_rfl) ⟨trivial, trivial⟩
          · refine TS.cond (decide (((f_Ends.length : Nat) : Int) > (4 : Int))) ?_ (fun hcz => by rw [c19] at hcz; cases hcz) (fun hcz => ?_)
            · kernel_rfl
            refine TS.skip ?_
            refine XS.then ?_
            refine TS.seq ?_
            refine TS.seq ?_
            have hq : (True) ∧ ((True) ∧ ((True) ∧ ((True) ∧ (True)))) := ⟨trivial, ⟨trivial, ⟨trivial, ⟨trivial, trivial⟩⟩⟩⟩
            refine TS.reg [] ?_ ?_
            · apply prop_of ?_ hq
              kernel_rfl
            refine XS.then ?_
            refine TS.block ?_
            refine TS.reLoop [0] (mkMask 117 [1, 2, 62, 63, 64]) (D := Int) (fun d => match d with | x_2 => (mkTs 117 [(1, (.sl (.st (.pair (.int .i64) (.pair .bool (.pair (.int .i64) (.pair (.int .i64) (.int .i64)))))) ahead)), (2, (.ptr 0 [])), (62, (.sl (.st (.pair (.int .i64) (.pair .bool (.pair (.int .i64) (.pair (.int .i64) (.int .i64)))))) f_Ends)), (63, (.int .i64 ((f_Ends.length : Nat) : Int))), (64, (.int .i64 x_2))], [(.box 49 (.st (.cons (.int .i64 f_Class) (.cons (.int .i64 f_Sub) (.cons (.int .i64 f_Proto) (.cons (.int .i64 f_Name) (.cons (.sl .str f_Extra) (.sl (.st (.pair (.int .i64) (.pair .bool (.pair (.int .i64) (.pair (.int .i64) (.int .i64)))))) f_Ends))))))))])) (fun n' d => loopF (F22_l42 n f_Ends ahead) n' d = some r) n (0 : Int) h ?_ (fun d => loopF_zero _ d r) ?_
            · kernel_rfl
            · rintro n42 x_2 h
              replace h : (bif (decide (x_2 < ((f_Ends.length : Nat) : Int))) then (bif inb x_2 f_Ends.length then ((F49 n ((f_Ends.getD x_2.toNat ((0 : Int), (false, ((0 : Int), ((0 : Int), (0 : Int)))))).1) (1 : Int) (15 : Int)).bind fun y_5 => (bif (!y_5) then (F22_j43 n (loopF (F22_l42 n f_Ends ahead) n42) f_Ends ahead x_2 true) else ((F49 n ((f_Ends.getD x_2.toNat ((0 : Int), (false, ((0 : Int), ((0 : Int), (0 : Int)))))).2.2.1) (0 : Int) (3 : Int)).bind fun y_6 => (bif (!y_6) then (F22_j43 n (loopF (F22_l42 n f_Ends ahead) n42) f_Ends ahead x_2 true) else ((F49 n ((f_Ends.getD x_2.toNat ((0 : Int), (false, ((0 : Int), ((0 : Int), (0 : Int)))))).2.2.2.1) (1 : Int) (64 : Int)).bind fun y_7 => (bif (!y_7) then (F22_j43 n (loopF (F22_l42 n f_Ends ahead) n42) f_Ends ahead x_2 true) else ((F49 n ((f_Ends.getD x_2.toNat ((0 : Int), (false, ((0 : Int), ((0 : Int), (0 : Int)))))).2.2.2.2) (0 : Int) (255 : Int)).bind fun y_8 => (F22_j43 n (loopF (F22_l42 n f_Ends ahead) n42) f_Ends ahead x_2 (!y_8))))))))) else none) else (some (0 : Int))) = some r := h
              refine TS.seq ?_
              have hq : (True) ∧ (True) := ⟨trivial, trivial⟩
              refine TS.reg [] ?_ ?_
              · apply prop_of ?_ hq
                kernel_rfl
              refine XS.then ?_
              refine TS.seq ?_
              rcases bif_some h with ⟨c20, h⟩ | ⟨c21, h⟩
              · refine TS.cond (decide (x_2 < ((f_Ends.length : Nat) : Int))) ?_ (fun hcz => ?_) (fun hcz => by rw [c20] at hcz; cases hcz)
                · kernel_rfl
                refine TS.skip ?_
                refine XS.then ?_
                refine TS.seq ?_
                refine TS.block ?_
                refine TS.seq ?_
                obtain ⟨t22, h⟩ := test_some h
                have hq : (True) ∧ ((inR x_2 f_Ends.length) ∧ ((True) ∧ ((True) ∧ ((True) ∧ ((True) ∧ (True)))))) := ⟨trivial, ⟨inb_ok t22, ⟨trivial, ⟨trivial, ⟨trivial, ⟨trivial, trivial⟩⟩⟩⟩⟩⟩
                refine TS.reg [] ?_ ?_
                · apply prop_of ?_ hq
                  kernel_rfl
                refine XS.then ?_
                refine TS.seq ?_
                refine TS.seq ?_
                refine TS.cut (D := Bool) (fun d => match d with | x_3 => (mkTs 117 [(1, (.sl (.st (.pair (.int .i64) (.pair .bool (.pair (.int .i64) (.pair (.int .i64) (.int .i64)))))) ahead)), (2, (.ptr 0 [])), (9, (.int .i64 x_2)), (10, (.ptr 1 [])), (62, (.sl (.st (.pair (.int .i64) (.pair .bool (.pair (.int .i64) (.pair (.int .i64) (.int .i64)))))) f_Ends)), (63, (.int .i64 ((f_Ends.length : Nat) : Int))), (64, (.int .i64 x_2)), (90, (.bool x_3))], [(.box 49 (.st (.cons (.int .i64 f_Class) (.cons (.int .i64 f_Sub) (.cons (.int .i64 f_Proto) (.cons (.int .i64 f_Name) (.cons (.sl .str f_Extra) (.sl (.st (.pair (.int .i64) (.pair .bool (.pair (.int .i64) (.pair (.int .i64) (.int .i64)))))) f_Ends)))))))), (.box 54 (.st (.cons (.int .i64 (f_Ends.getD x_2.toNat ((0 : Int), (false, ((0 : Int), ((0 : Int), (0 : Int)))))).1) (.cons (.bool (f_Ends.getD x_2.toNat ((0 : Int), (false, ((0 : Int), ((0 : Int), (0 : Int)))))).2.1) (.cons (.int .i64 (f_Ends.getD x_2.toNat ((0 : Int), (false, ((0 : Int), ((0 : Int), (0 : Int)))))).2.2.1) (.cons (.int .i64 (f_Ends.getD x_2.toNat ((0 : Int), (false, ((0 : Int), ((0 : Int), (0 : Int)))))).2.2.2.1) (.int .i64 (f_Ends.getD x_2.toNat ((0 : Int), (false, ((0 : Int), ((0 : Int), (0 : Int)))))).2.2.2.2)))))))])) (fun d => F22_j43 n (loopF (F22_l42 n f_Ends ahead) n42) f_Ends ahead x_2 d = some r) ?_ ?_
                · rintro x_3 h
                  replace h : (bif x_3 then (some (1 : Int)) else ((F50 n ahead).bind fun y_4 => (bif subB f_Ends.length none (some x_2) then (bif (decide (y_4.length + (f_Ends.take x_2.toNat).length ≤ 3518437208883)) then (loopF (F22_l44 n (loopF (F22_l42 n f_Ends ahead) n42) f_Ends x_2 y_4) n (0 : Int)) else none) else none))) = some r := h
                  refine XS.then ?_
                  rcases bif_some h with ⟨c23, h⟩ | ⟨c24, h⟩
                  · refine TS.cond x_3 ?_ (fun hcz => ?_) (fun hcz => by rw [c23] at hcz; cases hcz)
                    · kernel_rfl
                    refine TS.seq ?_
                    have hq : (True) ∧ (True) := ⟨trivial, trivial⟩
                    refine TS.reg [] ?_ ?_
                    · apply prop_of ?_ hq
                      kernel_rfl
                    refine XS.then ?_
                    refine TS.ret ?_
                    refine XS.passR ?_
                    refine XS.blockRet ?_
                    refine XS.passR ?_
                    refine XS.passR ?_
                    refine XS.blockRet ?_
                    refine XS.passR ?_
                    obtain rfl : (1 : Int) = r := Option.some.inj h
                    exact XS.fin [] ((True) ∧ (True)) (by kernel_rfl) ⟨trivial, trivial⟩
                  · refine TS.cond x_3 ?_ (fun hcz => by rw [c24] at hcz; cases hcz) (fun hcz => ?_)
                    · kernel_rfl
                    refine TS.skip ?_
                    refine XS.then ?_
                    refine TS.seq ?_
                    obtain ⟨y_4, hx25, h⟩ := bind_some' h
                    obtain ⟨t26, h⟩ := test_some h
                    obtain ⟨t27, h⟩ := test_some h
                    have hq : ((True) ∧ ((PureC Try.prog 50 [(.sl (.st (.pair (.int .i64) (.pair .bool (.pair (.int .i64) (.pair (.int .i64) (.int .i64)))))) ahead)] (.row 0) [(.row 54 (.st (.pair (.int .i64) (.pair .bool (.pair (.int .i64) (.pair (.int .i64) (.int .i64)))))) y_4)]) ∧ ((True) ∧ ((True) ∧ ((True) ∧ ((subC f_Ends.length none (some x_2)) ∧ (True))))))) ∧ ((y_4.length + (f_Ends.take x_2.toNat).length ≤ 3518437208883) ∧ ((True) ∧ (True))) := ⟨⟨trivial, ⟨F50_ok n ahead y_4 hx25, ⟨trivial, ⟨trivial, ⟨trivial, ⟨subB_ok t26, trivial⟩⟩⟩⟩⟩⟩, ⟨of_decide_eq_true t27, ⟨trivial, trivial⟩⟩⟩
                    refine TS.drawF 8 [0, 1, 2, 3, 4, 5, 6, 7] 6 [] [.none, (.call (.row 0) [(.row 54 (.st (.pair (.int .i64) (.pair .bool (.pair (.int .i64) (.pair (.int .i64) (.int .i64)))))) y_4)])] (by kernel_rfl) (by kernel_rfl) (by kernel_rfl) ?_ ?_
                    · apply prop_of ?_ hq
                      kernel_rfl
                    refine XS.then ?_
                    refine TS.block ?_
                    refine TS.reLoop [0, 1, 3] (mkMask 117 [1, 2, 10, 62, 63, 64, 97, 98, 99]) (D := Int) (fun d => match d with | x_4 => (mkTs 117 [(1, (.sl (.st (.pair (.int .i64) (.pair .bool (.pair (.int .i64) (.pair (.int .i64) (.int .i64)))))) ahead)), (2, (.ptr 0 [])), (10, (.ptr 1 [])), (62, (.sl (.st (.pair (.int .i64) (.pair .bool (.pair (.int .i64) (.pair (.int .i64) (.int .i64)))))) f_Ends)), (63, (.int .i64 ((f_Ends.length : Nat) : Int))), (64, (.int .i64 x_2)), (97, (.row 2)), (98, (.int .i64 (((y_4 ++ (f_Ends.take x_2.toNat)).length : Nat) : Int))), (99, (.int .i64 x_4))], [(.box 49 (.st (.cons (.int .i64 f_Class) (.cons (.int .i64 f_Sub) (.cons (.int .i64 f_Proto) (.cons (.int .i64 f_Name) (.cons (.sl .str f_Extra) (.sl (.st (.pair (.int .i64) (.pair .bool (.pair (.int .i64) (.pair (.int .i64) (.int .i64)))))) f_Ends)))))))), (.box 54 (.st (.cons (.int .i64 (f_Ends.getD x_2.toNat ((0 : Int), (false, ((0 : Int), ((0 : Int), (0 : Int)))))).1) (.cons (.bool (f_Ends.getD x_2.toNat ((0 : Int), (false, ((0 : Int), ((0 : Int), (0 : Int)))))).2.1) (.cons (.int .i64 (f_Ends.getD x_2.toNat ((0 : Int), (false, ((0 : Int), ((0 : Int), (0 : Int)))))).2.2.1) (.cons (.int .i64 (f_Ends.getD x_2.toNat ((0 : Int), (false, ((0 : Int), ((0 : Int), (0 : Int)))))).2.2.2.1) (.int .i64 (f_Ends.getD x_2.toNat ((0 : Int), (false, ((0 : Int), ((0 : Int), (0 : Int)))))).2.2.2.2))))))), (.row 54 (.st (.pair (.int .i64) (.pair .bool (.pair (.int .i64) (.pair (.int .i64) (.int .i64)))))) (y_4 ++ (f_Ends.take x_2.toNat)))])) (fun n' d => loopF (F22_l44 n (loopF (F22_l42 n f_Ends ahead) n42) f_Ends x_2 y_4) n' d = some r) n (0 : Int) h ?_ (fun d => loopF_zero _ d r) ?_
                    · kernel_rfl
                    · rintro n44 x_4 h
                      replace h : (bif (decide (x_4 < (((y_4 ++ (f_Ends.take x_2.toNat)).length : Nat) : Int))) then (bif inb x_4 ((y_4 ++ (f_Ends.take x_2.toNat)).length) then (bif (((y_4 ++ (f_Ends.take x_2.toNat)).getD x_4.toNat ((0 : Int), (false, ((0 : Int), ((0 : Int), (0 : Int)))))).1 == (f_Ends.getD x_2.toNat ((0 : Int), (false, ((0 : Int), ((0 : Int), (0 : Int)))))).1) then (bif (((y_4 ++ (f_Ends.take x_2.toNat)).getD x_4.toNat ((0 : Int), (false, ((0 : Int), ((0 : Int), (0 : Int)))))).2.1 == (f_Ends.getD x_2.toNat ((0 : Int), (false, ((0 : Int), ((0 : Int), (0 : Int)))))).2.1) then (some (13 : Int)) else ((loopF (F22_l44 n (loopF (F22_l42 n f_Ends ahead) n42) f_Ends x_2 y_4) n44) (IntKind.wrap .i64 (x_4 + (1 : Int))))) else ((loopF (F22_l44 n (loopF (F22_l42 n f_Ends ahead) n42) f_Ends x_2 y_4) n44) (IntKind.wrap .i64 (x_4 + (1 : Int))))) else none) else ((loopF (F22_l42 n f_Ends ahead) n42) (IntKind.wrap .i64 (x_2 + (1 : Int))))) = some r := h
                      refine TS.seq ?_
                      have hq : (True) ∧ (True) := ⟨trivial, trivial⟩
                      refine TS.reg [] ?_ ?_
                      · apply prop_of ?_ hq
                        kernel_rfl
                      refine XS.then ?_
                      refine TS.seq ?_
                      rcases bif_some h with ⟨c28, h⟩ | ⟨c29, h⟩
                      · refine TS.cond (decide (x_4 < (((y_4 ++ (f_Ends.take x_2.toNat)).length : Nat) : Int))) ?_ (fun hcz => ?_) (fun hcz => by rw [c28] at hcz; cases hcz)
                        · kernel_rfl
                        refine TS.skip ?_
                        refine XS.then ?_
                        refine TS.seq ?_
                        refine TS.block ?_
                        refine TS.seq ?_
                        obtain ⟨t30, h⟩ := test_some h
                        have hq : (inR x_4 ((y_4 ++ (f_Ends.take x_2.toNat)).length)) ∧ ((x_4.toNat < (y_4 ++ (f_Ends.take x_2.toNat)).length ∧ (True)) ∧ ((True) ∧ ((True) ∧ (True)))) := ⟨inb_ok t30, ⟨⟨inR_lt (inb_ok t30), trivial⟩, ⟨trivial, ⟨trivial, trivial⟩⟩⟩⟩
                        refine TS.reg [] ?_ ?_
                        · apply prop_of ?_ hq
                          kernel_rfl
                        refine XS.then ?_
                        refine TS.seq ?_
                        rcases bif_some h with ⟨c31, h⟩ | ⟨c32, h⟩
                        · have hq : (True) ∧ ((True) ∧ ((True) ∧ ((True) ∧ ((True) ∧ (((True) ∧ (((y_4 ++ (f_Ends.take x_2.toNat)).getD x_4.toNat ((0 : Int), (false, ((0 : Int), ((0 : Int), (0 : Int)))))).1 == (f_Ends.getD x_2.toNat ((0 : Int), (false, ((0 : Int), ((0 : Int), (0 : Int)))))).1) = true) ∧ ((True) ∧ ((True) ∧ ((True) ∧ ((True) ∧ ((True) ∧ ((True) ∧ (True)))))))))))) := ⟨trivial, ⟨trivial, ⟨trivial, ⟨trivial, ⟨trivial, ⟨⟨trivial, c31⟩, ⟨trivial, ⟨trivial, ⟨trivial, ⟨trivial, ⟨trivial, ⟨trivial, trivial⟩⟩⟩⟩⟩⟩⟩⟩⟩⟩⟩⟩
                          refine TS.reg [.none, .none, .none, .none, .none, .dec true] ?_ ?_
                          · apply prop_of ?_ hq
                            kernel_rfl
                          refine XS.then ?_
                          rcases bif_some h with ⟨c33, h⟩ | ⟨c34, h⟩
                          · refine TS.cond (((y_4 ++ (f_Ends.take x_2.toNat)).getD x_4.toNat ((0 : Int), (false, ((0 : Int), ((0 : Int), (0 : Int)))))).2.1 == (f_Ends.getD x_2.toNat ((0 : Int), (false, ((0 : Int), ((0 : Int), (0 : Int)))))).2.1) ?_ (fun hcz => ?_) (fun hcz => by rw [c33] at hcz; cases hcz)
                            · kernel_rfl
                            refine TS.seq ?_
                            have hq : (True) ∧ (True) := ⟨trivial, trivial⟩
                            refine TS.reg [] ?_ ?_
                            · apply prop_of ?_ hq
                              kernel_rfl
                            refine XS.then ?_
                            refine TS.ret ?_
                            refine XS.blockRet ?_
                            refine XS.passR ?_
                            refine XS.passR ?_
                            refine XS.blockRet ?_
                            refine XS.blockRet ?_
                            refine XS.passR ?_
                            refine XS.passR ?_
                            refine XS.blockRet ?_
                            refine XS.passR ?_
                            obtain rfl : (13 : Int) = r := Option.some.inj h
                            exact XS.fin [] ((True) ∧ (True)) (by kernel_rfl) ⟨trivial, trivial⟩
                          · refine TS.cond (((y_4 ++ (f_Ends.take x_2.toNat)).getD x_4.toNat ((0 : Int), (false, ((0 : Int), ((0 : Int), (0 : Int)))))).2.1 == (f_Ends.getD x_2.toNat ((0 : Int), (false, ((0 : Int), ((0 : Int), (0 : Int)))))).2.1) ?_ (fun hcz => by rw [c34] at hcz; cases hcz) (fun hcz => ?_)
                            · kernel_rfl
                            refine TS.skip ?_
                            refine XS.blockEnd ?_
                            refine XS.then ?_
                            have hq : (True) ∧ ((True) ∧ (True)) := ⟨trivial, ⟨trivial, trivial⟩⟩
                            refine TS.reg [] ?_ ?_
                            · apply prop_of ?_ hq
                              kernel_rfl
                            refine XS.reAny [0, 1, 2] (mkMask 117 [1, 2, 10, 62, 63, 64, 97, 98, 99]) (IntKind.wrap .i64 (x_4 + (1 : Int))) h ?_
                            kernel_rfl
                        · have hq : (True) ∧ ((True) ∧ ((True) ∧ ((True) ∧ ((True) ∧ (((True) ∧ (((y_4 ++ (f_Ends.take x_2.toNat)).getD x_4.toNat ((0 : Int), (false, ((0 : Int), ((0 : Int), (0 : Int)))))).1 == (f_Ends.getD x_2.toNat ((0 : Int), (false, ((0 : Int), ((0 : Int), (0 : Int)))))).1) = false) ∧ ((True) ∧ (True))))))) := ⟨trivial, ⟨trivial, ⟨trivial, ⟨trivial, ⟨trivial, ⟨⟨trivial, c32⟩, ⟨trivial, trivial⟩⟩⟩⟩⟩⟩⟩
                          refine TS.reg [.none, .none, .none, .none, .none, .dec false] ?_ ?_
                          · apply prop_of ?_ hq
                            kernel_rfl
                          refine XS.then ?_
                          refine TS.no ?_ ?_
                          · kernel_rfl
                          refine TS.skip ?_
                          refine XS.blockEnd ?_
                          refine XS.then ?_
                          have hq : (True) ∧ ((True) ∧ (True)) := ⟨trivial, ⟨trivial, trivial⟩⟩
                          refine TS.reg [] ?_ ?_
                          · apply prop_of ?_ hq
                            kernel_rfl
                          refine XS.reAny [0, 1, 2] (mkMask 117 [1, 2, 10, 62, 63, 64, 97, 98, 99]) (IntKind.wrap .i64 (x_4 + (1 : Int))) h ?_
                          kernel_rfl
                      · refine TS.cond (decide (x_4 < (((y_4 ++ (f_Ends.take x_2.toNat)).length : Nat) : Int))) ?_ (fun hcz => by rw [c29] at hcz; cases hcz) (fun hcz => ?_)
                        · kernel_rfl
                        refine TS.exit ?_
                        refine XS.passE ?_
                        refine XS.passE ?_
                        refine XS.out ?_
                        refine XS.blockEnd ?_
                        refine XS.then ?_
                        have hq : (True) ∧ ((True) ∧ (True)) := ⟨trivial, ⟨trivial, trivial⟩⟩
                        refine TS.reg [] ?_ ?_
                        · apply prop_of ?_ hq
                          kernel_rfl
                        refine XS.reAny [0] (mkMask 117 [1, 2, 62, 63, 64]) (IntKind.wrap .i64 (x_2 + (1 : Int))) h ?_
                        kernel_rfl
                · obtain ⟨y_5, hx35, h⟩ := bind_some' h
                  rcases bif_some h with ⟨c36, h⟩ | ⟨c37, h⟩
                  · have hq : (True) ∧ ((True) ∧ ((PureC Try.prog 49 [(.int .i64 (f_Ends.getD x_2.toNat ((0 : Int), (false, ((0 : Int), ((0 : Int), (0 : Int)))))).1), (.int .i64 (1 : Int)), (.int .i64 (15 : Int))] (.bool y_5) []) ∧ ((True) ∧ (((True) ∧ (!y_5) = true) ∧ ((True) ∧ ((True) ∧ ((True) ∧ ((True) ∧ ((True) ∧ (True)))))))))) := ⟨trivial, ⟨trivial, ⟨F49_ok n ((f_Ends.getD x_2.toNat ((0 : Int), (false, ((0 : Int), ((0 : Int), (0 : Int)))))).1) (1 : Int) (15 : Int) y_5 hx35, ⟨trivial, ⟨⟨trivial, c36⟩, ⟨trivial, ⟨trivial, ⟨trivial, ⟨trivial, ⟨trivial, trivial⟩⟩⟩⟩⟩⟩⟩⟩⟩⟩
                    refine TS.reg [.none, .none, (.call (.bool y_5) []), .none, .dec true] ?_ ?_
                    · apply prop_of ?_ hq
                      kernel_rfl
                    refine XS.reAny [0, 1] (mkMask 117 [1, 2, 9, 10, 62, 63, 64, 90]) true h ?_
                    kernel_rfl
                  · obtain ⟨y_6, hx38, h⟩ := bind_some' h
                    rcases bif_some h with ⟨c39, h⟩ | ⟨c40, h⟩
                    · have hq : (True) ∧ ((True) ∧ ((PureC Try.prog 49 [(.int .i64 (f_Ends.getD x_2.toNat ((0 : Int), (false, ((0 : Int), ((0 : Int), (0 : Int)))))).1), (.int .i64 (1 : Int)), (.int .i64 (15 : Int))] (.bool y_5) []) ∧ ((True) ∧ (((True) ∧ (!y_5) = false) ∧ ((True) ∧ ((True) ∧ ((PureC Try.prog 49 [(.int .i64 (f_Ends.getD x_2.toNat ((0 : Int), (false, ((0 : Int), ((0 : Int), (0 : Int)))))).2.2.1), (.int .i64 (0 : Int)), (.int .i64 (3 : Int))] (.bool y_6) []) ∧ ((True) ∧ ((True) ∧ (((True) ∧ (!y_6) = true) ∧ ((True) ∧ ((True) ∧ ((True) ∧ (True)))))))))))))) := ⟨trivial, ⟨trivial, ⟨F49_ok n ((f_Ends.getD x_2.toNat ((0 : Int), (false, ((0 : Int), ((0 : Int), (0 : Int)))))).1) (1 : Int) (15 : Int) y_5 hx35, ⟨trivial, ⟨⟨trivial, c37⟩, ⟨trivial, ⟨trivial, ⟨F49_ok n ((f_Ends.getD x_2.toNat ((0 : Int), (false, ((0 : Int), ((0 : Int), (0 : Int)))))).2.2.1) (0 : Int) (3 : Int) y_6 hx38, ⟨trivial, ⟨trivial, ⟨⟨trivial, c39⟩, ⟨trivial, ⟨trivial, ⟨trivial, trivial⟩⟩⟩⟩⟩⟩⟩⟩⟩⟩⟩⟩⟩⟩
                      refine TS.reg [.none, .none, (.call (.bool y_5) []), .none, .dec false, .none, .none, (.call (.bool y_6) []), .none, .none, .dec true] ?_ ?_
                      · apply prop_of ?_ hq
                        kernel_rfl
                      refine XS.reAny [0, 1] (mkMask 117 [1, 2, 9, 10, 62, 63, 64, 90]) true h ?_
                      kernel_rfl
                    · obtain ⟨y_7, hx41, h⟩ := bind_some' h
                      rcases bif_some h with ⟨c42, h⟩ | ⟨c43, h⟩
                      · have hq : (True) ∧ ((True) ∧ ((PureC Try.prog 49 [(.int .i64 (f_Ends.getD x_2.toNat ((0 : Int), (false, ((0 : Int), ((0 : Int), (0 : Int)))))).1), (.int .i64 (1 : Int)), (.int .i64 (15 : Int))] (.bool y_5) []) ∧ ((True) ∧ (((True) ∧ (!y_5) = false) ∧ ((True) ∧ ((True) ∧ ((PureC Try.prog 49 [(.int .i64 (f_Ends.getD x_2.toNat ((0 : Int), (false, ((0 : Int), ((0 : Int), (0 : Int)))))).2.2.1), (.int .i64 (0 : Int)), (.int .i64 (3 : Int))] (.bool y_6) []) ∧ ((True) ∧ ((True) ∧ (((True) ∧ (!y_6) = false) ∧ ((True) ∧ ((True) ∧ ((PureC Try.prog 49 [(.int .i64 (f_Ends.getD x_2.toNat ((0 : Int), (false, ((0 : Int), ((0 : Int), (0 : Int)))))).2.2.2.1), (.int .i64 (1 : Int)), (.int .i64 (64 : Int))] (.bool y_7) []) ∧ ((True) ∧ ((True) ∧ (((True) ∧ (!y_7) = true) ∧ ((True) ∧ (True)))))))))))))))))) := ⟨trivial, ⟨trivial, ⟨F49_ok n ((f_Ends.getD x_2.toNat ((0 : Int), (false, ((0 : Int), ((0 : Int), (0 : Int)))))).1) (1 : Int) (15 : Int) y_5 hx35, ⟨trivial, ⟨⟨trivial, c37⟩, ⟨trivial, ⟨trivial, ⟨F49_ok n ((f_Ends.getD x_2.toNat ((0 : Int), (false, ((0 : Int), ((0 : Int), (0 : Int)))))).2.2.1) (0 : Int) (3 : Int) y_6 hx38, ⟨trivial, ⟨trivial, ⟨⟨trivial, c40⟩, ⟨trivial, ⟨trivial, ⟨F49_ok n ((f_Ends.getD x_2.toNat ((0 : Int), (false, ((0 : Int), ((0 : Int), (0 : Int)))))).2.2.2.1) (1 : Int) (64 : Int) y_7 hx41, ⟨trivial, ⟨trivial, ⟨⟨trivial, c42⟩, ⟨trivial, trivial⟩⟩⟩⟩⟩⟩⟩⟩⟩⟩⟩⟩⟩⟩⟩⟩⟩⟩
                        refine TS.reg [.none, .none, (.call (.bool y_5) []), .none, .dec false, .none, .none, (.call (.bool y_6) []), .none, .none, .dec false, .none, .none, (.call (.bool y_7) []), .none, .none, .dec true] ?_ ?_
                        · apply prop_of ?_ hq
                          kernel_rfl
                        refine XS.reAny [0, 1] (mkMask 117 [1, 2, 9, 10, 62, 63, 64, 90]) true h ?_
                        kernel_rfl
                      · obtain ⟨y_8, hx44, h⟩ := bind_some' h
                        have hq : (True) ∧ ((True) ∧ ((PureC Try.prog 49 [(.int .i64 (f_Ends.getD x_2.toNat ((0 : Int), (false, ((0 : Int), ((0 : Int), (0 : Int)))))).1), (.int .i64 (1 : Int)), (.int .i64 (15 : Int))] (.bool y_5) []) ∧ ((True) ∧ (((True) ∧ (!y_5) = false) ∧ ((True) ∧ ((True) ∧ ((PureC Try.prog 49 [(.int .i64 (f_Ends.getD x_2.toNat ((0 : Int), (false, ((0 : Int), ((0 : Int), (0 : Int)))))).2.2.1), (.int .i64 (0 : Int)), (.int .i64 (3 : Int))] (.bool y_6) []) ∧ ((True) ∧ ((True) ∧ (((True) ∧ (!y_6) = false) ∧ ((True) ∧ ((True) ∧ ((PureC Try.prog 49 [(.int .i64 (f_Ends.getD x_2.toNat ((0 : Int), (false, ((0 : Int), ((0 : Int), (0 : Int)))))).2.2.2.1), (.int .i64 (1 : Int)), (.int .i64 (64 : Int))] (.bool y_7) []) ∧ ((True) ∧ ((True) ∧ (((True) ∧ (!y_7) = false) ∧ ((True) ∧ ((True) ∧ ((PureC Try.prog 49 [(.int .i64 (f_Ends.getD x_2.toNat ((0 : Int), (false, ((0 : Int), ((0 : Int), (0 : Int)))))).2.2.2.2), (.int .i64 (0 : Int)), (.int .i64 (255 : Int))] (.bool y_8) []) ∧ ((True) ∧ ((True) ∧ (True)))))))))))))))))))))) := ⟨trivial, ⟨trivial, ⟨F49_ok n ((f_Ends.getD x_2.toNat ((0 : Int), (false, ((0 : Int), ((0 : Int), (0 : Int)))))).1) (1 : Int) (15 : Int) y_5 hx35, ⟨trivial, ⟨⟨trivial, c37⟩, ⟨trivial, ⟨trivial, ⟨F49_ok n ((f_Ends.getD x_2.toNat ((0 : Int), (false, ((0 : Int), ((0 : Int), (0 : Int)))))).2.2.1) (0 : Int) (3 : Int) y_6 hx38, ⟨trivial, ⟨trivial, ⟨⟨trivial, c40⟩, ⟨trivial, ⟨trivial, ⟨F49_ok n ((f_Ends.getD x_2.toNat ((0 : Int), (false, ((0 : Int), ((0 : Int), (0 : Int)))))).2.2.2.1) (1 : Int) (64 : Int) y_7 hx41, ⟨trivial, ⟨trivial, ⟨⟨trivial, c43⟩, ⟨trivial, ⟨trivial, ⟨F49_ok n ((f_Ends.getD x_2.toNat ((0 : Int), (false, ((0 : Int), ((0 : Int), (0 : Int)))))).2.2.2.2) (0 : Int) (255 : Int) y_8 hx44, ⟨trivial, ⟨trivial, trivial⟩⟩⟩⟩⟩⟩⟩⟩⟩⟩⟩⟩⟩⟩⟩⟩⟩⟩⟩⟩⟩⟩
                        refine TS.reg [.none, .none, (.call (.bool y_5) []), .none, .dec false, .none, .none, (.call (.bool y_6) []), .none, .none, .dec false, .none, .none, (.call (.bool y_7) []), .none, .none, .dec false, .none, .none, (.call (.bool y_8) [])] ?_ ?_
                        · apply prop_of ?_ hq
                          kernel_rfl
                        refine XS.reAny [0, 1] (mkMask 117 [1, 2, 9, 10, 62, 63, 64, 90]) (!y_8) h ?_
                        kernel_rfl
              · refine TS.cond (decide (x_2 < ((f_Ends.length : Nat) : Int))) ?_ (fun hcz => by rw [c21] at hcz; cases hcz) (fun hcz => ?_)
                · kernel_rfl
                refine TS.exit ?_
                refine XS.passE ?_
                refine XS.passE ?_
                refine XS.out ?_
                refine XS.then ?_
                refine TS.seq ?_
                have hq : (True) ∧ (True) := ⟨trivial, trivial⟩
                refine TS.reg [] ?_ ?_
                · apply prop_of ?_ hq
                  kernel_rfl
                refine XS.then ?_
                refine TS.ret ?_
                obtain rfl : (0 : Int) = r := Option.some.inj h
                exact XS.fin [] ((True) ∧ (True)) (by kernel_rfl) ⟨trivial, trivial⟩

/-! plugtree/plugref.TwoBytes -/
def F23 (n : Nat) (vn : Int) : Option (List UInt8) := (some (strOf [(IntKind.wrap .u8 ((vn.tmod (256 : Int)))), (IntKind.wrap .u8 (((IntKind.wrap .i64 (vn.tdiv (256 : Int))).tmod (256 : Int))))]))
theorem F23_ok (n : Nat) (vn : Int) (r : List UInt8) (h : F23 n vn = some r) : PureC Try.prog 23 [(.int .i64 vn)] (.str r) [] := by
  refine PureC.mkS Try.func23 rfl rfl ?_
  intro w0 fz0 hfz
  replace h : (some (strOf [(IntKind.wrap .u8 ((vn.tmod (256 : Int)))), (IntKind.wrap .u8 (((IntKind.wrap .i64 (vn.tdiv (256 : Int))).tmod (256 : Int))))])) = some r := h
  refine TS.seq ?_
  have hq : (True) ∧ (True) := ⟨trivial, trivial⟩
  refine TS.reg [] ?_ ?_
  · apply prop_of ?_ hq
    kernel_rfl
  refine XS.then ?_
  refine TS.seq ?_
  have hq : (True) ∧ (((256 : Int) ≠ 0) ∧ ((True) ∧ ((True) ∧ (((256 : Int) ≠ 0) ∧ (((256 : Int) ≠ 0) ∧ ((True) ∧ (((0 < 2 ∧ True) ∧ ((1 < 2 ∧ True) ∧ (True))) ∧ ((True) ∧ ((True) ∧ (True)))))))))) := ⟨trivial, ⟨by decide, ⟨trivial, ⟨trivial, ⟨by decide, ⟨by decide, ⟨trivial, ⟨⟨⟨by decide, trivial⟩, ⟨⟨by decide, trivial⟩, trivial⟩⟩, ⟨trivial, ⟨trivial, trivial⟩⟩⟩⟩⟩⟩⟩⟩⟩⟩
  refine TS.reg [] ?_ ?_
  · apply prop_of ?_ hq
    kernel_rfl
  refine XS.then ?_
  refine TS.ret ?_
  obtain rfl : (strOf [(IntKind.wrap .u8 ((vn.tmod (256 : Int)))), (IntKind.wrap .u8 (((IntKind.wrap .i64 (vn.tdiv (256 : Int))).tmod (256 : Int))))]) = r := Option.some.inj h
  exact XS.fin [] ((True) ∧ (True)) (by kernel_rfl) ⟨trivial, trivial⟩

/-! plugtree/plugref.ConfigText -/
def F8_j26 (n : Nat) (k8_25 : ((List UInt8) × Int) → Option ((List UInt8) × Int)) (c_Faces : List (Int × Int × Int × Int × (List (List UInt8)) × List (Int × Bool × Int × Int × Int))) (x : Int) (rest_2 : List UInt8) (x_2 : Int) : Int → Option ((List UInt8) × Int)
  | a => ((F21 n ([(7 : Int), (5 : Int), a, (((c_Faces.getD x.toNat ((0 : Int), ((0 : Int), ((0 : Int), ((0 : Int), (([] : List (List UInt8)), ([] : List (Int × Bool × Int × Int × Int)))))))).2.2.2.2.2).getD x_2.toNat ((0 : Int), (false, ((0 : Int), ((0 : Int), (0 : Int)))))).2.2.1, (((c_Faces.getD x.toNat ((0 : Int), ((0 : Int), ((0 : Int), ((0 : Int), (([] : List (List UInt8)), ([] : List (Int × Bool × Int × Int × Int)))))))).2.2.2.2.2).getD x_2.toNat ((0 : Int), (false, ((0 : Int), ((0 : Int), (0 : Int)))))).2.2.2.1, (0 : Int), (((c_Faces.getD x.toNat ((0 : Int), ((0 : Int), ((0 : Int), ((0 : Int), (([] : List (List UInt8)), ([] : List (Int × Bool × Int × Int × Int)))))))).2.2.2.2.2).getD x_2.toNat ((0 : Int), (false, ((0 : Int), ((0 : Int), (0 : Int)))))).2.2.2.2])).bind fun y_7 => (bif (decide (rest_2.length + y_7.1.length ≤ 9223372036854775807)) then (k8_25 ((rest_2 ++ y_7.1), (IntKind.wrap .i64 (x_2 + (1 : Int))))) else none))
def F8_l25 (n : Nat) (k8_22 : ((List UInt8) × Int × (List (Int × Bool × Int × Int × Int))) → Option ((List UInt8) × Int)) (c_Faces : List (Int × Int × Int × Int × (List (List UInt8)) × List (Int × Bool × Int × Int × Int))) (x : Int) (m1 : List (Int × Bool × Int × Int × Int)) (k8_25 : ((List UInt8) × Int) → Option ((List UInt8) × Int)) : ((List UInt8) × Int) → Option ((List UInt8) × Int)
  | (rest_2, x_2) => (bif (decide (x_2 < ((((c_Faces.getD x.toNat ((0 : Int), ((0 : Int), ((0 : Int), ((0 : Int), (([] : List (List UInt8)), ([] : List (Int × Bool × Int × Int × Int)))))))).2.2.2.2.2).length : Nat) : Int))) then (bif inb x_2 (((c_Faces.getD x.toNat ((0 : Int), ((0 : Int), ((0 : Int), ((0 : Int), (([] : List (List UInt8)), ([] : List (Int × Bool × Int × Int × Int)))))))).2.2.2.2.2).length) then (bif (((c_Faces.getD x.toNat ((0 : Int), ((0 : Int), ((0 : Int), ((0 : Int), (([] : List (List UInt8)), ([] : List (Int × Bool × Int × Int × Int)))))))).2.2.2.2.2).getD x_2.toNat ((0 : Int), (false, ((0 : Int), ((0 : Int), (0 : Int)))))).2.1 then (F8_j26 n k8_25 c_Faces x rest_2 x_2 (IntKind.wrap .i64 ((((c_Faces.getD x.toNat ((0 : Int), ((0 : Int), ((0 : Int), ((0 : Int), (([] : List (List UInt8)), ([] : List (Int × Bool × Int × Int × Int)))))))).2.2.2.2.2).getD x_2.toNat ((0 : Int), (false, ((0 : Int), ((0 : Int), (0 : Int)))))).1 + (128 : Int)))) else (F8_j26 n k8_25 c_Faces x rest_2 x_2 (((c_Faces.getD x.toNat ((0 : Int), ((0 : Int), ((0 : Int), ((0 : Int), (([] : List (List UInt8)), ([] : List (Int × Bool × Int × Int × Int)))))))).2.2.2.2.2).getD x_2.toNat ((0 : Int), (false, ((0 : Int), ((0 : Int), (0 : Int)))))).1)) else none) else (k8_22 (rest_2, (IntKind.wrap .i64 (x + (1 : Int))), (m1 ++ (c_Faces.getD x.toNat ((0 : Int), ((0 : Int), ((0 : Int), ((0 : Int), (([] : List (List UInt8)), ([] : List (Int × Bool × Int × Int × Int)))))))).2.2.2.2.2))))
def F8_l22 (n : Nat) (c_Faces : List (Int × Int × Int × Int × (List (List UInt8)) × List (Int × Bool × Int × Int × Int))) (y_3 : (List UInt8) × Bool) (k8_22 : ((List UInt8) × Int × (List (Int × Bool × Int × Int × Int))) → Option ((List UInt8) × Int)) : ((List UInt8) × Int × (List (Int × Bool × Int × Int × Int))) → Option ((List UInt8) × Int)
  | (rest, x, m1) => (bif (decide (x < ((c_Faces.length : Nat) : Int))) then (bif inb x c_Faces.length then ((F22 n ((c_Faces.getD x.toNat ((0 : Int), ((0 : Int), ((0 : Int), ((0 : Int), (([] : List (List UInt8)), ([] : List (Int × Bool × Int × Int × Int)))))))).1) ((c_Faces.getD x.toNat ((0 : Int), ((0 : Int), ((0 : Int), ((0 : Int), (([] : List (List UInt8)), ([] : List (Int × Bool × Int × Int × Int)))))))).2.1) ((c_Faces.getD x.toNat ((0 : Int), ((0 : Int), ((0 : Int), ((0 : Int), (([] : List (List UInt8)), ([] : List (Int × Bool × Int × Int × Int)))))))).2.2.1) ((c_Faces.getD x.toNat ((0 : Int), ((0 : Int), ((0 : Int), ((0 : Int), (([] : List (List UInt8)), ([] : List (Int × Bool × Int × Int × Int)))))))).2.2.2.1) ((c_Faces.getD x.toNat ((0 : Int), ((0 : Int), ((0 : Int), ((0 : Int), (([] : List (List UInt8)), ([] : List (Int × Bool × Int × Int × Int)))))))).2.2.2.2.1) ((c_Faces.getD x.toNat ((0 : Int), ((0 : Int), ((0 : Int), ((0 : Int), (([] : List (List UInt8)), ([] : List (Int × Bool × Int × Int × Int)))))))).2.2.2.2.2) m1).bind fun y_4 => (bif (y_4 != (0 : Int)) then (some (([] : List UInt8), y_4)) else (bif (decide (m1.length + ((c_Faces.getD x.toNat ((0 : Int), ((0 : Int), ((0 : Int), ((0 : Int), (([] : List (List UInt8)), ([] : List (Int × Bool × Int × Int × Int)))))))).2.2.2.2.2).length ≤ 3518437208883)) then ((F21 n ([(9 : Int), (4 : Int), x, (0 : Int), ((((c_Faces.getD x.toNat ((0 : Int), ((0 : Int), ((0 : Int), ((0 : Int), (([] : List (List UInt8)), ([] : List (Int × Bool × Int × Int × Int)))))))).2.2.2.2.2).length : Nat) : Int), (c_Faces.getD x.toNat ((0 : Int), ((0 : Int), ((0 : Int), ((0 : Int), (([] : List (List UInt8)), ([] : List (Int × Bool × Int × Int × Int)))))))).1, (c_Faces.getD x.toNat ((0 : Int), ((0 : Int), ((0 : Int), ((0 : Int), (([] : List (List UInt8)), ([] : List (Int × Bool × Int × Int × Int)))))))).2.1, (c_Faces.getD x.toNat ((0 : Int), ((0 : Int), ((0 : Int), ((0 : Int), (([] : List (List UInt8)), ([] : List (Int × Bool × Int × Int × Int)))))))).2.2.1, (c_Faces.getD x.toNat ((0 : Int), ((0 : Int), ((0 : Int), ((0 : Int), (([] : List (List UInt8)), ([] : List (Int × Bool × Int × Int × Int)))))))).2.2.2.1])).bind fun y_5 => ((F19 n ((c_Faces.getD x.toNat ((0 : Int), ((0 : Int), ((0 : Int), ((0 : Int), (([] : List (List UInt8)), ([] : List (Int × Bool × Int × Int × Int)))))))).2.2.2.2.1) ([] : List UInt8)).bind fun y_6 => (bif (decide (y_5.1.length + y_6.length ≤ 9223372036854775807)) then (bif (decide (rest.length + (y_5.1 ++ y_6).length ≤ 9223372036854775807)) then (loopF (F8_l25 n k8_22 c_Faces x m1) n ((rest ++ (y_5.1 ++ y_6)), (0 : Int))) else none) else none))) else none))) else none) else ((F21 n [((c_Faces.length : Nat) : Int)]).bind fun y_8 => ((F23 n (IntKind.wrap .i64 ((9 : Int) + ((rest.length : Nat) : Int)))).bind fun y_9 => (bif (decide (([9, 2] : List UInt8).length + y_9.length ≤ 9223372036854775807)) then (bif (decide ((([9, 2] : List UInt8) ++ y_9).length + y_8.1.length ≤ 9223372036854775807)) then (bif (decide (((([9, 2] : List UInt8) ++ y_9) ++ y_8.1).length + y_3.1.length ≤ 9223372036854775807)) then (bif (decide ((((([9, 2] : List UInt8) ++ y_9) ++ y_8.1) ++ y_3.1).length + rest.length ≤ 9223372036854775807)) then (some (((((([9, 2] : List UInt8) ++ y_9) ++ y_8.1) ++ y_3.1) ++ rest), (0 : Int))) else none) else none) else none) else none))))
def F8 (n : Nat) (c_Value : Int) (c_Name : Int) (c_Attr : Int) (c_Power : Int) (c_Faces : List (Int × Int × Int × Int × (List (List UInt8)) × List (Int × Bool × Int × Int × Int))) : Option ((List UInt8) × Int) := ((F21 n [c_Value, c_Name, c_Attr, c_Power]).bind fun y_3 => (bif (!y_3.2) then (some (([] : List UInt8), (1 : Int))) else (bif (c_Value == (0 : Int)) then (some (([] : List UInt8), (1 : Int))) else (bif (decide (((c_Faces.length : Nat) : Int) > (4 : Int))) then (some (([] : List UInt8), (2 : Int))) else (loopF (F8_l22 n c_Faces y_3) n (([] : List UInt8), (0 : Int), ([] : List (Int × Bool × Int × Int × Int))))))))
theorem F8_ok (n : Nat) (c_Value : Int) (c_Name : Int) (c_Attr : Int) (c_Power : Int) (c_Faces : List (Int × Int × Int × Int × (List (List UInt8)) × List (Int × Bool × Int × Int × Int))) (r : (List UInt8) × Int) (h : F8 n c_Value c_Name c_Attr c_Power c_Faces = some r) : PureC Try.prog 8 [(.st (.cons (.int .i64 c_Value) (.cons (.int .i64 c_Name) (.cons (.int .i64 c_Attr) (.cons (.int .i64 c_Power) (.sl (.st (.pair (.int .i64) (.pair (.int .i64) (.pair (.int .i64) (.pair (.int .i64) (.pair (.sl .str) (.sl (.st (.pair (.int .i64) (.pair .bool (.pair (.int .i64) (.pair (.int .i64) (.int .i64))))))))))))) c_Faces))))))] (.tup (.cons (.str r.1) (.cons (.int .i64 r.2) .nil))) [] := by
  refine PureC.mkS Try.func8 rfl rfl ?_
  intro w0 fz0 hfz
  replace h : ((F21 n [c_Value, c_Name, c_Attr, c_Power]).bind fun y_3 => (bif (!y_3.2) then (some (([] : List UInt8), (1 : Int))) else (bif (c_Value == (0 : Int)) then (some (([] : List UInt8), (1 : Int))) else (bif (decide (((c_Faces.length : Nat) : Int) > (4 : Int))) then (some (([] : List UInt8), (2 : Int))) else (loopF (F8_l22 n c_Faces y_3) n (([] : List UInt8), (0 : Int), ([] : List (Int × Bool × Int × Int × Int)))))))) = some r := h
  refine TS.seq ?_
  have hq : (True) ∧ ((True) ∧ ((True) ∧ (True))) := ⟨trivial, ⟨trivial, ⟨trivial, trivial⟩⟩⟩
  refine TS.reg [] ?_ ?_
  · apply prop_of ?_ hq
    kernel_rfl
  refine XS.then ?_
  refine TS.seq ?_
  obtain ⟨y_3, hx1, h⟩ := bind_some' h
  have hq : (True) ∧ ((True) ∧ ((True) ∧ ((True) ∧ ((True) ∧ ((True) ∧ ((True) ∧ ((True) ∧ (((0 < 4 ∧ True) ∧ ((1 < 4 ∧ True) ∧ ((2 < 4 ∧ True) ∧ ((3 < 4 ∧ True) ∧ (True))))) ∧ ((((True) ∧ (True)) ∧ PureC Try.prog 21 [(.sl (.int .i64) [c_Value, c_Name, c_Attr, c_Power])] (.tup (.cons (.str y_3.1) (.cons (.bool y_3.2) .nil))) []) ∧ ((True) ∧ ((True) ∧ ((True) ∧ ((True) ∧ ((True) ∧ (True))))))))))))))) := ⟨trivial, ⟨trivial, ⟨trivial, ⟨trivial, ⟨trivial, ⟨trivial, ⟨trivial, ⟨trivial, ⟨⟨⟨by decide, trivial⟩, ⟨⟨by decide, trivial⟩, ⟨⟨by decide, trivial⟩, ⟨⟨by decide, trivial⟩, trivial⟩⟩⟩⟩, ⟨⟨⟨trivial, trivial⟩, F21_ok n [c_Value, c_Name, c_Attr, c_Power] y_3 hx1⟩, ⟨trivial, ⟨trivial, ⟨trivial, ⟨trivial, ⟨trivial, trivial⟩⟩⟩⟩⟩⟩⟩⟩⟩⟩⟩⟩⟩⟩⟩
  refine TS.reg [.none, .none, .none, .none, .none, .none, .none, .none, .none, (.call (.tup (.cons (.str y_3.1) (.cons (.bool y_3.2) .nil))) [])] ?_ ?_
  · apply prop_of ?_ hq
    kernel_rfl
  refine XS.then ?_
  refine TS.seq ?_
  refine TS.seq ?_
  rcases bif_some h with ⟨c2, h⟩ | ⟨c3, h⟩
  · have hq : (True) ∧ ((True) ∧ (((True) ∧ (!y_3.2) = true) ∧ ((True) ∧ (True)))) := ⟨trivial, ⟨trivial, ⟨⟨trivial, c2⟩, ⟨trivial, trivial⟩⟩⟩⟩
    refine TS.reg [.none, .none, .dec true] ?_ ?_
    · apply prop_of ?_ hq
      kernel_rfl
    refine XS.then ?_
    refine TS.yes ?_ ?_
    · kernel_rfl
    refine TS.seq ?_
    have hq : (True) ∧ ((True) ∧ (True)) := ⟨trivial, ⟨trivial, trivial⟩⟩
    refine TS.reg [] ?_ ?_
    · apply prop_of ?_ hq
      kernel_rfl
    refine XS.then ?_
    refine TS.ret ?_
    refine XS.passR ?_
    obtain rfl : (([] : List UInt8), (1 : Int)) = r := Option.some.inj h
    exact XS.fin [] ((True) ∧ ((True) ∧ (True))) (by kernel_rfl) ⟨trivial, ⟨trivial, trivial⟩⟩
  · have hq : (True) ∧ ((True) ∧ (((True) ∧ (!y_3.2) = false) ∧ ((True) ∧ ((True) ∧ ((True) ∧ ((True) ∧ (True))))))) := ⟨trivial, ⟨trivial, ⟨⟨trivial, c3⟩, ⟨trivial, ⟨trivial, ⟨trivial, ⟨trivial, trivial⟩⟩⟩⟩⟩⟩⟩
    refine TS.reg [.none, .none, .dec false] ?_ ?_
    · apply prop_of ?_ hq
      kernel_rfl
    refine XS.then ?_
    rcases bif_some h with ⟨c4, h⟩ | ⟨c5, h⟩
    · refine TS.cond (c_Value == (0 : Int)) ?_ (fun hcz => ?_) (fun hcz => by rw [c4] at hcz; cases hcz)
      · kernel_rfl
      refine TS.seq ?_
      have hq : (True) ∧ ((True) ∧ (True)) := ⟨trivial, ⟨trivial, trivial⟩⟩
      refine TS.reg [] ?_ ?_
      · apply prop_of ?_ hq
        kernel_rfl
      refine XS.then ?_
      refine TS.ret ?_
      refine XS.passR ?_
      obtain rfl : (([] : List UInt8), (1 : Int)) = r := Option.some.inj h
      exact XS.fin [] ((True) ∧ ((True) ∧ (True))) (by kernel_rfl) ⟨trivial, ⟨trivial, trivial⟩⟩
    · refine TS.cond (c_Value == (0 : Int)) ?_ (fun hcz => by rw [c5] at hcz; cases hcz) (fun hcz => ?_)
      · kernel_rfl
      refine TS.skip ?_
      refine XS.then ?_
      refine TS.seq ?_
      refine TS.seq ?_
      have hq : (True) ∧ ((True) ∧ ((True) ∧ ((True) ∧ (True)))) := ⟨trivial, ⟨trivial, ⟨trivial, ⟨trivial, trivial⟩⟩⟩⟩
      refine TS.reg [] ?_ ?_
      · apply prop_of ?_ hq
        kernel_rfl
      refine XS.then ?_
      rcases bif_some h with ⟨c6, h⟩ | ⟨c7, h⟩
      · refine TS.cond (decide (((c_Faces.length : Nat) : Int) > (4 : Int))) ?_ (fun hcz => ?_) (fun hcz => by rw [c6] at hcz; cases hcz)
        · kernel_rfl
        refine TS.seq ?_
        have hq : (True) ∧ ((True) ∧ (True)) := ⟨trivial, ⟨trivial, trivial⟩⟩
        refine TS.reg [] ?_ ?_
        · apply prop_of ?_ hq
          kernel_rfl
        refine XS.then ?_
        refine TS.ret ?_
        refine XS.passR ?_
        obtain rfl : (([] : List UInt8), (2 : Int)) = r := Option.some.inj h
        exact XS.fin [] ((True) ∧ ((True) ∧ (True))) (by kernel_rfl) ⟨trivial, ⟨trivial, trivial⟩⟩
      · refine TS.cond (decide (((c_Faces.length : Nat) : Int) > (4 : Int))) ?_ (fun hcz => by rw [c7] at hcz; cases hcz) (fun hcz => ?_)
        · kernel_rfl
        refine TS.skip ?_
        refine XS.then ?_
        refine TS.seq ?_
        have hq : (True) ∧ (True) := ⟨trivial, trivial⟩
        refine TS.reg [] ?_ ?_
        · apply prop_of ?_ hq
          kernel_rfl
        refine XS.then ?_
        refine TS.seq ?_
        have hq : (True) ∧ (True) := ⟨trivial, trivial⟩
        refine TS.reg [] ?_ ?_
        · apply prop_of ?_ hq
          kernel_rfl
        refine XS.then ?_
        refine TS.seq ?_
        refine TS.seq ?_
        have hq : (True) ∧ ((True) ∧ ((True) ∧ ((True) ∧ (True)))) := ⟨trivial, ⟨trivial, ⟨trivial, ⟨trivial, trivial⟩⟩⟩⟩
        refine TS.reg [] ?_ ?_
        · apply prop_of ?_ hq
          kernel_rfl
        refine XS.then ?_
        refine TS.block ?_
        refine TS.wk (.row false 6 [] 54 (.st (.pair (.int .i64) (.pair .bool (.pair (.int .i64) (.pair (.int .i64) (.int .i64))))))) ?_
        refine TS.reLoop [0, 2] (mkMask 135 [1, 4, 6, 7, 45, 46, 47]) (D := (List UInt8) × Int × (List (Int × Bool × Int × Int × Int))) (fun d => match d with | (rest, x, m1) => (mkTs 135 [(1, (.ptr 0 [])), (4, (.str y_3.1)), (6, (.row 1)), (7, (.str rest)), (45, (.sl (.st (.pair (.int .i64) (.pair (.int .i64) (.pair (.int .i64) (.pair (.int .i64) (.pair (.sl .str) (.sl (.st (.pair (.int .i64) (.pair .bool (.pair (.int .i64) (.pair (.int .i64) (.int .i64))))))))))))) c_Faces)), (46, (.int .i64 ((c_Faces.length : Nat) : Int))), (47, (.int .i64 x))], [(.box 24 (.st (.cons (.int .i64 c_Value) (.cons (.int .i64 c_Name) (.cons (.int .i64 c_Attr) (.cons (.int .i64 c_Power) (.sl (.st (.pair (.int .i64) (.pair (.int .i64) (.pair (.int .i64) (.pair (.int .i64) (.pair (.sl .str) (.sl (.st (.pair (.int .i64) (.pair .bool (.pair (.int .i64) (.pair (.int .i64) (.int .i64))))))))))))) c_Faces))))))), (.row 54 (.st (.pair (.int .i64) (.pair .bool (.pair (.int .i64) (.pair (.int .i64) (.int .i64)))))) m1)])) (fun n' d => loopF (F8_l22 n c_Faces y_3) n' d = some r) n (([] : List UInt8), (0 : Int), ([] : List (Int × Bool × Int × Int × Int))) h ?_ (fun d => loopF_zero _ d r) ?_
        · kernel_rfl
        · rintro n22 ⟨rest, x, m1⟩ h
          replace h : (bif (decide (x < ((c_Faces.length : Nat) : Int))) then (bif inb x c_Faces.length then ((F22 n ((c_Faces.getD x.toNat ((0 : Int), ((0 : Int), ((0 : Int), ((0 : Int), (([] : List (List UInt8)), ([] : List (Int × Bool × Int × Int × Int)))))))).1) ((c_Faces.getD x.toNat ((0 : Int), ((0 : Int), ((0 : Int), ((0 : Int), (([] : List (List UInt8)), ([] : List (Int × Bool × Int × Int × Int)))))))).2.1) ((c_Faces.getD x.toNat ((0 : Int), ((0 : Int), ((0 : Int), ((0 : Int), (([] : List (List UInt8)), ([] : List (Int × Bool × Int × Int × Int)))))))).2.2.1) ((c_Faces.getD x.toNat ((0 : Int), ((0 : Int), ((0 : Int), ((0 : Int), (([] : List (List UInt8)), ([] : List (Int × Bool × Int × Int × Int)))))))).2.2.2.1) ((c_Faces.getD x.toNat ((0 : Int), ((0 : Int), ((0 : Int), ((0 : Int), (([] : List (List UInt8)), ([] : List (Int × Bool × Int × Int × Int)))))))).2.2.2.2.1) ((c_Faces.getD x.toNat ((0 : Int), ((0 : Int), ((0 : Int), ((0 : Int), (([] : List (List UInt8)), ([] : List (Int × Bool × Int × Int × Int)))))))).2.2.2.2.2) m1).bind fun y_4 => (bif (y_4 != (0 : Int)) then (some (([] : List UInt8), y_4)) else (bif (decide (m1.length + ((c_Faces.getD x.toNat ((0 : Int), ((0 : Int), ((0 : Int), ((0 : Int), (([] : List (List UInt8)), ([] : List (Int × Bool × Int × Int × Int)))))))).2.2.2.2.2).length ≤ 3518437208883)) then ((F21 n ([(9 : Int), (4 : Int), x, (0 : Int), ((((c_Faces.getD x.toNat ((0 : Int), ((0 : Int), ((0 : Int), ((0 : Int), (([] : List (List UInt8)), ([] : List (Int × Bool × Int × Int × Int)))))))).2.2.2.2.2).length : Nat) : Int), (c_Faces.getD x.toNat ((0 : Int), ((0 : Int), ((0 : Int), ((0 : Int), (([] : List (List UInt8)), ([] : List (Int × Bool × Int × Int × Int)))))))).1, (c_Faces.getD x.toNat ((0 : Int), ((0 : Int), ((0 : Int), ((0 : Int), (([] : List (List UInt8)), ([] : List (Int × Bool × Int × Int × Int)))))))).2.1, (c_Faces.getD x.toNat ((0 : Int), ((0 : Int), ((0 : Int), ((0 : Int), (([] : List (List UInt8)), ([] : List (Int × Bool × Int × Int × Int)))))))).2.2.1, (c_Faces.getD x.toNat ((0 : Int), ((0 : Int), ((0 : Int), ((0 : Int), (([] : List (List UInt8)), ([] : List (Int × Bool × Int × Int × Int)))))))).2.2.2.1])).bind fun y_5 => ((F19 n ((c_Faces.getD x.toNat ((0 : Int), ((0 : Int), ((0 : Int), ((0 : Int), (([] : List (List UInt8)), ([] : List (Int × Bool × Int × Int × Int)))))))).2.2.2.2.1) ([] : List UInt8)).bind fun y_6 => (bif (decide (y_5.1.length + y_6.length ≤ 9223372036854775807)) then (bif (decide (rest.length + (y_5.1 ++ y_6).length ≤ 9223372036854775807)) then (loopF (F8_l25 n (loopF (F8_l22 n c_Faces y_3) n22) c_Faces x m1) n ((rest ++ (y_5.1 ++ y_6)), (0 : Int))) else none) else none))) else none))) else none) else ((F21 n [((c_Faces.length : Nat) : Int)]).bind fun y_8 => ((F23 n (IntKind.wrap .i64 ((9 : Int) + ((rest.length : Nat) : Int)))).bind fun y_9 => (bif (decide (([9, 2] : List UInt8).length + y_9.length ≤ 9223372036854775807)) then (bif (decide ((([9, 2] : List UInt8) ++ y_9).length + y_8.1.length ≤ 9223372036854775807)) then (bif (decide (((([9, 2] : List UInt8) ++ y_9) ++ y_8.1).length + y_3.1.length ≤ 9223372036854775807)) then (bif (decide ((((([9, 2] : List UInt8) ++ y_9) ++ y_8.1) ++ y_3.1).length + rest.length ≤ 9223372036854775807)) then (some (((((([9, 2] : List UInt8) ++ y_9) ++ y_8.1) ++ y_3.1) ++ rest), (0 : Int))) else none) else none) else none) else none)))) = some r := h
          refine TS.seq ?_
          have hq : (True) ∧ (True) := ⟨trivial, trivial⟩
          refine TS.reg [] ?_ ?_
          · apply prop_of ?_ hq
            kernel_rfl
          refine XS.then ?_
          refine TS.seq ?_
          rcases bif_some h with ⟨c8, h⟩ | ⟨c9, h⟩
          · refine TS.cond (decide (x < ((c_Faces.length : Nat) : Int))) ?_ (fun hcz => ?_) (fun hcz => by rw [c8] at hcz; cases hcz)
            · kernel_rfl
            refine TS.skip ?_
            refine XS.then ?_
            refine TS.seq ?_
            refine TS.block ?_
            refine TS.seq ?_
            obtain ⟨t10, h⟩ := test_some h
            have hq : (True) ∧ ((inR x c_Faces.length) ∧ ((True) ∧ ((True) ∧ ((True) ∧ ((True) ∧ (True)))))) := ⟨trivial, ⟨inb_ok t10, ⟨trivial, ⟨trivial, ⟨trivial, ⟨trivial, trivial⟩⟩⟩⟩⟩⟩
            refine TS.reg [] ?_ ?_
            · apply prop_of ?_ hq
              kernel_rfl
            refine XS.then ?_
            refine TS.seq ?_
            refine TS.seq ?_
            obtain ⟨y_4, hx11, h⟩ := bind_some' h
            have hq : (True) ∧ ((True) ∧ (((((True) ∧ ((True) ∧ ((True) ∧ ((True) ∧ ((True) ∧ (True)))))) ∧ ((True) ∧ (True))) ∧ PureC Try.prog 22 [(.st (.cons (.int .i64 (c_Faces.getD x.toNat ((0 : Int), ((0 : Int), ((0 : Int), ((0 : Int), (([] : List (List UInt8)), ([] : List (Int × Bool × Int × Int × Int)))))))).1) (.cons (.int .i64 (c_Faces.getD x.toNat ((0 : Int), ((0 : Int), ((0 : Int), ((0 : Int), (([] : List (List UInt8)), ([] : List (Int × Bool × Int × Int × Int)))))))).2.1) (.cons (.int .i64 (c_Faces.getD x.toNat ((0 : Int), ((0 : Int), ((0 : Int), ((0 : Int), (([] : List (List UInt8)), ([] : List (Int × Bool × Int × Int × Int)))))))).2.2.1) (.cons (.int .i64 (c_Faces.getD x.toNat ((0 : Int), ((0 : Int), ((0 : Int), ((0 : Int), (([] : List (List UInt8)), ([] : List (Int × Bool × Int × Int × Int)))))))).2.2.2.1) (.cons (.sl .str (c_Faces.getD x.toNat ((0 : Int), ((0 : Int), ((0 : Int), ((0 : Int), (([] : List (List UInt8)), ([] : List (Int × Bool × Int × Int × Int)))))))).2.2.2.2.1) (.sl (.st (.pair (.int .i64) (.pair .bool (.pair (.int .i64) (.pair (.int .i64) (.int .i64)))))) (c_Faces.getD x.toNat ((0 : Int), ((0 : Int), ((0 : Int), ((0 : Int), (([] : List (List UInt8)), ([] : List (Int × Bool × Int × Int × Int)))))))).2.2.2.2.2))))))), (.sl (.st (.pair (.int .i64) (.pair .bool (.pair (.int .i64) (.pair (.int .i64) (.int .i64)))))) m1)] (.int .i64 y_4) []) ∧ ((True) ∧ (True)))) := ⟨trivial, ⟨trivial, ⟨⟨⟨⟨trivial, ⟨trivial, ⟨trivial, ⟨trivial, ⟨trivial, trivial⟩⟩⟩⟩⟩, ⟨trivial, trivial⟩⟩, F22_ok n ((c_Faces.getD x.toNat ((0 : Int), ((0 : Int), ((0 : Int), ((0 : Int), (([] : List (List UInt8)), ([] : List (Int × Bool × Int × Int × Int)))))))).1) ((c_Faces.getD x.toNat ((0 : Int), ((0 : Int), ((0 : Int), ((0 : Int), (([] : List (List UInt8)), ([] : List (Int × Bool × Int × Int × Int)))))))).2.1) ((c_Faces.getD x.toNat ((0 : Int), ((0 : Int), ((0 : Int), ((0 : Int), (([] : List (List UInt8)), ([] : List (Int × Bool × Int × Int × Int)))))))).2.2.1) ((c_Faces.getD x.toNat ((0 : Int), ((0 : Int), ((0 : Int), ((0 : Int), (([] : List (List UInt8)), ([] : List (Int × Bool × Int × Int × Int)))))))).2.2.2.1) ((c_Faces.getD x.toNat ((0 : Int), ((0 : Int), ((0 : Int), ((0 : Int), (([] : List (List UInt8)), ([] : List (Int × Bool × Int × Int × Int)))))))).2.2.2.2.1) ((c_Faces.getD x.toNat ((0 : Int), ((0 : Int), ((0 : Int), ((0 : Int), (([] : List (List UInt8)), ([] : List (Int × Bool × Int × Int × Int)))))))).2.2.2.2.2) m1 y_4 hx11⟩, ⟨trivial, trivial⟩⟩⟩⟩
            refine TS.reg [.none, .none, (.call (.int .i64 y_4) [])] ?_ ?_
            · apply prop_of ?_ hq
              kernel_rfl
            refine XS.then ?_
            refine TS.seq ?_
            have hq : (True) ∧ ((True) ∧ (True)) := ⟨trivial, ⟨trivial, trivial⟩⟩
            refine TS.reg [] ?_ ?_
            · apply prop_of ?_ hq
              kernel_rfl
            refine XS.then ?_
            rcases bif_some h with ⟨c12, h⟩ | ⟨c13, h⟩
            · refine TS.cond (y_4 != (0 : Int)) ?_ (fun hcz => ?_) (fun hcz => by rw [c12] at hcz; cases hcz)
              · kernel_rfl
              refine TS.seq ?_
              have hq : (True) ∧ ((True) ∧ ((True) ∧ (True))) := ⟨trivial, ⟨trivial, ⟨trivial, trivial⟩⟩⟩
              refine TS.reg [] ?_ ?_
              · apply prop_of ?_ hq
                kernel_rfl
              refine XS.then ?_
              refine TS.ret ?_
              refine XS.passR ?_
              refine XS.blockRet ?_
              refine XS.passR ?_
              refine XS.passR ?_
              refine XS.blockRet ?_
              refine XS.passR ?_
              obtain rfl : (([] : List UInt8), y_4) = r := Option.some.inj h
              exact XS.fin [] ((True) ∧ ((True) ∧ (True))) (by kernel_rfl) ⟨trivial, ⟨trivial, trivial⟩⟩
            · refine TS.cond (y_4 != (0 : Int)) ?_ (fun hcz => by rw [c13] at hcz; cases hcz) (fun hcz => ?_)
              · kernel_rfl
              refine TS.skip ?_
              refine XS.then ?_
              refine TS.seq ?_
              obtain ⟨t14, h⟩ := test_some h
              have hq : (True) ∧ ((True) ∧ ((True) ∧ ((m1.length + ((c_Faces.getD x.toNat ((0 : Int), ((0 : Int), ((0 : Int), ((0 : Int), (([] : List (List UInt8)), ([] : List (Int × Bool × Int × Int × Int)))))))).2.2.2.2.2).length ≤ 3518437208883) ∧ ((True) ∧ (True))))) := ⟨trivial, ⟨trivial, ⟨trivial, ⟨of_decide_eq_true t14, ⟨trivial, trivial⟩⟩⟩⟩⟩
              refine TS.reg [] ?_ ?_
              · apply prop_of ?_ hq
                kernel_rfl
              refine XS.then ?_
              refine TS.seq ?_
              obtain ⟨y_5, hx15, h⟩ := bind_some' h
              have hq : (True) ∧ ((True) ∧ ((True) ∧ ((True) ∧ ((True) ∧ ((True) ∧ ((True) ∧ ((True) ∧ ((True) ∧ ((True) ∧ ((True) ∧ ((True) ∧ (((0 < 9 ∧ True) ∧ ((1 < 9 ∧ True) ∧ ((2 < 9 ∧ True) ∧ ((3 < 9 ∧ True) ∧ ((4 < 9 ∧ True) ∧ ((5 < 9 ∧ True) ∧ ((6 < 9 ∧ True) ∧ ((7 < 9 ∧ True) ∧ ((8 < 9 ∧ True) ∧ (True)))))))))) ∧ ((((True) ∧ (True)) ∧ PureC Try.prog 21 [(.sl (.int .i64) [(9 : Int), (4 : Int), x, (0 : Int), ((((c_Faces.getD x.toNat ((0 : Int), ((0 : Int), ((0 : Int), ((0 : Int), (([] : List (List UInt8)), ([] : List (Int × Bool × Int × Int × Int)))))))).2.2.2.2.2).length : Nat) : Int), (c_Faces.getD x.toNat ((0 : Int), ((0 : Int), ((0 : Int), ((0 : Int), (([] : List (List UInt8)), ([] : List (Int × Bool × Int × Int × Int)))))))).1, (c_Faces.getD x.toNat ((0 : Int), ((0 : Int), ((0 : Int), ((0 : Int), (([] : List (List UInt8)), ([] : List (Int × Bool × Int × Int × Int)))))))).2.1, (c_Faces.getD x.toNat ((0 : Int), ((0 : Int), ((0 : Int), ((0 : Int), (([] : List (List UInt8)), ([] : List (Int × Bool × Int × Int × Int)))))))).2.2.1, (c_Faces.getD x.toNat ((0 : Int), ((0 : Int), ((0 : Int), ((0 : Int), (([] : List (List UInt8)), ([] : List (Int × Bool × Int × Int × Int)))))))).2.2.2.1])] (.tup (.cons (.str y_5.1) (.cons (.bool y_5.2) .nil))) []) ∧ ((True) ∧ ((True) ∧ ((True) ∧ ((True) ∧ ((True) ∧ (True))))))))))))))))))) := ⟨trivial, ⟨trivial, ⟨trivial, ⟨trivial, ⟨trivial, ⟨trivial, ⟨trivial, ⟨trivial, ⟨trivial, ⟨trivial, ⟨trivial, ⟨trivial, ⟨⟨⟨by decide, trivial⟩, ⟨⟨by decide, trivial⟩, ⟨⟨by decide, trivial⟩, ⟨⟨by decide, trivial⟩, ⟨⟨by decide, trivial⟩, ⟨⟨by decide, trivial⟩, ⟨⟨by decide, trivial⟩, ⟨⟨by decide, trivial⟩, ⟨⟨by decide, trivial⟩, trivial⟩⟩⟩⟩⟩⟩⟩⟩⟩, ⟨⟨⟨trivial, trivial⟩, F21_ok n ([(9 : Int), (4 : Int), x, (0 : Int), ((((c_Faces.getD x.toNat ((0 : Int), ((0 : Int), ((0 : Int), ((0 : Int), (([] : List (List UInt8)), ([] : List (Int × Bool × Int × Int × Int)))))))).2.2.2.2.2).length : Nat) : Int), (c_Faces.getD x.toNat ((0 : Int), ((0 : Int), ((0 : Int), ((0 : Int), (([] : List (List UInt8)), ([] : List (Int × Bool × Int × Int × Int)))))))).1, (c_Faces.getD x.toNat ((0 : Int), ((0 : Int), ((0 : Int), ((0 : Int), (([] : List (List UInt8)), ([] : List (Int × Bool × Int × Int × Int)))))))).2.1, (c_Faces.getD x.toNat ((0 : Int), ((0 : Int), ((0 : Int), ((0 : Int), (([] : List (List UInt8)), ([] : List (Int × Bool × Int × Int × Int)))))))).2.2.1, (c_Faces.getD x.toNat ((0 : Int), ((0 : Int), ((0 : Int), ((0 : Int), (([] : List (List UInt8)), ([] : List (Int × Bool × Int × Int × Int)))))))).2.2.2.1]) y_5 hx15⟩, ⟨trivial, ⟨trivial, ⟨trivial, ⟨trivial, ⟨trivial, trivial⟩⟩⟩⟩⟩⟩⟩⟩⟩⟩⟩⟩⟩⟩⟩⟩⟩⟩⟩
              refine TS.reg [.none, .none, .none, .none, .none, .none, .none, .none, .none, .none, .none, .none, .none, (.call (.tup (.cons (.str y_5.1) (.cons (.bool y_5.2) .nil))) [])] ?_ ?_
              · apply prop_of ?_ hq
                kernel_rfl
              refine XS.then ?_
              refine TS.seq ?_
              obtain ⟨y_6, hx16, h⟩ := bind_some' h
              obtain ⟨t17, h⟩ := test_some h
              obtain ⟨t18, h⟩ := test_some h
              have hq : (True) ∧ ((True) ∧ ((True) ∧ ((True) ∧ ((PureC Try.prog 19 [(.sl .str (c_Faces.getD x.toNat ((0 : Int), ((0 : Int), ((0 : Int), ((0 : Int), (([] : List (List UInt8)), ([] : List (Int × Bool × Int × Int × Int)))))))).2.2.2.2.1), (.str ([] : List UInt8))] (.str y_6) []) ∧ ((y_5.1.length + y_6.length ≤ 9223372036854775807) ∧ ((rest.length + (y_5.1 ++ y_6).length ≤ 9223372036854775807) ∧ ((True) ∧ (True)))))))) := ⟨trivial, ⟨trivial, ⟨trivial, ⟨trivial, ⟨F19_ok n ((c_Faces.getD x.toNat ((0 : Int), ((0 : Int), ((0 : Int), ((0 : Int), (([] : List (List UInt8)), ([] : List (Int × Bool × Int × Int × Int)))))))).2.2.2.2.1) ([] : List UInt8) y_6 hx16, ⟨of_decide_eq_true t17, ⟨of_decide_eq_true t18, ⟨trivial, trivial⟩⟩⟩⟩⟩⟩⟩⟩
              refine TS.reg [.none, .none, .none, .none, (.call (.str y_6) [])] ?_ ?_
              · apply prop_of ?_ hq
                kernel_rfl
              refine XS.then ?_
              refine TS.seq ?_
              have hq : (True) ∧ ((True) ∧ ((True) ∧ ((True) ∧ (True)))) := ⟨trivial, ⟨trivial, ⟨trivial, ⟨trivial, trivial⟩⟩⟩⟩
              refine TS.reg [] ?_ ?_
              · apply prop_of ?_ hq
                kernel_rfl
              refine XS.then ?_
              refine TS.block ?_
              refine TS.reLoop [0, 3] (mkMask 135 [1, 4, 6, 7, 45, 46, 47, 87, 88, 89]) (D := (List UInt8) × Int) (fun d => match d with | (rest_2, x_2) => (mkTs 135 [(1, (.ptr 0 [])), (4, (.str y_3.1)), (6, (.row 1)), (7, (.str rest_2)), (45, (.sl (.st (.pair (.int .i64) (.pair (.int .i64) (.pair (.int .i64) (.pair (.int .i64) (.pair (.sl .str) (.sl (.st (.pair (.int .i64) (.pair .bool (.pair (.int .i64) (.pair (.int .i64) (.int .i64))))))))))))) c_Faces)), (46, (.int .i64 ((c_Faces.length : Nat) : Int))), (47, (.int .i64 x)), (87, (.sl (.st (.pair (.int .i64) (.pair .bool (.pair (.int .i64) (.pair (.int .i64) (.int .i64)))))) (c_Faces.getD x.toNat ((0 : Int), ((0 : Int), ((0 : Int), ((0 : Int), (([] : List (List UInt8)), ([] : List (Int × Bool × Int × Int × Int)))))))).2.2.2.2.2)), (88, (.int .i64 ((((c_Faces.getD x.toNat ((0 : Int), ((0 : Int), ((0 : Int), ((0 : Int), (([] : List (List UInt8)), ([] : List (Int × Bool × Int × Int × Int)))))))).2.2.2.2.2).length : Nat) : Int))), (89, (.int .i64 x_2))], [(.box 24 (.st (.cons (.int .i64 c_Value) (.cons (.int .i64 c_Name) (.cons (.int .i64 c_Attr) (.cons (.int .i64 c_Power) (.sl (.st (.pair (.int .i64) (.pair (.int .i64) (.pair (.int .i64) (.pair (.int .i64) (.pair (.sl .str) (.sl (.st (.pair (.int .i64) (.pair .bool (.pair (.int .i64) (.pair (.int .i64) (.int .i64))))))))))))) c_Faces))))))), (.row 54 (.st (.pair (.int .i64) (.pair .bool (.pair (.int .i64) (.pair (.int .i64) (.int .i64)))))) (m1 ++ (c_Faces.getD x.toNat ((0 : Int), ((0 : Int), ((0 : Int), ((0 : Int), (([] : List (List UInt8)), ([] : List (Int × Bool × Int × Int × Int)))))))).2.2.2.2.2))])) (fun n' d => loopF (F8_l25 n (loopF (F8_l22 n c_Faces y_3) n22) c_Faces x m1) n' d = some r) n ((rest ++ (y_5.1 ++ y_6)), (0 : Int)) h ?_ (fun d => loopF_zero _ d r) ?_
              · kernel_rfl
              · rintro n25 ⟨rest_2, x_2⟩ h
                replace h : (bif (decide (x_2 < ((((c_Faces.getD x.toNat ((0 : Int), ((0 : Int), ((0 : Int), ((0 : Int), (([] : List (List UInt8)), ([] : List (Int × Bool × Int × Int × Int)))))))).2.2.2.2.2).length : Nat) : Int))) then (bif inb x_2 (((c_Faces.getD x.toNat ((0 : Int), ((0 : Int), ((0 : Int), ((0 : Int), (([] : List (List UInt8)), ([] : List (Int × Bool × Int × Int × Int)))))))).2.2.2.2.2).length) then (bif (((c_Faces.getD x.toNat ((0 : Int), ((0 : Int), ((0 : Int), ((0 : Int), (([] : List (List UInt8)), ([] : List (Int × Bool × Int × Int × Int)))))))).2.2.2.2.2).getD x_2.toNat ((0 : Int), (false, ((0 : Int), ((0 : Int), (0 : Int)))))).2.1 then (F8_j26 n (loopF (F8_l25 n (loopF (F8_l22 n c_Faces y_3) n22) c_Faces x m1) n25) c_Faces x rest_2 x_2 (IntKind.wrap .i64 ((((c_Faces.getD x.toNat ((0 : Int), ((0 : Int), ((0 : Int), ((0 : Int), (([] : List (List UInt8)), ([] : List (Int × Bool × Int × Int × Int)))))))).2.2.2.2.2).getD x_2.toNat ((0 : Int), (false, ((0 : Int), ((0 : Int), (0 : Int)))))).1 + (128 : Int)))) else (F8_j26 n (loopF (F8_l25 n (loopF (F8_l22 n c_Faces y_3) n22) c_Faces x m1) n25) c_Faces x rest_2 x_2 (((c_Faces.getD x.toNat ((0 : Int), ((0 : Int), ((0 : Int), ((0 : Int), (([] : List (List UInt8)), ([] : List (Int × Bool × Int × Int × Int)))))))).2.2.2.2.2).getD x_2.toNat ((0 : Int), (false, ((0 : Int), ((0 : Int), (0 : Int)))))).1)) else none) else ((loopF (F8_l22 n c_Faces y_3) n22) (rest_2, (IntKind.wrap .i64 (x + (1 : Int))), (m1 ++ (c_Faces.getD x.toNat ((0 : Int), ((0 : Int), ((0 : Int), ((0 : Int), (([] : List (List UInt8)), ([] : List (Int × Bool × Int × Int × Int)))))))).2.2.2.2.2)))) = some r := h
                refine TS.seq ?_
                have hq : (True) ∧ (True) := ⟨trivial, trivial⟩
                refine TS.reg [] ?_ ?_
                · apply prop_of ?_ hq
                  kernel_rfl
                refine XS.then ?_
                refine TS.seq ?_
                rcases bif_some h with ⟨c19, h⟩ | ⟨c20, h⟩
                · refine TS.cond (decide (x_2 < ((((c_Faces.getD x.toNat ((0 : Int), ((0 : Int), ((0 : Int), ((0 : Int), (([] : List (List UInt8)), ([] : List (Int × Bool × Int × Int × Int)))))))).2.2.2.2.2).length : Nat) : Int))) ?_ (fun hcz => ?_) (fun hcz => by rw [c19] at hcz; cases hcz)
                  · kernel_rfl
                  refine TS.skip ?_
                  refine XS.then ?_
                  refine TS.seq ?_
                  refine TS.block ?_
                  refine TS.seq ?_
                  obtain ⟨t21, h⟩ := test_some h
                  have hq : (inR x_2 (((c_Faces.getD x.toNat ((0 : Int), ((0 : Int), ((0 : Int), ((0 : Int), (([] : List (List UInt8)), ([] : List (Int × Bool × Int × Int × Int)))))))).2.2.2.2.2).length)) ∧ ((True) ∧ ((True) ∧ ((True) ∧ (True)))) := ⟨inb_ok t21, ⟨trivial, ⟨trivial, ⟨trivial, trivial⟩⟩⟩⟩
                  refine TS.reg [] ?_ ?_
                  · apply prop_of ?_ hq
                    kernel_rfl
                  refine XS.then ?_
                  refine TS.seq ?_
                  have hq : (True) ∧ ((True) ∧ ((True) ∧ (True))) := ⟨trivial, ⟨trivial, ⟨trivial, trivial⟩⟩⟩
                  refine TS.reg [] ?_ ?_
                  · apply prop_of ?_ hq
                    kernel_rfl
                  refine XS.then ?_
                  refine TS.seq ?_
                  refine TS.seq ?_
                  have hq : (True) ∧ ((True) ∧ (True)) := ⟨trivial, ⟨trivial, trivial⟩⟩
                  refine TS.reg [] ?_ ?_
                  · apply prop_of ?_ hq
                    kernel_rfl
                  refine XS.then ?_
                  refine TS.cut (D := Int) (fun d => match d with | a => (mkTs 135 [(1, (.ptr 0 [])), (4, (.str y_3.1)), (6, (.row 1)), (7, (.str rest_2)), (14, (.ptr 2 [])), (15, (.int .i64 a)), (45, (.sl (.st (.pair (.int .i64) (.pair (.int .i64) (.pair (.int .i64) (.pair (.int .i64) (.pair (.sl .str) (.sl (.st (.pair (.int .i64) (.pair .bool (.pair (.int .i64) (.pair (.int .i64) (.int .i64))))))))))))) c_Faces)), (46, (.int .i64 ((c_Faces.length : Nat) : Int))), (47, (.int .i64 x)), (87, (.sl (.st (.pair (.int .i64) (.pair .bool (.pair (.int .i64) (.pair (.int .i64) (.int .i64)))))) (c_Faces.getD x.toNat ((0 : Int), ((0 : Int), ((0 : Int), ((0 : Int), (([] : List (List UInt8)), ([] : List (Int × Bool × Int × Int × Int)))))))).2.2.2.2.2)), (88, (.int .i64 ((((c_Faces.getD x.toNat ((0 : Int), ((0 : Int), ((0 : Int), ((0 : Int), (([] : List (List UInt8)), ([] : List (Int × Bool × Int × Int × Int)))))))).2.2.2.2.2).length : Nat) : Int))), (89, (.int .i64 x_2))], [(.box 24 (.st (.cons (.int .i64 c_Value) (.cons (.int .i64 c_Name) (.cons (.int .i64 c_Attr) (.cons (.int .i64 c_Power) (.sl (.st (.pair (.int .i64) (.pair (.int .i64) (.pair (.int .i64) (.pair (.int .i64) (.pair (.sl .str) (.sl (.st (.pair (.int .i64) (.pair .bool (.pair (.int .i64) (.pair (.int .i64) (.int .i64))))))))))))) c_Faces))))))), (.row 54 (.st (.pair (.int .i64) (.pair .bool (.pair (.int .i64) (.pair (.int .i64) (.int .i64)))))) (m1 ++ (c_Faces.getD x.toNat ((0 : Int), ((0 : Int), ((0 : Int), ((0 : Int), (([] : List (List UInt8)), ([] : List (Int × Bool × Int × Int × Int)))))))).2.2.2.2.2)), (.box 54 (.st (.cons (.int .i64 (((c_Faces.getD x.toNat ((0 : Int), ((0 : Int), ((0 : Int), ((0 : Int), (([] : List (List UInt8)), ([] : List (Int × Bool × Int × Int × Int)))))))).2.2.2.2.2).getD x_2.toNat ((0 : Int), (false, ((0 : Int), ((0 : Int), (0 : Int)))))).1) (.cons (.bool (((c_Faces.getD x.toNat ((0 : Int), ((0 : Int), ((0 : Int), ((0 : Int), (([] : List (List UInt8)), ([] : List (Int × Bool × Int × Int × Int)))))))).2.2.2.2.2).getD x_2.toNat ((0 : Int), (false, ((0 : Int), ((0 : Int), (0 : Int)))))).2.1) (.cons (.int .i64 (((c_Faces.getD x.toNat ((0 : Int), ((0 : Int), ((0 : Int), ((0 : Int), (([] : List (List UInt8)), ([] : List (Int × Bool × Int × Int × Int)))))))).2.2.2.2.2).getD x_2.toNat ((0 : Int), (false, ((0 : Int), ((0 : Int), (0 : Int)))))).2.2.1) (.cons (.int .i64 (((c_Faces.getD x.toNat ((0 : Int), ((0 : Int), ((0 : Int), ((0 : Int), (([] : List (List UInt8)), ([] : List (Int × Bool × Int × Int × Int)))))))).2.2.2.2.2).getD x_2.toNat ((0 : Int), (false, ((0 : Int), ((0 : Int), (0 : Int)))))).2.2.2.1) (.int .i64 (((c_Faces.getD x.toNat ((0 : Int), ((0 : Int), ((0 : Int), ((0 : Int), (([] : List (List UInt8)), ([] : List (Int × Bool × Int × Int × Int)))))))).2.2.2.2.2).getD x_2.toNat ((0 : Int), (false, ((0 : Int), ((0 : Int), (0 : Int)))))).2.2.2.2)))))))])) (fun d => F8_j26 n (loopF (F8_l25 n (loopF (F8_l22 n c_Faces y_3) n22) c_Faces x m1) n25) c_Faces x rest_2 x_2 d = some r) ?_ ?_
                  · rintro a h
                    replace h : ((F21 n ([(7 : Int), (5 : Int), a, (((c_Faces.getD x.toNat ((0 : Int), ((0 : Int), ((0 : Int), ((0 : Int), (([] : List (List UInt8)), ([] : List (Int × Bool × Int × Int × Int)))))))).2.2.2.2.2).getD x_2.toNat ((0 : Int), (false, ((0 : Int), ((0 : Int), (0 : Int)))))).2.2.1, (((c_Faces.getD x.toNat ((0 : Int), ((0 : Int), ((0 : Int), ((0 : Int), (([] : List (List UInt8)), ([] : List (Int × Bool × Int × Int × Int)))))))).2.2.2.2.2).getD x_2.toNat ((0 : Int), (false, ((0 : Int), ((0 : Int), (0 : Int)))))).2.2.2.1, (0 : Int), (((c_Faces.getD x.toNat ((0 : Int), ((0 : Int), ((0 : Int), ((0 : Int), (([] : List (List UInt8)), ([] : List (Int × Bool × Int × Int × Int)))))))).2.2.2.2.2).getD x_2.toNat ((0 : Int), (false, ((0 : Int), ((0 : Int), (0 : Int)))))).2.2.2.2])).bind fun y_7 => (bif (decide (rest_2.length + y_7.1.length ≤ 9223372036854775807)) then ((loopF (F8_l25 n (loopF (F8_l22 n c_Faces y_3) n22) c_Faces x m1) n25) ((rest_2 ++ y_7.1), (IntKind.wrap .i64 (x_2 + (1 : Int))))) else none)) = some r := h
                    refine XS.then ?_
                    refine TS.seq ?_
                    obtain ⟨y_7, hx22, h⟩ := bind_some' h
                    have hq : (True) ∧ ((True) ∧ ((True) ∧ ((True) ∧ ((True) ∧ ((True) ∧ ((True) ∧ (((0 < 7 ∧ True) ∧ ((1 < 7 ∧ True) ∧ ((2 < 7 ∧ True) ∧ ((3 < 7 ∧ True) ∧ ((4 < 7 ∧ True) ∧ ((5 < 7 ∧ True) ∧ ((6 < 7 ∧ True) ∧ (True)))))))) ∧ ((((True) ∧ (True)) ∧ PureC Try.prog 21 [(.sl (.int .i64) [(7 : Int), (5 : Int), a, (((c_Faces.getD x.toNat ((0 : Int), ((0 : Int), ((0 : Int), ((0 : Int), (([] : List (List UInt8)), ([] : List (Int × Bool × Int × Int × Int)))))))).2.2.2.2.2).getD x_2.toNat ((0 : Int), (false, ((0 : Int), ((0 : Int), (0 : Int)))))).2.2.1, (((c_Faces.getD x.toNat ((0 : Int), ((0 : Int), ((0 : Int), ((0 : Int), (([] : List (List UInt8)), ([] : List (Int × Bool × Int × Int × Int)))))))).2.2.2.2.2).getD x_2.toNat ((0 : Int), (false, ((0 : Int), ((0 : Int), (0 : Int)))))).2.2.2.1, (0 : Int), (((c_Faces.getD x.toNat ((0 : Int), ((0 : Int), ((0 : Int), ((0 : Int), (([] : List (List UInt8)), ([] : List (Int × Bool × Int × Int × Int)))))))).2.2.2.2.2).getD x_2.toNat ((0 : Int), (false, ((0 : Int), ((0 : Int), (0 : Int)))))).2.2.2.2])] (.tup (.cons (.str y_7.1) (.cons (.bool y_7.2) .nil))) []) ∧ ((True) ∧ ((True) ∧ ((True) ∧ ((True) ∧ ((True) ∧ (True)))))))))))))) := ⟨trivial, ⟨trivial, ⟨trivial, ⟨trivial, ⟨trivial, ⟨trivial, ⟨trivial, ⟨⟨⟨by decide, trivial⟩, ⟨⟨by decide, trivial⟩, ⟨⟨by decide, trivial⟩, ⟨⟨by decide, trivial⟩, ⟨⟨by decide, trivial⟩, ⟨⟨by decide, trivial⟩, ⟨⟨by decide, trivial⟩, trivial⟩⟩⟩⟩⟩⟩⟩, ⟨⟨⟨trivial, trivial⟩, F21_ok n ([(7 : Int), (5 : Int), a, (((c_Faces.getD x.toNat ((0 : Int), ((0 : Int), ((0 : Int), ((0 : Int), (([] : List (List UInt8)), ([] : List (Int × Bool × Int × Int × Int)))))))).2.2.2.2.2).getD x_2.toNat ((0 : Int), (false, ((0 : Int), ((0 : Int), (0 : Int)))))).2.2.1, (((c_Faces.getD x.toNat ((0 : Int), ((0 : Int), ((0 : Int), ((0 : Int), (([] : List (List UInt8)), ([] : List (Int × Bool × Int × Int × Int)))))))).2.2.2.2.2).getD x_2.toNat ((0 : Int), (false, ((0 : Int), ((0 : Int), (0 : Int)))))).2.2.2.1, (0 : Int), (((c_Faces.getD x.toNat ((0 : Int), ((0 : Int), ((0 : Int), ((0 : Int), (([] : List (List UInt8)), ([] : List (Int × Bool × Int × Int × Int)))))))).2.2.2.2.2).getD x_2.toNat ((0 : Int), (false, ((0 : Int), ((0 : Int), (0 : Int)))))).2.2.2.2]) y_7 hx22⟩, ⟨trivial, ⟨trivial, ⟨trivial, ⟨trivial, ⟨trivial, trivial⟩⟩⟩⟩⟩⟩⟩⟩⟩⟩⟩⟩⟩⟩
                    refine TS.reg [.none, .none, .none, .none, .none, .none, .none, .none, (.call (.tup (.cons (.str y_7.1) (.cons (.bool y_7.2) .nil))) [])] ?_ ?_
                    · apply prop_of ?_ hq
                      kernel_rfl
                    refine XS.then ?_
                    obtain ⟨t23, h⟩ := test_some h
                    have hq : (True) ∧ ((True) ∧ ((rest_2.length + y_7.1.length ≤ 9223372036854775807) ∧ ((True) ∧ (True)))) := ⟨trivial, ⟨trivial, ⟨of_decide_eq_true t23, ⟨trivial, trivial⟩⟩⟩⟩
                    refine TS.reg [] ?_ ?_
                    · apply prop_of ?_ hq
                      kernel_rfl
                    refine XS.blockEnd ?_
                    refine XS.then ?_
                    have hq : (True) ∧ ((True) ∧ (True)) := ⟨trivial, ⟨trivial, trivial⟩⟩
                    refine TS.reg [] ?_ ?_
                    · apply prop_of ?_ hq
                      kernel_rfl
                    refine XS.reAny [0, 1] (mkMask 135 [1, 4, 6, 7, 45, 46, 47, 87, 88, 89]) ((rest_2 ++ y_7.1), (IntKind.wrap .i64 (x_2 + (1 : Int)))) h ?_
                    kernel_rfl
                  · rcases bif_some h with ⟨c24, h⟩ | ⟨c25, h⟩
                    · refine TS.cond ((((c_Faces.getD x.toNat ((0 : Int), ((0 : Int), ((0 : Int), ((0 : Int), (([] : List (List UInt8)), ([] : List (Int × Bool × Int × Int × Int)))))))).2.2.2.2.2).getD x_2.toNat ((0 : Int), (false, ((0 : Int), ((0 : Int), (0 : Int)))))).2.1) ?_ (fun hcz => ?_) (fun hcz => by rw [c24] at hcz; cases hcz)
                      · kernel_rfl
                      have hq : (True) ∧ ((True) ∧ ((True) ∧ (True))) := ⟨trivial, ⟨trivial, ⟨trivial, trivial⟩⟩⟩
                      refine TS.reg [] ?_ ?_
                      · apply prop_of ?_ hq
                        kernel_rfl
                      refine XS.reAny [0, 1, 2] (mkMask 135 [1, 4, 6, 7, 14, 15, 45, 46, 47, 87, 88, 89]) (IntKind.wrap .i64 ((((c_Faces.getD x.toNat ((0 : Int), ((0 : Int), ((0 : Int), ((0 : Int), (([] : List (List UInt8)), ([] : List (Int × Bool × Int × Int × Int)))))))).2.2.2.2.2).getD x_2.toNat ((0 : Int), (false, ((0 : Int), ((0 : Int), (0 : Int)))))).1 + (128 : Int))) h ?_
                      kernel_rfl
                    · refine TS.cond ((((c_Faces.getD x.toNat ((0 : Int), ((0 : Int), ((0 : Int), ((0 : Int), (([] : List (List UInt8)), ([] : List (Int × Bool × Int × Int × Int)))))))).2.2.2.2.2).getD x_2.toNat ((0 : Int), (false, ((0 : Int), ((0 : Int), (0 : Int)))))).2.1) ?_ (fun hcz => by rw [c25] at hcz; cases hcz) (fun hcz => ?_)
                      · kernel_rfl
                      refine TS.skip ?_
                      refine XS.reAny [0, 1, 2] (mkMask 135 [1, 4, 6, 7, 14, 15, 45, 46, 47, 87, 88, 89]) (((c_Faces.getD x.toNat ((0 : Int), ((0 : Int), ((0 : Int), ((0 : Int), (([] : List (List UInt8)), ([] : List (Int × Bool × Int × Int × Int)))))))).2.2.2.2.2).getD x_2.toNat ((0 : Int), (false, ((0 : Int), ((0 : Int), (0 : Int)))))).1 h ?_
                      kernel_rfl
                · refine TS.cond (decide (x_2 < ((((c_Faces.getD x.toNat ((0 : Int), ((0 : Int), ((0 : Int), ((0 : Int), (([] : List (List UInt8)), ([] : List (Int × Bool × Int × Int × Int)))))))).2.2.2.2.2).length : Nat) : Int))) ?_ (fun hcz => by rw [c20] at hcz; cases hcz) (fun hcz => ?_)
                  · kernel_rfl
                  refine TS.exit ?_
                  refine XS.passE ?_
                  refine XS.passE ?_
                  refine XS.out ?_
                  refine XS.blockEnd ?_
                  refine XS.then ?_
                  have hq : (True) ∧ ((True) ∧ (True)) := ⟨trivial, ⟨trivial, trivial⟩⟩
                  refine TS.reg [] ?_ ?_
                  · apply prop_of ?_ hq
                    kernel_rfl
                  refine XS.reAny [0, 1] (mkMask 135 [1, 4, 6, 7, 45, 46, 47]) (rest_2, (IntKind.wrap .i64 (x + (1 : Int))), (m1 ++ (c_Faces.getD x.toNat ((0 : Int), ((0 : Int), ((0 : Int), ((0 : Int), (([] : List (List UInt8)), ([] : List (Int × Bool × Int × Int × Int)))))))).2.2.2.2.2)) h ?_
                  kernel_rfl
          · refine TS.cond (decide (x < ((c_Faces.length : Nat) : Int))) ?_ (fun hcz => by rw [c9] at hcz; cases hcz) (fun hcz => ?_)
            · kernel_rfl
            refine TS.exit ?_
            refine XS.passE ?_
            refine XS.passE ?_
            refine XS.out ?_
            refine XS.then ?_
            refine TS.seq ?_
            obtain ⟨y_8, hx26, h⟩ := bind_some' h
            have hq : (True) ∧ ((True) ∧ ((True) ∧ (((0 < 1 ∧ True) ∧ (True)) ∧ ((((True) ∧ (True)) ∧ PureC Try.prog 21 [(.sl (.int .i64) [((c_Faces.length : Nat) : Int)])] (.tup (.cons (.str y_8.1) (.cons (.bool y_8.2) .nil))) []) ∧ ((True) ∧ ((True) ∧ ((True) ∧ ((True) ∧ ((True) ∧ (True)))))))))) := ⟨trivial, ⟨trivial, ⟨trivial, ⟨⟨⟨by decide, trivial⟩, trivial⟩, ⟨⟨⟨trivial, trivial⟩, F21_ok n [((c_Faces.length : Nat) : Int)] y_8 hx26⟩, ⟨trivial, ⟨trivial, ⟨trivial, ⟨trivial, ⟨trivial, trivial⟩⟩⟩⟩⟩⟩⟩⟩⟩⟩
            refine TS.reg [.none, .none, .none, .none, (.call (.tup (.cons (.str y_8.1) (.cons (.bool y_8.2) .nil))) [])] ?_ ?_
            · apply prop_of ?_ hq
              kernel_rfl
            refine XS.then ?_
            refine TS.seq ?_
            obtain ⟨y_9, hx27, h⟩ := bind_some' h
            obtain ⟨t28, h⟩ := test_some h
            obtain ⟨t29, h⟩ := test_some h
            obtain ⟨t30, h⟩ := test_some h
            obtain ⟨t31, h⟩ := test_some h
            have hq : (True) ∧ ((True) ∧ ((True) ∧ ((PureC Try.prog 23 [(.int .i64 (IntKind.wrap .i64 ((9 : Int) + ((rest.length : Nat) : Int))))] (.str y_9) []) ∧ ((([9, 2] : List UInt8).length + y_9.length ≤ 9223372036854775807) ∧ ((True) ∧ (((([9, 2] : List UInt8) ++ y_9).length + y_8.1.length ≤ 9223372036854775807) ∧ ((True) ∧ ((((([9, 2] : List UInt8) ++ y_9) ++ y_8.1).length + y_3.1.length ≤ 9223372036854775807) ∧ ((True) ∧ (((((([9, 2] : List UInt8) ++ y_9) ++ y_8.1) ++ y_3.1).length + rest.length ≤ 9223372036854775807) ∧ ((True) ∧ ((True) ∧ (True))))))))))))) := ⟨trivial, ⟨trivial, ⟨trivial, ⟨F23_ok n (IntKind.wrap .i64 ((9 : Int) + ((rest.length : Nat) : Int))) y_9 hx27, ⟨of_decide_eq_true t28, ⟨trivial, ⟨of_decide_eq_true t29, ⟨trivial, ⟨of_decide_eq_true t30, ⟨trivial, ⟨of_decide_eq_true t31, ⟨trivial, ⟨trivial, trivial⟩⟩⟩⟩⟩⟩⟩⟩⟩⟩⟩⟩⟩
            refine TS.reg [.none, .none, .none, (.call (.str y_9) [])] ?_ ?_
            · apply prop_of ?_ hq
              kernel_rfl
            refine XS.then ?_
            refine TS.ret ?_
            obtain rfl : (((((([9, 2] : List UInt8) ++ y_9) ++ y_8.1) ++ y_3.1) ++ rest), (0 : Int)) = r := Option.some.inj h
            exact XS.fin [] ((True) ∧ ((True) ∧ (True))) (by kernel_rfl) ⟨trivial, ⟨trivial, trivial⟩⟩
end Go.Proofs.Ytnibbbmjjdkkgaa
