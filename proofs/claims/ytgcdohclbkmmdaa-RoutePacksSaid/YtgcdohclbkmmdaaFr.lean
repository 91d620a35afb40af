/- Functions of the program, as functions of values. -/
import Derived.Test.YtgcdohclbkmmdaaAm24
import Derived.Test.YtgcdohclbkmmdaaChecked
namespace Go.Proofs.Ytgcdohclbkmmdaa
open Go Go.RowKit
set_option linter.unusedVariables false
set_option maxRecDepth 100000

/-! slices.Equal[[]int,int] -/
def F25_l2 (n : Nat) (s1 : List Int) (s2 : List Int) (k25_2 : Int → Option Bool) : Int → Option Bool
  | x => (bif (decide (x < ((s1.length : Nat) : Int))) then (bif inb x s1.length then (bif inb x s2.length then (bif ((s1.getD x.toNat (0 : Int)) != (s2.getD x.toNat (0 : Int))) then (some false) else (k25_2 (IntKind.wrap .i64 (x + (1 : Int))))) else none) else none) else (some true))
def F25 (n : Nat) (s1 : List Int) (s2 : List Int) : Option Bool := (bif (((s1.length : Nat) : Int) != ((s2.length : Nat) : Int)) then (some false) else (loopF (F25_l2 n s1 s2) n (0 : Int)))
theorem F25_ok (n : Nat) (s1 : List Int) (s2 : List Int) (r : Bool) (h : F25 n s1 s2 = some r) : PureC Try.prog 25 [(.sl (.int .i64) s1), (.sl (.int .i64) s2)] (.bool r) [] := by
  refine PureC.mkS Try.func25 rfl rfl ?_
  intro w0 fz0 hfz
  replace h : (bif (((s1.length : Nat) : Int) != ((s2.length : Nat) : Int)) then (some false) else (loopF (F25_l2 n s1 s2) n (0 : Int))) = some r := h
  refine TS.seq ?_
  have hq : (True) ∧ (True) := ⟨trivial, trivial⟩
  refine TS.reg [] ?_ ?_
  · apply prop_of ?_ hq
    kernel_rfl
  refine XS.then ?_
  refine TS.seq ?_
  refine TS.seq ?_
  have hq : (True) ∧ ((True) ∧ ((True) ∧ ((True) ∧ ((True) ∧ (True))))) := ⟨trivial, ⟨trivial, ⟨trivial, ⟨trivial, ⟨trivial, trivial⟩⟩⟩⟩⟩
  refine TS.reg [] ?_ ?_
  · apply prop_of ?_ hq
    kernel_rfl
  refine XS.then ?_
  rcases bif_some h with ⟨c1, h⟩ | ⟨c2, h⟩
  · refine TS.cond (((s1.length : Nat) : Int) != ((s2.length : Nat) : Int)) ?_ (fun e => ?_) (fun e => by rw [c1] at e; cases e)
    · kernel_rfl
    refine TS.seq ?_
    have hq : (True) ∧ (True) := ⟨trivial, trivial⟩
    refine TS.reg [] ?_ ?_
    · apply prop_of ?_ hq
      kernel_rfl
    refine XS.then ?_
    refine TS.ret ?_
    refine XS.passR ?_
    obtain rfl : false = r := Option.some.inj h
    exact XS.fin [] ((True) ∧ (True)) (by kernel_rfl) ⟨trivial, trivial⟩
  · refine TS.cond (((s1.length : Nat) : Int) != ((s2.length : Nat) : Int)) ?_ (fun e => by rw [c2] at e; cases e) (fun e => ?_)
    · kernel_rfl
    refine TS.skip ?_
    refine XS.then ?_
    refine TS.seq ?_
    refine TS.seq ?_
    have hq : (True) ∧ ((True) ∧ ((True) ∧ (True))) := ⟨trivial, ⟨trivial, ⟨trivial, trivial⟩⟩⟩
    refine TS.reg [] ?_ ?_
    · apply prop_of ?_ hq
      kernel_rfl
    refine XS.then ?_
    refine TS.block ?_
    refine TS.reLoop [] (mkMask 26 [0, 1, 12, 13]) (D := Int) (fun d => match d with | x => (mkTs 26 [(0, (.sl (.int .i64) s1)), (1, (.sl (.int .i64) s2)), (12, (.int .i64 ((s1.length : Nat) : Int))), (13, (.int .i64 x))], [])) (fun n' d => loopF (F25_l2 n s1 s2) n' d = some r) n (0 : Int) h ?_ (fun d => loopF_zero _ d r) ?_
    · kernel_rfl
    · rintro n2 x h
      replace h : (bif (decide (x < ((s1.length : Nat) : Int))) then (bif inb x s1.length then (bif inb x s2.length then (bif ((s1.getD x.toNat (0 : Int)) != (s2.getD x.toNat (0 : Int))) then (some false) else ((loopF (F25_l2 n s1 s2) n2) (IntKind.wrap .i64 (x + (1 : Int))))) else none) else none) else (some true)) = some r := h
      refine TS.seq ?_
      have hq : (True) ∧ (True) := ⟨trivial, trivial⟩
      refine TS.reg [] ?_ ?_
      · apply prop_of ?_ hq
        kernel_rfl
      refine XS.then ?_
      refine TS.seq ?_
      rcases bif_some h with ⟨c3, h⟩ | ⟨c4, h⟩
      · refine TS.cond (decide (x < ((s1.length : Nat) : Int))) ?_ (fun e => ?_) (fun e => by rw [c3] at e; cases e)
        · kernel_rfl
        refine TS.skip ?_
        refine XS.then ?_
        refine TS.seq ?_
        refine TS.block ?_
        refine TS.seq ?_
        have hq : (True) ∧ ((True) ∧ (True)) := ⟨trivial, ⟨trivial, trivial⟩⟩
        refine TS.reg [] ?_ ?_
        · apply prop_of ?_ hq
          kernel_rfl
        refine XS.then ?_
        refine TS.seq ?_
        obtain ⟨t5, h⟩ := test_some h
        obtain ⟨t6, h⟩ := test_some h
        have hq : ((True) ∧ ((True) ∧ ((inR x s1.length) ∧ ((True) ∧ ((True) ∧ ((True) ∧ ((inR x s2.length) ∧ ((True) ∧ ((True) ∧ (True)))))))))) ∧ (True) := ⟨⟨trivial, ⟨trivial, ⟨inb_ok t5, ⟨trivial, ⟨trivial, ⟨trivial, ⟨inb_ok t6, ⟨trivial, ⟨trivial, trivial⟩⟩⟩⟩⟩⟩⟩⟩⟩, trivial⟩
        refine TS.draw 9 [] [] (by kernel_rfl) ?_ ?_
        · apply prop_of ?_ hq
          kernel_rfl
        refine XS.then ?_
        rcases bif_some h with ⟨c7, h⟩ | ⟨c8, h⟩
        · refine TS.cond ((s1.getD x.toNat (0 : Int)) != (s2.getD x.toNat (0 : Int))) ?_ (fun e => ?_) (fun e => by rw [c7] at e; cases e)
          · kernel_rfl
          refine TS.seq ?_
          have hq : (True) ∧ (True) := ⟨trivial, trivial⟩
          refine TS.reg [] ?_ ?_
          · apply prop_of ?_ hq
            kernel_rfl
          refine XS.then ?_
          refine TS.ret ?_
          refine XS.blockRet ?_
          refine XS.passR ?_
          refine XS.passR ?_
          refine XS.blockRet ?_
          refine XS.passR ?_
          obtain rfl : false = r := Option.some.inj h
          exact XS.fin [] ((True) ∧ (True)) (by kernel_rfl) ⟨trivial, trivial⟩
        · refine TS.cond ((s1.getD x.toNat (0 : Int)) != (s2.getD x.toNat (0 : Int))) ?_ (fun e => by rw [c8] at e; cases e) (fun e => ?_)
          · kernel_rfl
          refine TS.skip ?_
          refine XS.blockEnd ?_
          refine XS.then ?_
          have hq : (True) ∧ ((True) ∧ (True)) := ⟨trivial, ⟨trivial, trivial⟩⟩
          refine TS.reg [] ?_ ?_
          · apply prop_of ?_ hq
            kernel_rfl
          refine XS.reAny [] (mkMask 26 [0, 1, 12, 13]) (IntKind.wrap .i64 (x + (1 : Int))) h ?_
          kernel_rfl
      · refine TS.cond (decide (x < ((s1.length : Nat) : Int))) ?_ (fun e => by rw [c4] at e; cases e) (fun e => ?_)
        · kernel_rfl
        refine TS.exit ?_
        refine XS.passE ?_
        refine XS.passE ?_
        refine XS.out ?_
        refine XS.then ?_
        refine TS.seq ?_
        have hq : (True) ∧ (True) := ⟨trivial, trivial⟩
        refine TS.reg [] ?_ ?_
        · apply prop_of ?_ hq
          kernel_rfl
        refine XS.then ?_
        refine TS.ret ?_
        obtain rfl : true = r := Option.some.inj h
        exact XS.fin [] ((True) ∧ (True)) (by kernel_rfl) ⟨trivial, trivial⟩

/-! plugtree/plugref.Beginning -/
def F22_l2 (n : Nat) (a : List Int) (b : List Int) (k22_2 : Int → Option (List Int)) : Int → Option (List Int)
  | vn => (bif (decide (vn > (0 : Int))) then (bif subB a.length none (some vn) then (bif subB b.length none (some vn) then ((F25 n (a.take vn.toNat) (b.take vn.toNat)).bind fun y_2 => (bif y_2 then (some (a.take vn.toNat)) else (k22_2 (IntKind.wrap .i64 (vn - (1 : Int)))))) else none) else none) else (some ([] : List Int)))
def F22 (n : Nat) (a : List Int) (b : List Int) : Option (List Int) := (loopF (F22_l2 n a b) n (if ((b.length : Nat) : Int) < ((a.length : Nat) : Int) then ((b.length : Nat) : Int) else ((a.length : Nat) : Int)))
theorem F22_ok (n : Nat) (a : List Int) (b : List Int) (r : List Int) (h : F22 n a b = some r) : PureC Try.prog 22 [(.sl (.int .i64) a), (.sl (.int .i64) b)] (.sl (.int .i64) r) [] := by
  refine PureC.mkS Try.func22 rfl rfl ?_
  intro w0 fz0 hfz
  replace h : (loopF (F22_l2 n a b) n (if ((b.length : Nat) : Int) < ((a.length : Nat) : Int) then ((b.length : Nat) : Int) else ((a.length : Nat) : Int))) = some r := h
  refine TS.seq ?_
  have hq : (True) ∧ (True) := ⟨trivial, trivial⟩
  refine TS.reg [] ?_ ?_
  · apply prop_of ?_ hq
    kernel_rfl
  refine XS.then ?_
  refine TS.seq ?_
  refine TS.seq ?_
  have hq : (True) ∧ ((True) ∧ ((True) ∧ ((True) ∧ ((True) ∧ ((True) ∧ (True)))))) := ⟨trivial, ⟨trivial, ⟨trivial, ⟨trivial, ⟨trivial, ⟨trivial, trivial⟩⟩⟩⟩⟩⟩
  refine TS.reg [] ?_ ?_
  · apply prop_of ?_ hq
    kernel_rfl
  refine XS.then ?_
  refine TS.block ?_
  refine TS.reLoop [] (mkMask 25 [0, 1, 5]) (D := Int) (fun d => match d with | vn => (mkTs 25 [(0, (.sl (.int .i64) a)), (1, (.sl (.int .i64) b)), (5, (.int .i64 vn))], [])) (fun n' d => loopF (F22_l2 n a b) n' d = some r) n (if ((b.length : Nat) : Int) < ((a.length : Nat) : Int) then ((b.length : Nat) : Int) else ((a.length : Nat) : Int)) h ?_ (fun d => loopF_zero _ d r) ?_
  · kernel_rfl
  · rintro n2 vn h
    replace h : (bif (decide (vn > (0 : Int))) then (bif subB a.length none (some vn) then (bif subB b.length none (some vn) then ((F25 n (a.take vn.toNat) (b.take vn.toNat)).bind fun y_2 => (bif y_2 then (some (a.take vn.toNat)) else ((loopF (F22_l2 n a b) n2) (IntKind.wrap .i64 (vn - (1 : Int)))))) else none) else none) else (some ([] : List Int))) = some r := h
    refine TS.seq ?_
    refine TS.seq ?_
    have hq : (True) ∧ ((True) ∧ (True)) := ⟨trivial, ⟨trivial, trivial⟩⟩
    refine TS.reg [] ?_ ?_
    · apply prop_of ?_ hq
      kernel_rfl
    refine XS.then ?_
    rcases bif_some h with ⟨c1, h⟩ | ⟨c2, h⟩
    · refine TS.cond (decide (vn > (0 : Int))) ?_ (fun e => ?_) (fun e => by rw [c1] at e; cases e)
      · kernel_rfl
      refine TS.skip ?_
      refine XS.then ?_
      refine TS.seq ?_
      refine TS.block ?_
      refine TS.seq ?_
      obtain ⟨t3, h⟩ := test_some h
      obtain ⟨t4, h⟩ := test_some h
      obtain ⟨y_2, hx5, h⟩ := bind_some' h
      have hq : ((True) ∧ ((True) ∧ ((subC a.length none (some vn)) ∧ ((True) ∧ ((True) ∧ ((subC b.length none (some vn)) ∧ ((PureC Try.prog 25 [(.sl (.int .i64) (a.take vn.toNat)), (.sl (.int .i64) (b.take vn.toNat))] (.bool y_2) []) ∧ (True)))))))) ∧ (True) := ⟨⟨trivial, ⟨trivial, ⟨subB_ok t3, ⟨trivial, ⟨trivial, ⟨subB_ok t4, ⟨F25_ok n (a.take vn.toNat) (b.take vn.toNat) y_2 hx5, trivial⟩⟩⟩⟩⟩⟩⟩, trivial⟩
      refine TS.draw 7 [] [.none, .none, .none, .none, .none, .none, (.call (.bool y_2) [])] (by kernel_rfl) ?_ ?_
      · apply prop_of ?_ hq
        kernel_rfl
      refine XS.then ?_
      rcases bif_some h with ⟨c6, h⟩ | ⟨c7, h⟩
      · refine TS.cond y_2 ?_ (fun e => ?_) (fun e => by rw [c6] at e; cases e)
        · kernel_rfl
        refine TS.seq ?_
        have hq : (True) ∧ ((True) ∧ ((subC a.length none (some vn)) ∧ ((True) ∧ (True)))) := ⟨trivial, ⟨trivial, ⟨subB_ok t3, ⟨trivial, trivial⟩⟩⟩⟩
        refine TS.reg [] ?_ ?_
        · apply prop_of ?_ hq
          kernel_rfl
        refine XS.then ?_
        refine TS.ret ?_
        refine XS.blockRet ?_
        refine XS.passR ?_
        refine XS.passR ?_
        refine XS.blockRet ?_
        refine XS.passR ?_
        obtain rfl : (a.take vn.toNat) = r := Option.some.inj h
        exact XS.fin [] ((True) ∧ (True)) (by kernel_rfl) ⟨trivial, trivial⟩
      · refine TS.cond y_2 ?_ (fun e => by rw [c7] at e; cases e) (fun e => ?_)
        · kernel_rfl
        refine TS.skip ?_
        refine XS.blockEnd ?_
        refine XS.then ?_
        have hq : (True) ∧ ((True) ∧ ((True) ∧ (True))) := ⟨trivial, ⟨trivial, ⟨trivial, trivial⟩⟩⟩
        refine TS.reg [] ?_ ?_
        · apply prop_of ?_ hq
          kernel_rfl
        refine XS.reAny [] (mkMask 25 [0, 1, 5]) (IntKind.wrap .i64 (vn - (1 : Int))) h ?_
        kernel_rfl
    · refine TS.cond (decide (vn > (0 : Int))) ?_ (fun e => by rw [c2] at e; cases e) (fun e => ?_)
      · kernel_rfl
      refine TS.exit ?_
      refine XS.passE ?_
      refine XS.passE ?_
      refine XS.out ?_
      refine XS.then ?_
      refine TS.seq ?_
      have hq : (True) ∧ (True) := ⟨trivial, trivial⟩
      refine TS.reg [] ?_ ?_
      · apply prop_of ?_ hq
        kernel_rfl
      refine XS.then ?_
      refine TS.ret ?_
      obtain rfl : ([] : List Int) = r := Option.some.inj h
      refine XS.wk (.view false 4 [] (.int .i64)) ?_
      exact XS.fin [] ((True) ∧ (True)) (by kernel_rfl) ⟨trivial, trivial⟩

/-! plugtree/plugref.Before -/
def F23 : Nat → (List Int) → (List Int) → Option Bool
  | 0, _, _ => none
  | n + 1, a, b => (bif (((b.length : Nat) : Int) == (0 : Int)) then (some false) else (bif (((a.length : Nat) : Int) == (0 : Int)) then (some true) else (bif inb (0 : Int) a.length then (bif inb (0 : Int) b.length then (bif (decide ((a.getD 0 (0 : Int)) < (b.getD 0 (0 : Int)))) then (some true) else (bif ((a.getD 0 (0 : Int)) == (b.getD 0 (0 : Int))) then (bif subB a.length (some (1 : Int)) none then (bif subB b.length (some (1 : Int)) none then ((F23 n (a.drop 1) (b.drop 1)).bind fun y_2 => (some y_2)) else none) else none) else (some false))) else none) else none)))
theorem F23_ok : ∀ (n : Nat) (a : List Int) (b : List Int) (r : Bool) (h : F23 n a b = some r), PureC Try.prog 23 [(.sl (.int .i64) a), (.sl (.int .i64) b)] (.bool r) []
  | 0, a, b, r, h => by cases h
  | n + 1, a, b, r, h => by
    refine PureC.mkS Try.func23 rfl rfl ?_
    intro w0 fz0 hfz
    replace h : (bif (((b.length : Nat) : Int) == (0 : Int)) then (some false) else (bif (((a.length : Nat) : Int) == (0 : Int)) then (some true) else (bif inb (0 : Int) a.length then (bif inb (0 : Int) b.length then (bif (decide ((a.getD 0 (0 : Int)) < (b.getD 0 (0 : Int)))) then (some true) else (bif ((a.getD 0 (0 : Int)) == (b.getD 0 (0 : Int))) then (bif subB a.length (some (1 : Int)) none then (bif subB b.length (some (1 : Int)) none then ((F23 n (a.drop 1) (b.drop 1)).bind fun y_2 => (some y_2)) else none) else none) else (some false))) else none) else none))) = some r := h
    refine TS.seq ?_
    have hq : (True) ∧ (True) := ⟨trivial, trivial⟩
    refine TS.reg [] ?_ ?_
    · apply prop_of ?_ hq
      kernel_rfl
    refine XS.then ?_
    refine TS.seq ?_
    refine TS.seq ?_
    have hq : (True) ∧ ((True) ∧ ((True) ∧ (True))) := ⟨trivial, ⟨trivial, ⟨trivial, trivial⟩⟩⟩
    refine TS.reg [] ?_ ?_
    · apply prop_of ?_ hq
      kernel_rfl
    refine XS.then ?_
    rcases bif_some h with ⟨c1, h⟩ | ⟨c2, h⟩
    · refine TS.cond (((b.length : Nat) : Int) == (0 : Int)) ?_ (fun e => ?_) (fun e => by rw [c1] at e; cases e)
      · kernel_rfl
      refine TS.seq ?_
      have hq : (True) ∧ (True) := ⟨trivial, trivial⟩
      refine TS.reg [] ?_ ?_
      · apply prop_of ?_ hq
        kernel_rfl
      refine XS.then ?_
      refine TS.ret ?_
      refine XS.passR ?_
      obtain rfl : false = r := Option.some.inj h
      exact XS.fin [] ((True) ∧ (True)) (by kernel_rfl) ⟨trivial, trivial⟩
    · refine TS.cond (((b.length : Nat) : Int) == (0 : Int)) ?_ (fun e => by rw [c2] at e; cases e) (fun e => ?_)
      · kernel_rfl
      refine TS.skip ?_
      refine XS.then ?_
      refine TS.seq ?_
      refine TS.seq ?_
      rcases bif_some h with ⟨c3, h⟩ | ⟨c4, h⟩
      · have hq : ((True) ∧ ((True) ∧ ((True) ∧ (((True) ∧ (((a.length : Nat) : Int) == (0 : Int)) = true) ∧ ((True) ∧ (True)))))) ∧ (True) := ⟨⟨trivial, ⟨trivial, ⟨trivial, ⟨⟨trivial, c3⟩, ⟨trivial, trivial⟩⟩⟩⟩⟩, trivial⟩
        refine TS.draw 12 [] [.none, .none, .none, .dec true] (by kernel_rfl) ?_ ?_
        · apply prop_of ?_ hq
          kernel_rfl
        refine XS.then ?_
        refine TS.yes ?_ ?_
        · kernel_rfl
        refine TS.seq ?_
        have hq : (True) ∧ (True) := ⟨trivial, trivial⟩
        refine TS.reg [] ?_ ?_
        · apply prop_of ?_ hq
          kernel_rfl
        refine XS.then ?_
        refine TS.ret ?_
        refine XS.passR ?_
        obtain rfl : true = r := Option.some.inj h
        exact XS.fin [] ((True) ∧ (True)) (by kernel_rfl) ⟨trivial, trivial⟩
      · obtain ⟨t5, h⟩ := test_some h
        obtain ⟨t6, h⟩ := test_some h
        have hq : ((True) ∧ ((True) ∧ ((True) ∧ (((True) ∧ (((a.length : Nat) : Int) == (0 : Int)) = false) ∧ ((True) ∧ ((inR (0 : Int) a.length) ∧ ((True) ∧ ((True) ∧ ((inR (0 : Int) b.length) ∧ ((True) ∧ ((True) ∧ ((True) ∧ (True))))))))))))) ∧ (True) := ⟨⟨trivial, ⟨trivial, ⟨trivial, ⟨⟨trivial, c4⟩, ⟨trivial, ⟨inb_ok t5, ⟨trivial, ⟨trivial, ⟨inb_ok t6, ⟨trivial, ⟨trivial, ⟨trivial, trivial⟩⟩⟩⟩⟩⟩⟩⟩⟩⟩⟩⟩, trivial⟩
        refine TS.draw 12 [] [.none, .none, .none, .dec false] (by kernel_rfl) ?_ ?_
        · apply prop_of ?_ hq
          kernel_rfl
        refine XS.then ?_
        rcases bif_some h with ⟨c7, h⟩ | ⟨c8, h⟩
        · refine TS.cond (decide ((a.getD 0 (0 : Int)) < (b.getD 0 (0 : Int)))) ?_ (fun e => ?_) (fun e => by rw [c7] at e; cases e)
          · kernel_rfl
          refine TS.seq ?_
          have hq : (True) ∧ (True) := ⟨trivial, trivial⟩
          refine TS.reg [] ?_ ?_
          · apply prop_of ?_ hq
            kernel_rfl
          refine XS.then ?_
          refine TS.ret ?_
          refine XS.passR ?_
          obtain rfl : true = r := Option.some.inj h
          exact XS.fin [] ((True) ∧ (True)) (by kernel_rfl) ⟨trivial, trivial⟩
        · refine TS.cond (decide ((a.getD 0 (0 : Int)) < (b.getD 0 (0 : Int)))) ?_ (fun e => by rw [c8] at e; cases e) (fun e => ?_)
          · kernel_rfl
          refine TS.skip ?_
          refine XS.then ?_
          refine TS.seq ?_
          rcases bif_some h with ⟨c9, h⟩ | ⟨c10, h⟩
          · obtain ⟨t11, h⟩ := test_some h
            obtain ⟨t12, h⟩ := test_some h
            obtain ⟨y_2, hx13, h⟩ := bind_some' h
            have hq : ((True) ∧ ((inR (0 : Int) a.length) ∧ ((True) ∧ ((True) ∧ ((inR (0 : Int) b.length) ∧ ((True) ∧ ((True) ∧ (((True) ∧ ((a.getD 0 (0 : Int)) == (b.getD 0 (0 : Int))) = true) ∧ ((True) ∧ ((subC a.length (some (1 : Int)) none) ∧ ((True) ∧ ((subC b.length (some (1 : Int)) none) ∧ ((PureC Try.prog 23 [(.sl (.int .i64) (a.drop 1)), (.sl (.int .i64) (b.drop 1))] (.bool y_2) []) ∧ ((True) ∧ (True))))))))))))))) ∧ ((True) ∧ (True)) := ⟨⟨trivial, ⟨inb_ok t5, ⟨trivial, ⟨trivial, ⟨inb_ok t6, ⟨trivial, ⟨trivial, ⟨⟨trivial, c9⟩, ⟨trivial, ⟨subB_ok t11, ⟨trivial, ⟨subB_ok t12, ⟨F23_ok n (a.drop 1) (b.drop 1) y_2 hx13, ⟨trivial, trivial⟩⟩⟩⟩⟩⟩⟩⟩⟩⟩⟩⟩⟩⟩, ⟨trivial, trivial⟩⟩
            refine TS.draw 14 [] [.none, .none, .none, .none, .none, .none, .none, .dec true, .none, .none, .none, .none, (.call (.bool y_2) [])] (by kernel_rfl) ?_ ?_
            · apply prop_of ?_ hq
              kernel_rfl
            refine XS.then ?_
            refine TS.ret ?_
            obtain rfl : y_2 = r := Option.some.inj h
            exact XS.fin [] ((True) ∧ (True)) (by kernel_rfl) ⟨trivial, trivial⟩
          · have hq : ((True) ∧ ((inR (0 : Int) a.length) ∧ ((True) ∧ ((True) ∧ ((inR (0 : Int) b.length) ∧ ((True) ∧ ((True) ∧ (((True) ∧ ((a.getD 0 (0 : Int)) == (b.getD 0 (0 : Int))) = false) ∧ ((True) ∧ (True)))))))))) ∧ ((True) ∧ (True)) := ⟨⟨trivial, ⟨inb_ok t5, ⟨trivial, ⟨trivial, ⟨inb_ok t6, ⟨trivial, ⟨trivial, ⟨⟨trivial, c10⟩, ⟨trivial, trivial⟩⟩⟩⟩⟩⟩⟩⟩⟩, ⟨trivial, trivial⟩⟩
            refine TS.draw 14 [] [.none, .none, .none, .none, .none, .none, .none, .dec false] (by kernel_rfl) ?_ ?_
            · apply prop_of ?_ hq
              kernel_rfl
            refine XS.then ?_
            refine TS.ret ?_
            obtain rfl : false = r := Option.some.inj h
            exact XS.fin [] ((True) ∧ (True)) (by kernel_rfl) ⟨trivial, trivial⟩

/-! plugtree/route.common[int] -/
def F78_l2 (n : Nat) (a : List Int) (b : List Int) (k78_2 : Int → Option Int) : Int → Option Int
  | vn => (bif (decide (vn < ((a.length : Nat) : Int))) then (bif (decide (vn < ((b.length : Nat) : Int))) then (bif inb vn a.length then (bif inb vn b.length then (bif ((a.getD vn.toNat (0 : Int)) == (b.getD vn.toNat (0 : Int))) then (k78_2 (IntKind.wrap .i64 (vn + (1 : Int)))) else (some vn)) else none) else none) else (some vn)) else (some vn))
def F78 (n : Nat) (a : List Int) (b : List Int) : Option Int := (loopF (F78_l2 n a b) n (0 : Int))
theorem F78_ok (n : Nat) (a : List Int) (b : List Int) (r : Int) (h : F78 n a b = some r) : PureC Try.prog 78 [(.sl (.int .i64) a), (.sl (.int .i64) b)] (.int .i64 r) [] := by
  refine PureC.mkS Try.func78 rfl rfl ?_
  intro w0 fz0 hfz
  replace h : (loopF (F78_l2 n a b) n (0 : Int)) = some r := h
  refine TS.seq ?_
  have hq : (True) ∧ (True) := ⟨trivial, trivial⟩
  refine TS.reg [] ?_ ?_
  · apply prop_of ?_ hq
    kernel_rfl
  refine XS.then ?_
  refine TS.seq ?_
  have hq : (True) ∧ (True) := ⟨trivial, trivial⟩
  refine TS.reg [] ?_ ?_
  · apply prop_of ?_ hq
    kernel_rfl
  refine XS.then ?_
  refine TS.seq ?_
  refine TS.block ?_
  refine TS.reLoop [] (mkMask 30 [0, 1, 5]) (D := Int) (fun d => match d with | vn => (mkTs 30 [(0, (.sl (.int .i64) a)), (1, (.sl (.int .i64) b)), (5, (.int .i64 vn))], [])) (fun n' d => loopF (F78_l2 n a b) n' d = some r) n (0 : Int) h ?_ (fun d => loopF_zero _ d r) ?_
  · kernel_rfl
  · rintro n2 vn h
    replace h : (bif (decide (vn < ((a.length : Nat) : Int))) then (bif (decide (vn < ((b.length : Nat) : Int))) then (bif inb vn a.length then (bif inb vn b.length then (bif ((a.getD vn.toNat (0 : Int)) == (b.getD vn.toNat (0 : Int))) then ((loopF (F78_l2 n a b) n2) (IntKind.wrap .i64 (vn + (1 : Int)))) else (some vn)) else none) else none) else (some vn)) else (some vn)) = some r := h
    refine TS.seq ?_
    refine TS.seq ?_
    rcases bif_some h with ⟨c1, h⟩ | ⟨c2, h⟩
    · rcases bif_some h with ⟨c3, h⟩ | ⟨c4, h⟩
      · obtain ⟨t5, h⟩ := test_some h
        obtain ⟨t6, h⟩ := test_some h
        have hq : ((True) ∧ ((True) ∧ ((True) ∧ ((True) ∧ (((True) ∧ (decide (vn < ((a.length : Nat) : Int))) = true) ∧ ((True) ∧ ((True) ∧ ((True) ∧ ((True) ∧ ((True) ∧ (((True) ∧ (decide (vn < ((b.length : Nat) : Int))) = true) ∧ ((True) ∧ ((True) ∧ ((inR vn a.length) ∧ ((True) ∧ ((True) ∧ ((True) ∧ ((inR vn b.length) ∧ ((True) ∧ ((True) ∧ ((True) ∧ (True)))))))))))))))))))))) ∧ (True) := ⟨⟨trivial, ⟨trivial, ⟨trivial, ⟨trivial, ⟨⟨trivial, c1⟩, ⟨trivial, ⟨trivial, ⟨trivial, ⟨trivial, ⟨trivial, ⟨⟨trivial, c3⟩, ⟨trivial, ⟨trivial, ⟨inb_ok t5, ⟨trivial, ⟨trivial, ⟨trivial, ⟨inb_ok t6, ⟨trivial, ⟨trivial, ⟨trivial, trivial⟩⟩⟩⟩⟩⟩⟩⟩⟩⟩⟩⟩⟩⟩⟩⟩⟩⟩⟩⟩⟩, trivial⟩
        refine TS.draw 21 [] [.none, .none, .none, .none, .dec true, .none, .none, .none, .none, .none, .dec true] (by kernel_rfl) ?_ ?_
        · apply prop_of ?_ hq
          kernel_rfl
        refine XS.then ?_
        rcases bif_some h with ⟨c7, h⟩ | ⟨c8, h⟩
        · refine TS.cond ((a.getD vn.toNat (0 : Int)) == (b.getD vn.toNat (0 : Int))) ?_ (fun e => ?_) (fun e => by rw [c7] at e; cases e)
          · kernel_rfl
          refine TS.skip ?_
          refine XS.then ?_
          refine TS.block ?_
          have hq : (True) ∧ ((True) ∧ ((True) ∧ (True))) := ⟨trivial, ⟨trivial, ⟨trivial, trivial⟩⟩⟩
          refine TS.reg [] ?_ ?_
          · apply prop_of ?_ hq
            kernel_rfl
          refine XS.blockEnd ?_
          refine XS.reAny [] (mkMask 30 [0, 1, 5]) (IntKind.wrap .i64 (vn + (1 : Int))) h ?_
          kernel_rfl
        · refine TS.cond ((a.getD vn.toNat (0 : Int)) == (b.getD vn.toNat (0 : Int))) ?_ (fun e => by rw [c8] at e; cases e) (fun e => ?_)
          · kernel_rfl
          refine TS.exit ?_
          refine XS.passE ?_
          refine XS.passE ?_
          refine XS.out ?_
          refine XS.then ?_
          refine TS.seq ?_
          have hq : (True) ∧ ((True) ∧ (True)) := ⟨trivial, ⟨trivial, trivial⟩⟩
          refine TS.reg [] ?_ ?_
          · apply prop_of ?_ hq
            kernel_rfl
          refine XS.then ?_
          refine TS.ret ?_
          obtain rfl : vn = r := Option.some.inj h
          exact XS.fin [] ((True) ∧ (True)) (by kernel_rfl) ⟨trivial, trivial⟩
      · have hq : ((True) ∧ ((True) ∧ ((True) ∧ ((True) ∧ (((True) ∧ (decide (vn < ((a.length : Nat) : Int))) = true) ∧ ((True) ∧ ((True) ∧ ((True) ∧ ((True) ∧ ((True) ∧ (((True) ∧ (decide (vn < ((b.length : Nat) : Int))) = false) ∧ ((True) ∧ (True))))))))))))) ∧ (True) := ⟨⟨trivial, ⟨trivial, ⟨trivial, ⟨trivial, ⟨⟨trivial, c1⟩, ⟨trivial, ⟨trivial, ⟨trivial, ⟨trivial, ⟨trivial, ⟨⟨trivial, c4⟩, ⟨trivial, trivial⟩⟩⟩⟩⟩⟩⟩⟩⟩⟩⟩⟩, trivial⟩
        refine TS.draw 21 [] [.none, .none, .none, .none, .dec true, .none, .none, .none, .none, .none, .dec false] (by kernel_rfl) ?_ ?_
        · apply prop_of ?_ hq
          kernel_rfl
        refine XS.then ?_
        refine TS.no ?_ ?_
        · kernel_rfl
        refine TS.exit ?_
        refine XS.passE ?_
        refine XS.passE ?_
        refine XS.out ?_
        refine XS.then ?_
        refine TS.seq ?_
        have hq : (True) ∧ ((True) ∧ (True)) := ⟨trivial, ⟨trivial, trivial⟩⟩
        refine TS.reg [] ?_ ?_
        · apply prop_of ?_ hq
          kernel_rfl
        refine XS.then ?_
        refine TS.ret ?_
        obtain rfl : vn = r := Option.some.inj h
        exact XS.fin [] ((True) ∧ (True)) (by kernel_rfl) ⟨trivial, trivial⟩
    · have hq : ((True) ∧ ((True) ∧ ((True) ∧ ((True) ∧ (((True) ∧ (decide (vn < ((a.length : Nat) : Int))) = false) ∧ ((True) ∧ ((True) ∧ ((True) ∧ (True))))))))) ∧ (True) := ⟨⟨trivial, ⟨trivial, ⟨trivial, ⟨trivial, ⟨⟨trivial, c2⟩, ⟨trivial, ⟨trivial, ⟨trivial, trivial⟩⟩⟩⟩⟩⟩⟩⟩, trivial⟩
      refine TS.draw 21 [] [.none, .none, .none, .none, .dec false] (by kernel_rfl) ?_ ?_
      · apply prop_of ?_ hq
        kernel_rfl
      refine XS.then ?_
      refine TS.no ?_ ?_
      · kernel_rfl
      refine TS.exit ?_
      refine XS.passE ?_
      refine XS.passE ?_
      refine XS.out ?_
      refine XS.then ?_
      refine TS.seq ?_
      have hq : (True) ∧ ((True) ∧ (True)) := ⟨trivial, ⟨trivial, trivial⟩⟩
      refine TS.reg [] ?_ ?_
      · apply prop_of ?_ hq
        kernel_rfl
      refine XS.then ?_
      refine TS.ret ?_
      obtain rfl : vn = r := Option.some.inj h
      exact XS.fin [] ((True) ∧ (True)) (by kernel_rfl) ⟨trivial, trivial⟩

/-! plugtree/route.Under -/
def F24 (n : Nat) (a : List Int) (b : List Int) : Option Bool := ((F78 n a b).bind fun y_2 => (some (y_2 == ((b.length : Nat) : Int))))
theorem F24_ok (n : Nat) (a : List Int) (b : List Int) (r : Bool) (h : F24 n a b = some r) : PureC Try.prog 24 [(.sl (.int .i64) a), (.sl (.int .i64) b)] (.bool r) [] := by
  refine PureC.mkS Try.func24 rfl rfl ?_
  intro w0 fz0 hfz
  replace h : ((F78 n a b).bind fun y_2 => (some (y_2 == ((b.length : Nat) : Int)))) = some r := h
  refine TS.seq ?_
  have hq : (True) ∧ (True) := ⟨trivial, trivial⟩
  refine TS.reg [] ?_ ?_
  · apply prop_of ?_ hq
    kernel_rfl
  refine XS.then ?_
  refine TS.seq ?_
  obtain ⟨y_2, hx1, h⟩ := bind_some' h
  have hq : (True) ∧ ((True) ∧ ((PureC Try.prog 78 [(.sl (.int .i64) a), (.sl (.int .i64) b)] (.int .i64 y_2) []) ∧ ((True) ∧ ((True) ∧ ((True) ∧ ((True) ∧ (True))))))) := ⟨trivial, ⟨trivial, ⟨F78_ok n a b y_2 hx1, ⟨trivial, ⟨trivial, ⟨trivial, ⟨trivial, trivial⟩⟩⟩⟩⟩⟩⟩
  refine TS.reg [.none, .none, (.call (.int .i64 y_2) [])] ?_ ?_
  · apply prop_of ?_ hq
    kernel_rfl
  refine XS.then ?_
  refine TS.ret ?_
  obtain rfl : (y_2 == ((b.length : Nat) : Int)) = r := Option.some.inj h
  exact XS.fin [] ((True) ∧ (True)) (by kernel_rfl) ⟨trivial, trivial⟩

/-! slices.Clone[[]int,int] -/
def F79 (n : Nat) (s : List Int) : Option (List Int) := (bif (decide (([] : List Int).length + s.length ≤ 17179869184)) then (some (([] : List Int) ++ s)) else none)
theorem F79_ok (n : Nat) (s : List Int) (r : List Int) (h : F79 n s = some r) : PureC Try.prog 79 [(.sl (.int .i64) s)] (.row 0) [(.row 3 (.int .i64) r)] := by
  refine PureC.mkS Try.func79 rfl rfl ?_
  intro w0 fz0 hfz
  replace h : (bif (decide (([] : List Int).length + s.length ≤ 17179869184)) then (some (([] : List Int) ++ s)) else none) = some r := h
  refine TS.seq ?_
  have hq : (True) ∧ (True) := ⟨trivial, trivial⟩
  refine TS.reg [] ?_ ?_
  · apply prop_of ?_ hq
    kernel_rfl
  refine XS.then ?_
  refine TS.seq ?_
  refine TS.seq ?_
  have hq : (True) ∧ (True) := ⟨trivial, trivial⟩
  refine TS.nilReg 1 [] (.int .i64) s ?_ (by kernel_rfl) ?_
  · apply prop_of ?_ hq
    kernel_rfl
  · intro b2 hb4
    cases b2
    · clear hb4
      refine XS.then ?_
      refine TS.no ?_ ?_
      · kernel_rfl
      refine TS.skip ?_
      refine XS.then ?_
      refine TS.seq ?_
      obtain ⟨t1, h⟩ := test_some h
      have hq : (True) ∧ ((True) ∧ ((([] : List Int).length + s.length ≤ 17179869184) ∧ ((True) ∧ (True)))) := ⟨trivial, ⟨trivial, ⟨of_decide_eq_true t1, ⟨trivial, trivial⟩⟩⟩⟩
      refine TS.reg [] ?_ ?_
      · apply prop_of ?_ hq
        kernel_rfl
      refine XS.then ?_
      refine TS.ret ?_
      obtain rfl : (([] : List Int) ++ s) = r := Option.some.inj h
      exact XS.fin [1] ((True) ∧ (True)) (by kernel_rfl) ⟨trivial, trivial⟩
    · have e3 := hb4 rfl
      replace h : (some ([] : List Int)) = some r := by first | exact h | (rw [e3] at h ⊢; exact h) | simpa [e3] using h
      refine XS.then ?_
      refine TS.yes ?_ ?_
      · kernel_rfl
      refine TS.seq ?_
      have hq : (True) ∧ (True) := ⟨trivial, trivial⟩
      refine TS.reg [] ?_ ?_
      · apply prop_of ?_ hq
        kernel_rfl
      refine XS.then ?_
      refine TS.ret ?_
      refine XS.passR ?_
      obtain rfl : ([] : List Int) = r := Option.some.inj h
      refine XS.wk (.row false 2 [] 3 (.int .i64)) ?_
      exact XS.fin [0] ((True) ∧ (True)) (by kernel_rfl) ⟨trivial, trivial⟩

/-! plugtree/route.Meet -/
def F26 (n : Nat) (a : List Int) (b : List Int) : Option (List Int) := ((F78 n a b).bind fun y_2 => (bif subB a.length none (some y_2) then ((F79 n (a.take y_2.toNat)).bind fun y_3 => (some y_3)) else none))
theorem F26_ok (n : Nat) (a : List Int) (b : List Int) (r : List Int) (h : F26 n a b = some r) : PureC Try.prog 26 [(.sl (.int .i64) a), (.sl (.int .i64) b)] (.row 0) [(.row 3 (.int .i64) r)] := by
  refine PureC.mkS Try.func26 rfl rfl ?_
  intro w0 fz0 hfz
  replace h : ((F78 n a b).bind fun y_2 => (bif subB a.length none (some y_2) then ((F79 n (a.take y_2.toNat)).bind fun y_3 => (some y_3)) else none)) = some r := h
  refine TS.seq ?_
  have hq : (True) ∧ (True) := ⟨trivial, trivial⟩
  refine TS.reg [] ?_ ?_
  · apply prop_of ?_ hq
    kernel_rfl
  refine XS.then ?_
  refine TS.seq ?_
  obtain ⟨y_2, hx1, h⟩ := bind_some' h
  obtain ⟨t2, h⟩ := test_some h
  obtain ⟨y_3, hx3, h⟩ := bind_some' h
  have hq : (True) ∧ ((True) ∧ ((True) ∧ ((PureC Try.prog 78 [(.sl (.int .i64) a), (.sl (.int .i64) b)] (.int .i64 y_2) []) ∧ ((subC a.length none (some y_2)) ∧ ((PureC Try.prog 79 [(.sl (.int .i64) (a.take y_2.toNat))] (.row 0) [(.row 3 (.int .i64) y_3)]) ∧ ((True) ∧ (True))))))) := ⟨trivial, ⟨trivial, ⟨trivial, ⟨F78_ok n a b y_2 hx1, ⟨subB_ok t2, ⟨F79_ok n (a.take y_2.toNat) y_3 hx3, ⟨trivial, trivial⟩⟩⟩⟩⟩⟩⟩
  refine TS.reg [.none, .none, .none, (.call (.int .i64 y_2) []), .none, (.call (.row 0) [(.row 3 (.int .i64) y_3)])] ?_ ?_
  · apply prop_of ?_ hq
    kernel_rfl
  refine XS.then ?_
  refine TS.ret ?_
  obtain rfl : y_3 = r := Option.some.inj h
  exact XS.fin [0] ((True) ∧ (True)) (by kernel_rfl) ⟨trivial, trivial⟩

/-! plugtree/route.Hops -/
def F27 (n : Nat) (a : List Int) (b : List Int) : Option Int := ((F78 n a b).bind fun y_2 => (some (IntKind.wrap .i64 ((IntKind.wrap .i64 (((a.length : Nat) : Int) + ((b.length : Nat) : Int))) - (IntKind.wrap .i64 ((2 : Int) * y_2))))))
theorem F27_ok (n : Nat) (a : List Int) (b : List Int) (r : Int) (h : F27 n a b = some r) : PureC Try.prog 27 [(.sl (.int .i64) a), (.sl (.int .i64) b)] (.int .i64 r) [] := by
  refine PureC.mkS Try.func27 rfl rfl ?_
  intro w0 fz0 hfz
  replace h : ((F78 n a b).bind fun y_2 => (some (IntKind.wrap .i64 ((IntKind.wrap .i64 (((a.length : Nat) : Int) + ((b.length : Nat) : Int))) - (IntKind.wrap .i64 ((2 : Int) * y_2)))))) = some r := h
  refine TS.seq ?_
  have hq : (True) ∧ (True) := ⟨trivial, trivial⟩
  refine TS.reg [] ?_ ?_
  · apply prop_of ?_ hq
    kernel_rfl
  refine XS.then ?_
  refine TS.seq ?_
  obtain ⟨y_2, hx1, h⟩ := bind_some' h
  have hq : (True) ∧ ((True) ∧ ((True) ∧ ((True) ∧ ((True) ∧ ((True) ∧ ((True) ∧ ((PureC Try.prog 78 [(.sl (.int .i64) a), (.sl (.int .i64) b)] (.int .i64 y_2) []) ∧ ((True) ∧ ((True) ∧ ((True) ∧ (True))))))))))) := ⟨trivial, ⟨trivial, ⟨trivial, ⟨trivial, ⟨trivial, ⟨trivial, ⟨trivial, ⟨F78_ok n a b y_2 hx1, ⟨trivial, ⟨trivial, ⟨trivial, trivial⟩⟩⟩⟩⟩⟩⟩⟩⟩⟩⟩
  refine TS.reg [.none, .none, .none, .none, .none, .none, .none, (.call (.int .i64 y_2) [])] ?_ ?_
  · apply prop_of ?_ hq
    kernel_rfl
  refine XS.then ?_
  refine TS.ret ?_
  obtain rfl : (IntKind.wrap .i64 ((IntKind.wrap .i64 (((a.length : Nat) : Int) + ((b.length : Nat) : Int))) - (IntKind.wrap .i64 ((2 : Int) * y_2)))) = r := Option.some.inj h
  exact XS.fin [] ((True) ∧ (True)) (by kernel_rfl) ⟨trivial, trivial⟩

/-! cmp.isNaN[int] -/
def F113 (n : Nat) (x : Int) : Option Bool := (some (x != x))
theorem F113_ok (n : Nat) (x : Int) (r : Bool) (h : F113 n x = some r) : PureC Try.prog 113 [(.int .i64 x)] (.bool r) [] := by
  refine PureC.mkS Try.func113 rfl rfl ?_
  intro w0 fz0 hfz
  replace h : (some (x != x)) = some r := h
  refine TS.seq ?_
  have hq : (True) ∧ (True) := ⟨trivial, trivial⟩
  refine TS.reg [] ?_ ?_
  · apply prop_of ?_ hq
    kernel_rfl
  refine XS.then ?_
  refine TS.seq ?_
  have hq : (True) ∧ ((True) ∧ ((True) ∧ ((True) ∧ (True)))) := ⟨trivial, ⟨trivial, ⟨trivial, ⟨trivial, trivial⟩⟩⟩⟩
  refine TS.reg [] ?_ ?_
  · apply prop_of ?_ hq
    kernel_rfl
  refine XS.then ?_
  refine TS.ret ?_
  obtain rfl : (x != x) = r := Option.some.inj h
  exact XS.fin [] ((True) ∧ (True)) (by kernel_rfl) ⟨trivial, trivial⟩

/-! cmp.Compare[int] -/
def F80 (n : Nat) (x : Int) (y : Int) : Option Int := ((F113 n x).bind fun y_3 => ((F113 n y).bind fun y_4 => (bif y_3 then (bif y_4 then (some (0 : Int)) else (some (-1 : Int))) else (bif y_4 then (some (1 : Int)) else (bif (decide (x < y)) then (some (-1 : Int)) else (bif (decide (x > y)) then (some (1 : Int)) else (some (0 : Int))))))))
theorem F80_ok (n : Nat) (x : Int) (y : Int) (r : Int) (h : F80 n x y = some r) : PureC Try.prog 80 [(.int .i64 x), (.int .i64 y)] (.int .i64 r) [] := by
  refine PureC.mkS Try.func80 rfl rfl ?_
  intro w0 fz0 hfz
  replace h : ((F113 n x).bind fun y_3 => ((F113 n y).bind fun y_4 => (bif y_3 then (bif y_4 then (some (0 : Int)) else (some (-1 : Int))) else (bif y_4 then (some (1 : Int)) else (bif (decide (x < y)) then (some (-1 : Int)) else (bif (decide (x > y)) then (some (1 : Int)) else (some (0 : Int)))))))) = some r := h
  refine TS.seq ?_
  have hq : (True) ∧ (True) := ⟨trivial, trivial⟩
  refine TS.reg [] ?_ ?_
  · apply prop_of ?_ hq
    kernel_rfl
  refine XS.then ?_
  refine TS.seq ?_
  obtain ⟨y_3, hx1, h⟩ := bind_some' h
  have hq : (True) ∧ ((PureC Try.prog 113 [(.int .i64 x)] (.bool y_3) []) ∧ ((True) ∧ (True))) := ⟨trivial, ⟨F113_ok n x y_3 hx1, ⟨trivial, trivial⟩⟩⟩
  refine TS.reg [.none, (.call (.bool y_3) [])] ?_ ?_
  · apply prop_of ?_ hq
    kernel_rfl
  refine XS.then ?_
  refine TS.seq ?_
  obtain ⟨y_4, hx2, h⟩ := bind_some' h
  have hq : (True) ∧ ((PureC Try.prog 113 [(.int .i64 y)] (.bool y_4) []) ∧ ((True) ∧ (True))) := ⟨trivial, ⟨F113_ok n y y_4 hx2, ⟨trivial, trivial⟩⟩⟩
  refine TS.reg [.none, (.call (.bool y_4) [])] ?_ ?_
  · apply prop_of ?_ hq
    kernel_rfl
  refine XS.then ?_
  refine TS.seq ?_
  refine TS.seq ?_
  have hq : (True) ∧ (True) := ⟨trivial, trivial⟩
  refine TS.reg [] ?_ ?_
  · apply prop_of ?_ hq
    kernel_rfl
  refine XS.then ?_
  rcases bif_some h with ⟨c3, h⟩ | ⟨c4, h⟩
  · refine TS.cond y_3 ?_ (fun e => ?_) (fun e => by rw [c3] at e; cases e)
    · kernel_rfl
    refine TS.seq ?_
    refine TS.seq ?_
    have hq : (True) ∧ (True) := ⟨trivial, trivial⟩
    refine TS.reg [] ?_ ?_
    · apply prop_of ?_ hq
      kernel_rfl
    refine XS.then ?_
    rcases bif_some h with ⟨c5, h⟩ | ⟨c6, h⟩
    · refine TS.cond y_4 ?_ (fun e => ?_) (fun e => by rw [c5] at e; cases e)
      · kernel_rfl
      refine TS.seq ?_
      have hq : (True) ∧ (True) := ⟨trivial, trivial⟩
      refine TS.reg [] ?_ ?_
      · apply prop_of ?_ hq
        kernel_rfl
      refine XS.then ?_
      refine TS.ret ?_
      refine XS.passR ?_
      refine XS.passR ?_
      obtain rfl : (0 : Int) = r := Option.some.inj h
      exact XS.fin [] ((True) ∧ (True)) (by kernel_rfl) ⟨trivial, trivial⟩
    · refine TS.cond y_4 ?_ (fun e => by rw [c6] at e; cases e) (fun e => ?_)
      · kernel_rfl
      refine TS.skip ?_
      refine XS.then ?_
      refine TS.seq ?_
      have hq : (True) ∧ (True) := ⟨trivial, trivial⟩
      refine TS.reg [] ?_ ?_
      · apply prop_of ?_ hq
        kernel_rfl
      refine XS.then ?_
      refine TS.ret ?_
      refine XS.passR ?_
      obtain rfl : (-1 : Int) = r := Option.some.inj h
      exact XS.fin [] ((True) ∧ (True)) (by kernel_rfl) ⟨trivial, trivial⟩
  · refine TS.cond y_3 ?_ (fun e => by rw [c4] at e; cases e) (fun e => ?_)
    · kernel_rfl
    refine TS.skip ?_
    refine XS.then ?_
    refine TS.seq ?_
    refine TS.seq ?_
    have hq : (True) ∧ (True) := ⟨trivial, trivial⟩
    refine TS.reg [] ?_ ?_
    · apply prop_of ?_ hq
      kernel_rfl
    refine XS.then ?_
    rcases bif_some h with ⟨c7, h⟩ | ⟨c8, h⟩
    · refine TS.cond y_4 ?_ (fun e => ?_) (fun e => by rw [c7] at e; cases e)
      · kernel_rfl
      refine TS.seq ?_
      have hq : (True) ∧ (True) := ⟨trivial, trivial⟩
      refine TS.reg [] ?_ ?_
      · apply prop_of ?_ hq
        kernel_rfl
      refine XS.then ?_
      refine TS.ret ?_
      refine XS.passR ?_
      obtain rfl : (1 : Int) = r := Option.some.inj h
      exact XS.fin [] ((True) ∧ (True)) (by kernel_rfl) ⟨trivial, trivial⟩
    · refine TS.cond y_4 ?_ (fun e => by rw [c8] at e; cases e) (fun e => ?_)
      · kernel_rfl
      refine TS.skip ?_
      refine XS.then ?_
      refine TS.seq ?_
      refine TS.seq ?_
      have hq : (True) ∧ ((True) ∧ ((True) ∧ (True))) := ⟨trivial, ⟨trivial, ⟨trivial, trivial⟩⟩⟩
      refine TS.reg [] ?_ ?_
      · apply prop_of ?_ hq
        kernel_rfl
      refine XS.then ?_
      rcases bif_some h with ⟨c9, h⟩ | ⟨c10, h⟩
      · refine TS.cond (decide (x < y)) ?_ (fun e => ?_) (fun e => by rw [c9] at e; cases e)
        · kernel_rfl
        refine TS.seq ?_
        have hq : (True) ∧ (True) := ⟨trivial, trivial⟩
        refine TS.reg [] ?_ ?_
        · apply prop_of ?_ hq
          kernel_rfl
        refine XS.then ?_
        refine TS.ret ?_
        refine XS.passR ?_
        obtain rfl : (-1 : Int) = r := Option.some.inj h
        exact XS.fin [] ((True) ∧ (True)) (by kernel_rfl) ⟨trivial, trivial⟩
      · refine TS.cond (decide (x < y)) ?_ (fun e => by rw [c10] at e; cases e) (fun e => ?_)
        · kernel_rfl
        refine TS.skip ?_
        refine XS.then ?_
        refine TS.seq ?_
        refine TS.seq ?_
        have hq : (True) ∧ ((True) ∧ ((True) ∧ (True))) := ⟨trivial, ⟨trivial, ⟨trivial, trivial⟩⟩⟩
        refine TS.reg [] ?_ ?_
        · apply prop_of ?_ hq
          kernel_rfl
        refine XS.then ?_
        rcases bif_some h with ⟨c11, h⟩ | ⟨c12, h⟩
        · refine TS.cond (decide (x > y)) ?_ (fun e => ?_) (fun e => by rw [c11] at e; cases e)
          · kernel_rfl
          refine TS.seq ?_
          have hq : (True) ∧ (True) := ⟨trivial, trivial⟩
          refine TS.reg [] ?_ ?_
          · apply prop_of ?_ hq
            kernel_rfl
          refine XS.then ?_
          refine TS.ret ?_
          refine XS.passR ?_
          obtain rfl : (1 : Int) = r := Option.some.inj h
          exact XS.fin [] ((True) ∧ (True)) (by kernel_rfl) ⟨trivial, trivial⟩
        · refine TS.cond (decide (x > y)) ?_ (fun e => by rw [c12] at e; cases e) (fun e => ?_)
          · kernel_rfl
          refine TS.skip ?_
          refine XS.then ?_
          refine TS.seq ?_
          have hq : (True) ∧ (True) := ⟨trivial, trivial⟩
          refine TS.reg [] ?_ ?_
          · apply prop_of ?_ hq
            kernel_rfl
          refine XS.then ?_
          refine TS.ret ?_
          obtain rfl : (0 : Int) = r := Option.some.inj h
          exact XS.fin [] ((True) ∧ (True)) (by kernel_rfl) ⟨trivial, trivial⟩

/-! plugtree/route.Order -/
def F28 (n : Nat) (a : List Int) (b : List Int) : Option Int := ((F78 n a b).bind fun y_2 => (bif (decide (y_2 < ((a.length : Nat) : Int))) then (bif (decide (y_2 < ((b.length : Nat) : Int))) then (bif inb y_2 a.length then (bif inb y_2 b.length then ((F80 n (a.getD y_2.toNat (0 : Int)) (b.getD y_2.toNat (0 : Int))).bind fun y_3 => (some y_3)) else none) else none) else ((F80 n ((a.length : Nat) : Int) ((b.length : Nat) : Int)).bind fun y_4 => (some y_4))) else ((F80 n ((a.length : Nat) : Int) ((b.length : Nat) : Int)).bind fun y_5 => (some y_5))))
theorem F28_ok (n : Nat) (a : List Int) (b : List Int) (r : Int) (h : F28 n a b = some r) : PureC Try.prog 28 [(.sl (.int .i64) a), (.sl (.int .i64) b)] (.int .i64 r) [] := by
  refine PureC.mkS Try.func28 rfl rfl ?_
  intro w0 fz0 hfz
  replace h : ((F78 n a b).bind fun y_2 => (bif (decide (y_2 < ((a.length : Nat) : Int))) then (bif (decide (y_2 < ((b.length : Nat) : Int))) then (bif inb y_2 a.length then (bif inb y_2 b.length then ((F80 n (a.getD y_2.toNat (0 : Int)) (b.getD y_2.toNat (0 : Int))).bind fun y_3 => (some y_3)) else none) else none) else ((F80 n ((a.length : Nat) : Int) ((b.length : Nat) : Int)).bind fun y_4 => (some y_4))) else ((F80 n ((a.length : Nat) : Int) ((b.length : Nat) : Int)).bind fun y_5 => (some y_5)))) = some r := h
  refine TS.seq ?_
  have hq : (True) ∧ (True) := ⟨trivial, trivial⟩
  refine TS.reg [] ?_ ?_
  · apply prop_of ?_ hq
    kernel_rfl
  refine XS.then ?_
  refine TS.seq ?_
  obtain ⟨y_2, hx1, h⟩ := bind_some' h
  have hq : (True) ∧ ((True) ∧ ((PureC Try.prog 78 [(.sl (.int .i64) a), (.sl (.int .i64) b)] (.int .i64 y_2) []) ∧ ((True) ∧ (True)))) := ⟨trivial, ⟨trivial, ⟨F78_ok n a b y_2 hx1, ⟨trivial, trivial⟩⟩⟩⟩
  refine TS.reg [.none, .none, (.call (.int .i64 y_2) [])] ?_ ?_
  · apply prop_of ?_ hq
    kernel_rfl
  refine XS.then ?_
  refine TS.seq ?_
  refine TS.seq ?_
  rcases bif_some h with ⟨c2, h⟩ | ⟨c3, h⟩
  · have hq : (True) ∧ ((True) ∧ ((True) ∧ ((True) ∧ (((True) ∧ (decide (y_2 < ((a.length : Nat) : Int))) = true) ∧ ((True) ∧ ((True) ∧ ((True) ∧ ((True) ∧ ((True) ∧ (True)))))))))) := ⟨trivial, ⟨trivial, ⟨trivial, ⟨trivial, ⟨⟨trivial, c2⟩, ⟨trivial, ⟨trivial, ⟨trivial, ⟨trivial, ⟨trivial, trivial⟩⟩⟩⟩⟩⟩⟩⟩⟩⟩
    refine TS.reg [.none, .none, .none, .none, .dec true] ?_ ?_
    · apply prop_of ?_ hq
      kernel_rfl
    refine XS.then ?_
    rcases bif_some h with ⟨c4, h⟩ | ⟨c5, h⟩
    · refine TS.cond (decide (y_2 < ((b.length : Nat) : Int))) ?_ (fun e => ?_) (fun e => by rw [c4] at e; cases e)
      · kernel_rfl
      refine TS.seq ?_
      obtain ⟨t6, h⟩ := test_some h
      obtain ⟨t7, h⟩ := test_some h
      obtain ⟨y_3, hx8, h⟩ := bind_some' h
      have hq : ((True) ∧ ((True) ∧ ((inR y_2 a.length) ∧ ((True) ∧ ((True) ∧ ((True) ∧ ((inR y_2 b.length) ∧ ((True) ∧ ((PureC Try.prog 80 [(.int .i64 (a.getD y_2.toNat (0 : Int))), (.int .i64 (b.getD y_2.toNat (0 : Int)))] (.int .i64 y_3) []) ∧ (True)))))))))) ∧ ((True) ∧ (True)) := ⟨⟨trivial, ⟨trivial, ⟨inb_ok t6, ⟨trivial, ⟨trivial, ⟨trivial, ⟨inb_ok t7, ⟨trivial, ⟨F80_ok n (a.getD y_2.toNat (0 : Int)) (b.getD y_2.toNat (0 : Int)) y_3 hx8, trivial⟩⟩⟩⟩⟩⟩⟩⟩⟩, ⟨trivial, trivial⟩⟩
      refine TS.draw 9 [] [.none, .none, .none, .none, .none, .none, .none, .none, (.call (.int .i64 y_3) [])] (by kernel_rfl) ?_ ?_
      · apply prop_of ?_ hq
        kernel_rfl
      refine XS.then ?_
      refine TS.ret ?_
      refine XS.passR ?_
      obtain rfl : y_3 = r := Option.some.inj h
      exact XS.fin [] ((True) ∧ (True)) (by kernel_rfl) ⟨trivial, trivial⟩
    · refine TS.cond (decide (y_2 < ((b.length : Nat) : Int))) ?_ (fun e => by rw [c5] at e; cases e) (fun e => ?_)
      · kernel_rfl
      refine TS.skip ?_
      refine XS.then ?_
      refine TS.seq ?_
      obtain ⟨y_4, hx9, h⟩ := bind_some' h
      have hq : (True) ∧ ((True) ∧ ((True) ∧ ((True) ∧ ((PureC Try.prog 80 [(.int .i64 ((a.length : Nat) : Int)), (.int .i64 ((b.length : Nat) : Int))] (.int .i64 y_4) []) ∧ ((True) ∧ (True)))))) := ⟨trivial, ⟨trivial, ⟨trivial, ⟨trivial, ⟨F80_ok n ((a.length : Nat) : Int) ((b.length : Nat) : Int) y_4 hx9, ⟨trivial, trivial⟩⟩⟩⟩⟩⟩
      refine TS.reg [.none, .none, .none, .none, (.call (.int .i64 y_4) [])] ?_ ?_
      · apply prop_of ?_ hq
        kernel_rfl
      refine XS.then ?_
      refine TS.ret ?_
      obtain rfl : y_4 = r := Option.some.inj h
      exact XS.fin [] ((True) ∧ (True)) (by kernel_rfl) ⟨trivial, trivial⟩
  · have hq : (True) ∧ ((True) ∧ ((True) ∧ ((True) ∧ (((True) ∧ (decide (y_2 < ((a.length : Nat) : Int))) = false) ∧ ((True) ∧ (True)))))) := ⟨trivial, ⟨trivial, ⟨trivial, ⟨trivial, ⟨⟨trivial, c3⟩, ⟨trivial, trivial⟩⟩⟩⟩⟩⟩
    refine TS.reg [.none, .none, .none, .none, .dec false] ?_ ?_
    · apply prop_of ?_ hq
      kernel_rfl
    refine XS.then ?_
    refine TS.no ?_ ?_
    · kernel_rfl
    refine TS.skip ?_
    refine XS.then ?_
    refine TS.seq ?_
    obtain ⟨y_5, hx10, h⟩ := bind_some' h
    have hq : (True) ∧ ((True) ∧ ((True) ∧ ((True) ∧ ((PureC Try.prog 80 [(.int .i64 ((a.length : Nat) : Int)), (.int .i64 ((b.length : Nat) : Int))] (.int .i64 y_5) []) ∧ ((True) ∧ (True)))))) := ⟨trivial, ⟨trivial, ⟨trivial, ⟨trivial, ⟨F80_ok n ((a.length : Nat) : Int) ((b.length : Nat) : Int) y_5 hx10, ⟨trivial, trivial⟩⟩⟩⟩⟩⟩
    refine TS.reg [.none, .none, .none, .none, (.call (.int .i64 y_5) [])] ?_ ?_
    · apply prop_of ?_ hq
      kernel_rfl
    refine XS.then ?_
    refine TS.ret ?_
    obtain rfl : y_5 = r := Option.some.inj h
    exact XS.fin [] ((True) ∧ (True)) (by kernel_rfl) ⟨trivial, trivial⟩

/-! plugtree/pluglaw.RouteMeets -/
def F5_j2 (n : Nat) (a : List Int) (b : List Int) (y_2 : List Int) : Int → Option Bool
  | want => ((F24 n a b).bind fun y_4 => (bif (y_4 == (((y_2.length : Nat) : Int) == ((b.length : Nat) : Int))) then ((F26 n a b).bind fun y_5 => ((F25 n y_5 y_2).bind fun y_6 => (bif y_6 then ((F27 n a b).bind fun y_7 => (bif (y_7 == (IntKind.wrap .i64 ((IntKind.wrap .i64 ((IntKind.wrap .i64 (((a.length : Nat) : Int) - ((y_2.length : Nat) : Int))) + ((b.length : Nat) : Int))) - ((y_2.length : Nat) : Int)))) then ((F28 n a b).bind fun y_8 => (some (y_8 == want))) else (some false))) else (some false)))) else (some false)))
def F5 (n : Nat) (a : List Int) (b : List Int) : Option Bool := (bif (decide (((a.length : Nat) : Int) > (1000 : Int))) then (some true) else (bif (decide (((b.length : Nat) : Int) > (1000 : Int))) then (some true) else ((F22 n a b).bind fun y_2 => ((F23 n a b).bind fun y_3 => (bif y_3 then (F5_j2 n a b y_2 (-1 : Int)) else ((F23 n b a).bind fun y_9 => (bif y_9 then (F5_j2 n a b y_2 (1 : Int)) else (F5_j2 n a b y_2 (0 : Int)))))))))
theorem F5_ok (n : Nat) (a : List Int) (b : List Int) (r : Bool) (h : F5 n a b = some r) : PureC Try.prog 5 [(.sl (.int .i64) a), (.sl (.int .i64) b)] (.bool r) [] := by
  refine PureC.mkS Try.func5 rfl rfl ?_
  intro w0 fz0 hfz
  replace h : (bif (decide (((a.length : Nat) : Int) > (1000 : Int))) then (some true) else (bif (decide (((b.length : Nat) : Int) > (1000 : Int))) then (some true) else ((F22 n a b).bind fun y_2 => ((F23 n a b).bind fun y_3 => (bif y_3 then (F5_j2 n a b y_2 (-1 : Int)) else ((F23 n b a).bind fun y_9 => (bif y_9 then (F5_j2 n a b y_2 (1 : Int)) else (F5_j2 n a b y_2 (0 : Int))))))))) = some r := h
  refine TS.seq ?_
  have hq : (True) ∧ (True) := ⟨trivial, trivial⟩
  refine TS.reg [] ?_ ?_
  · apply prop_of ?_ hq
    kernel_rfl
  refine XS.then ?_
  refine TS.seq ?_
  refine TS.seq ?_
  rcases bif_some h with ⟨c1, h⟩ | ⟨c2, h⟩
  · have hq : (True) ∧ ((True) ∧ ((True) ∧ (((True) ∧ (decide (((a.length : Nat) : Int) > (1000 : Int))) = true) ∧ ((True) ∧ (True))))) := ⟨trivial, ⟨trivial, ⟨trivial, ⟨⟨trivial, c1⟩, ⟨trivial, trivial⟩⟩⟩⟩⟩
    refine TS.reg [.none, .none, .none, .dec true] ?_ ?_
    · apply prop_of ?_ hq
      kernel_rfl
    refine XS.then ?_
    refine TS.yes ?_ ?_
    · kernel_rfl
    refine TS.seq ?_
    have hq : (True) ∧ (True) := ⟨trivial, trivial⟩
    refine TS.reg [] ?_ ?_
    · apply prop_of ?_ hq
      kernel_rfl
    refine XS.then ?_
    refine TS.ret ?_
    refine XS.passR ?_
    obtain rfl : true = r := Option.some.inj h
    exact XS.fin [] ((True) ∧ (True)) (by kernel_rfl) ⟨trivial, trivial⟩
  · have hq : (True) ∧ ((True) ∧ ((True) ∧ (((True) ∧ (decide (((a.length : Nat) : Int) > (1000 : Int))) = false) ∧ ((True) ∧ ((True) ∧ ((True) ∧ ((True) ∧ (True)))))))) := ⟨trivial, ⟨trivial, ⟨trivial, ⟨⟨trivial, c2⟩, ⟨trivial, ⟨trivial, ⟨trivial, ⟨trivial, trivial⟩⟩⟩⟩⟩⟩⟩⟩
    refine TS.reg [.none, .none, .none, .dec false] ?_ ?_
    · apply prop_of ?_ hq
      kernel_rfl
    refine XS.then ?_
    rcases bif_some h with ⟨c3, h⟩ | ⟨c4, h⟩
    · refine TS.cond (decide (((b.length : Nat) : Int) > (1000 : Int))) ?_ (fun e => ?_) (fun e => by rw [c3] at e; cases e)
      · kernel_rfl
      refine TS.seq ?_
      have hq : (True) ∧ (True) := ⟨trivial, trivial⟩
      refine TS.reg [] ?_ ?_
      · apply prop_of ?_ hq
        kernel_rfl
      refine XS.then ?_
      refine TS.ret ?_
      refine XS.passR ?_
      obtain rfl : true = r := Option.some.inj h
      exact XS.fin [] ((True) ∧ (True)) (by kernel_rfl) ⟨trivial, trivial⟩
    · refine TS.cond (decide (((b.length : Nat) : Int) > (1000 : Int))) ?_ (fun e => by rw [c4] at e; cases e) (fun e => ?_)
      · kernel_rfl
      refine TS.skip ?_
      refine XS.then ?_
      refine TS.seq ?_
      obtain ⟨y_2, hx5, h⟩ := bind_some' h
      have hq : (True) ∧ ((True) ∧ ((PureC Try.prog 22 [(.sl (.int .i64) a), (.sl (.int .i64) b)] (.sl (.int .i64) y_2) []) ∧ ((True) ∧ (True)))) := ⟨trivial, ⟨trivial, ⟨F22_ok n a b y_2 hx5, ⟨trivial, trivial⟩⟩⟩⟩
      refine TS.reg [.none, .none, (.call (.sl (.int .i64) y_2) [])] ?_ ?_
      · apply prop_of ?_ hq
        kernel_rfl
      refine XS.then ?_
      refine TS.seq ?_
      have hq : (True) ∧ (True) := ⟨trivial, trivial⟩
      refine TS.reg [] ?_ ?_
      · apply prop_of ?_ hq
        kernel_rfl
      refine XS.then ?_
      refine TS.seq ?_
      refine TS.seq ?_
      obtain ⟨y_3, hx6, h⟩ := bind_some' h
      have hq : (True) ∧ ((True) ∧ ((PureC Try.prog 23 [(.sl (.int .i64) a), (.sl (.int .i64) b)] (.bool y_3) []) ∧ (True))) := ⟨trivial, ⟨trivial, ⟨F23_ok n a b y_3 hx6, trivial⟩⟩⟩
      refine TS.reg [.none, .none, (.call (.bool y_3) [])] ?_ ?_
      · apply prop_of ?_ hq
        kernel_rfl
      refine XS.then ?_
      refine TS.cut (D := Int) (fun d => match d with | want => (mkTs 64 [(0, (.sl (.int .i64) a)), (1, (.sl (.int .i64) b)), (5, (.sl (.int .i64) y_2)), (6, (.int .i64 want))], [])) (fun d => F5_j2 n a b y_2 d = some r) ?_ ?_
      · rintro want h
        replace h : ((F24 n a b).bind fun y_4 => (bif (y_4 == (((y_2.length : Nat) : Int) == ((b.length : Nat) : Int))) then ((F26 n a b).bind fun y_5 => ((F25 n y_5 y_2).bind fun y_6 => (bif y_6 then ((F27 n a b).bind fun y_7 => (bif (y_7 == (IntKind.wrap .i64 ((IntKind.wrap .i64 ((IntKind.wrap .i64 (((a.length : Nat) : Int) - ((y_2.length : Nat) : Int))) + ((b.length : Nat) : Int))) - ((y_2.length : Nat) : Int)))) then ((F28 n a b).bind fun y_8 => (some (y_8 == want))) else (some false))) else (some false)))) else (some false))) = some r := h
        refine XS.then ?_
        refine TS.seq ?_
        obtain ⟨y_4, hx7, h⟩ := bind_some' h
        rcases bif_some h with ⟨c8, h⟩ | ⟨c9, h⟩
        · obtain ⟨y_5, hx10, h⟩ := bind_some' h
          obtain ⟨y_6, hx11, h⟩ := bind_some' h
          rcases bif_some h with ⟨c12, h⟩ | ⟨c13, h⟩
          · obtain ⟨y_7, hx14, h⟩ := bind_some' h
            rcases bif_some h with ⟨c15, h⟩ | ⟨c16, h⟩
            · obtain ⟨y_8, hx17, h⟩ := bind_some' h
              have hq : (True) ∧ ((True) ∧ ((PureC Try.prog 24 [(.sl (.int .i64) a), (.sl (.int .i64) b)] (.bool y_4) []) ∧ ((True) ∧ ((True) ∧ ((True) ∧ ((True) ∧ ((True) ∧ ((True) ∧ (((True) ∧ (y_4 == (((y_2.length : Nat) : Int) == ((b.length : Nat) : Int))) = true) ∧ ((True) ∧ ((True) ∧ ((PureC Try.prog 26 [(.sl (.int .i64) a), (.sl (.int .i64) b)] (.row 0) [(.row 3 (.int .i64) y_5)]) ∧ ((True) ∧ ((((True) ∧ ((True) ∧ (True))) ∧ PureC Try.prog 25 [(.sl (.int .i64) y_5), (.sl (.int .i64) y_2)] (.bool y_6) []) ∧ ((True) ∧ (((True) ∧ y_6 = true) ∧ ((True) ∧ ((True) ∧ ((PureC Try.prog 27 [(.sl (.int .i64) a), (.sl (.int .i64) b)] (.int .i64 y_7) []) ∧ ((True) ∧ ((True) ∧ ((True) ∧ ((True) ∧ ((True) ∧ ((True) ∧ ((True) ∧ ((True) ∧ ((True) ∧ ((True) ∧ ((True) ∧ ((True) ∧ ((True) ∧ (((True) ∧ (y_7 == (IntKind.wrap .i64 ((IntKind.wrap .i64 ((IntKind.wrap .i64 (((a.length : Nat) : Int) - ((y_2.length : Nat) : Int))) + ((b.length : Nat) : Int))) - ((y_2.length : Nat) : Int)))) = true) ∧ ((True) ∧ ((True) ∧ ((PureC Try.prog 28 [(.sl (.int .i64) a), (.sl (.int .i64) b)] (.int .i64 y_8) []) ∧ ((True) ∧ ((True) ∧ ((True) ∧ ((True) ∧ (True))))))))))))))))))))))))))))))))))))))))) := ⟨trivial, ⟨trivial, ⟨F24_ok n a b y_4 hx7, ⟨trivial, ⟨trivial, ⟨trivial, ⟨trivial, ⟨trivial, ⟨trivial, ⟨⟨trivial, c8⟩, ⟨trivial, ⟨trivial, ⟨F26_ok n a b y_5 hx10, ⟨trivial, ⟨⟨⟨trivial, ⟨trivial, trivial⟩⟩, F25_ok n y_5 y_2 y_6 hx11⟩, ⟨trivial, ⟨⟨trivial, c12⟩, ⟨trivial, ⟨trivial, ⟨F27_ok n a b y_7 hx14, ⟨trivial, ⟨trivial, ⟨trivial, ⟨trivial, ⟨trivial, ⟨trivial, ⟨trivial, ⟨trivial, ⟨trivial, ⟨trivial, ⟨trivial, ⟨trivial, ⟨trivial, ⟨⟨trivial, c15⟩, ⟨trivial, ⟨trivial, ⟨F28_ok n a b y_8 hx17, ⟨trivial, ⟨trivial, ⟨trivial, ⟨trivial, trivial⟩⟩⟩⟩⟩⟩⟩⟩⟩⟩⟩⟩⟩⟩⟩⟩⟩⟩⟩⟩⟩⟩⟩⟩⟩⟩⟩⟩⟩⟩⟩⟩⟩⟩⟩⟩⟩⟩⟩⟩⟩
              refine TS.reg [.none, .none, (.call (.bool y_4) []), .none, .none, .none, .none, .none, .none, .dec true, .none, .none, (.call (.row 0) [(.row 3 (.int .i64) y_5)]), .none, (.call (.bool y_6) []), .none, .dec true, .none, .none, (.call (.int .i64 y_7) []), .none, .none, .none, .none, .none, .none, .none, .none, .none, .none, .none, .none, .none, .dec true, .none, .none, (.call (.int .i64 y_8) [])] ?_ ?_
              · apply prop_of ?_ hq
                kernel_rfl
              refine XS.then ?_
              refine TS.ret ?_
              obtain rfl : (y_8 == want) = r := Option.some.inj h
              exact XS.fin [] ((True) ∧ (True)) (by kernel_rfl) ⟨trivial, trivial⟩
            · have hq : (True) ∧ ((True) ∧ ((PureC Try.prog 24 [(.sl (.int .i64) a), (.sl (.int .i64) b)] (.bool y_4) []) ∧ ((True) ∧ ((True) ∧ ((True) ∧ ((True) ∧ ((True) ∧ ((True) ∧ (((True) ∧ (y_4 == (((y_2.length : Nat) : Int) == ((b.length : Nat) : Int))) = true) ∧ ((True) ∧ ((True) ∧ ((PureC Try.prog 26 [(.sl (.int .i64) a), (.sl (.int .i64) b)] (.row 0) [(.row 3 (.int .i64) y_5)]) ∧ ((True) ∧ ((((True) ∧ ((True) ∧ (True))) ∧ PureC Try.prog 25 [(.sl (.int .i64) y_5), (.sl (.int .i64) y_2)] (.bool y_6) []) ∧ ((True) ∧ (((True) ∧ y_6 = true) ∧ ((True) ∧ ((True) ∧ ((PureC Try.prog 27 [(.sl (.int .i64) a), (.sl (.int .i64) b)] (.int .i64 y_7) []) ∧ ((True) ∧ ((True) ∧ ((True) ∧ ((True) ∧ ((True) ∧ ((True) ∧ ((True) ∧ ((True) ∧ ((True) ∧ ((True) ∧ ((True) ∧ ((True) ∧ ((True) ∧ (((True) ∧ (y_7 == (IntKind.wrap .i64 ((IntKind.wrap .i64 ((IntKind.wrap .i64 (((a.length : Nat) : Int) - ((y_2.length : Nat) : Int))) + ((b.length : Nat) : Int))) - ((y_2.length : Nat) : Int)))) = false) ∧ ((True) ∧ ((True) ∧ (True)))))))))))))))))))))))))))))))))))) := ⟨trivial, ⟨trivial, ⟨F24_ok n a b y_4 hx7, ⟨trivial, ⟨trivial, ⟨trivial, ⟨trivial, ⟨trivial, ⟨trivial, ⟨⟨trivial, c8⟩, ⟨trivial, ⟨trivial, ⟨F26_ok n a b y_5 hx10, ⟨trivial, ⟨⟨⟨trivial, ⟨trivial, trivial⟩⟩, F25_ok n y_5 y_2 y_6 hx11⟩, ⟨trivial, ⟨⟨trivial, c12⟩, ⟨trivial, ⟨trivial, ⟨F27_ok n a b y_7 hx14, ⟨trivial, ⟨trivial, ⟨trivial, ⟨trivial, ⟨trivial, ⟨trivial, ⟨trivial, ⟨trivial, ⟨trivial, ⟨trivial, ⟨trivial, ⟨trivial, ⟨trivial, ⟨⟨trivial, c16⟩, ⟨trivial, ⟨trivial, trivial⟩⟩⟩⟩⟩⟩⟩⟩⟩⟩⟩⟩⟩⟩⟩⟩⟩⟩⟩⟩⟩⟩⟩⟩⟩⟩⟩⟩⟩⟩⟩⟩⟩⟩⟩⟩
              refine TS.reg [.none, .none, (.call (.bool y_4) []), .none, .none, .none, .none, .none, .none, .dec true, .none, .none, (.call (.row 0) [(.row 3 (.int .i64) y_5)]), .none, (.call (.bool y_6) []), .none, .dec true, .none, .none, (.call (.int .i64 y_7) []), .none, .none, .none, .none, .none, .none, .none, .none, .none, .none, .none, .none, .none, .dec false] ?_ ?_
              · apply prop_of ?_ hq
                kernel_rfl
              refine XS.then ?_
              refine TS.ret ?_
              obtain rfl : false = r := Option.some.inj h
              exact XS.fin [] ((True) ∧ (True)) (by kernel_rfl) ⟨trivial, trivial⟩
          · have hq : (True) ∧ ((True) ∧ ((PureC Try.prog 24 [(.sl (.int .i64) a), (.sl (.int .i64) b)] (.bool y_4) []) ∧ ((True) ∧ ((True) ∧ ((True) ∧ ((True) ∧ ((True) ∧ ((True) ∧ (((True) ∧ (y_4 == (((y_2.length : Nat) : Int) == ((b.length : Nat) : Int))) = true) ∧ ((True) ∧ ((True) ∧ ((PureC Try.prog 26 [(.sl (.int .i64) a), (.sl (.int .i64) b)] (.row 0) [(.row 3 (.int .i64) y_5)]) ∧ ((True) ∧ ((((True) ∧ ((True) ∧ (True))) ∧ PureC Try.prog 25 [(.sl (.int .i64) y_5), (.sl (.int .i64) y_2)] (.bool y_6) []) ∧ ((True) ∧ (((True) ∧ y_6 = false) ∧ ((True) ∧ ((True) ∧ ((True) ∧ ((True) ∧ (True))))))))))))))))))))) := ⟨trivial, ⟨trivial, ⟨F24_ok n a b y_4 hx7, ⟨trivial, ⟨trivial, ⟨trivial, ⟨trivial, ⟨trivial, ⟨trivial, ⟨⟨trivial, c8⟩, ⟨trivial, ⟨trivial, ⟨F26_ok n a b y_5 hx10, ⟨trivial, ⟨⟨⟨trivial, ⟨trivial, trivial⟩⟩, F25_ok n y_5 y_2 y_6 hx11⟩, ⟨trivial, ⟨⟨trivial, c13⟩, ⟨trivial, ⟨trivial, ⟨trivial, ⟨trivial, trivial⟩⟩⟩⟩⟩⟩⟩⟩⟩⟩⟩⟩⟩⟩⟩⟩⟩⟩⟩⟩⟩
            refine TS.reg [.none, .none, (.call (.bool y_4) []), .none, .none, .none, .none, .none, .none, .dec true, .none, .none, (.call (.row 0) [(.row 3 (.int .i64) y_5)]), .none, (.call (.bool y_6) []), .none, .dec false] ?_ ?_
            · apply prop_of ?_ hq
              kernel_rfl
            refine XS.then ?_
            refine TS.ret ?_
            obtain rfl : false = r := Option.some.inj h
            exact XS.fin [] ((True) ∧ (True)) (by kernel_rfl) ⟨trivial, trivial⟩
        · have hq : (True) ∧ ((True) ∧ ((PureC Try.prog 24 [(.sl (.int .i64) a), (.sl (.int .i64) b)] (.bool y_4) []) ∧ ((True) ∧ ((True) ∧ ((True) ∧ ((True) ∧ ((True) ∧ ((True) ∧ (((True) ∧ (y_4 == (((y_2.length : Nat) : Int) == ((b.length : Nat) : Int))) = false) ∧ ((True) ∧ ((True) ∧ ((True) ∧ ((True) ∧ ((True) ∧ ((True) ∧ (True)))))))))))))))) := ⟨trivial, ⟨trivial, ⟨F24_ok n a b y_4 hx7, ⟨trivial, ⟨trivial, ⟨trivial, ⟨trivial, ⟨trivial, ⟨trivial, ⟨⟨trivial, c9⟩, ⟨trivial, ⟨trivial, ⟨trivial, ⟨trivial, ⟨trivial, ⟨trivial, trivial⟩⟩⟩⟩⟩⟩⟩⟩⟩⟩⟩⟩⟩⟩⟩⟩
          refine TS.reg [.none, .none, (.call (.bool y_4) []), .none, .none, .none, .none, .none, .none, .dec false] ?_ ?_
          · apply prop_of ?_ hq
            kernel_rfl
          refine XS.then ?_
          refine TS.ret ?_
          obtain rfl : false = r := Option.some.inj h
          exact XS.fin [] ((True) ∧ (True)) (by kernel_rfl) ⟨trivial, trivial⟩
      · rcases bif_some h with ⟨c18, h⟩ | ⟨c19, h⟩
        · refine TS.cond y_3 ?_ (fun e => ?_) (fun e => by rw [c18] at e; cases e)
          · kernel_rfl
          have hq : (True) ∧ (True) := ⟨trivial, trivial⟩
          refine TS.reg [] ?_ ?_
          · apply prop_of ?_ hq
            kernel_rfl
          refine XS.reAny [] (mkMask 64 [0, 1, 5, 6]) (-1 : Int) h ?_
          kernel_rfl
        · refine TS.cond y_3 ?_ (fun e => by rw [c19] at e; cases e) (fun e => ?_)
          · kernel_rfl
          refine TS.seq ?_
          obtain ⟨y_9, hx20, h⟩ := bind_some' h
          have hq : (True) ∧ ((True) ∧ ((PureC Try.prog 23 [(.sl (.int .i64) b), (.sl (.int .i64) a)] (.bool y_9) []) ∧ (True))) := ⟨trivial, ⟨trivial, ⟨F23_ok n b a y_9 hx20, trivial⟩⟩⟩
          refine TS.reg [.none, .none, (.call (.bool y_9) [])] ?_ ?_
          · apply prop_of ?_ hq
            kernel_rfl
          refine XS.then ?_
          rcases bif_some h with ⟨c21, h⟩ | ⟨c22, h⟩
          · refine TS.cond y_9 ?_ (fun e => ?_) (fun e => by rw [c21] at e; cases e)
            · kernel_rfl
            have hq : (True) ∧ (True) := ⟨trivial, trivial⟩
            refine TS.reg [] ?_ ?_
            · apply prop_of ?_ hq
              kernel_rfl
            refine XS.reAny [] (mkMask 64 [0, 1, 5, 6]) (1 : Int) h ?_
            kernel_rfl
          · refine TS.cond y_9 ?_ (fun e => by rw [c22] at e; cases e) (fun e => ?_)
            · kernel_rfl
            refine TS.skip ?_
            refine XS.reAny [] (mkMask 64 [0, 1, 5, 6]) (0 : Int) h ?_
            kernel_rfl

/-! plugtree/route.Check -/
def F35_l2 (n : Nat) (path : List Int) (k35_2 : Int → Option Int) : Int → Option Int
  | x => (bif (decide (x < ((path.length : Nat) : Int))) then (bif inb x path.length then (bif (decide ((path.getD x.toNat (0 : Int)) < (1 : Int))) then (some (1 : Int)) else (bif (decide ((path.getD x.toNat (0 : Int)) > (15 : Int))) then (some (1 : Int)) else (k35_2 (IntKind.wrap .i64 (x + (1 : Int)))))) else none) else (some (0 : Int)))
def F35 (n : Nat) (path : List Int) : Option Int := (bif (((path.length : Nat) : Int) == (0 : Int)) then (some (1 : Int)) else (bif (decide (((path.length : Nat) : Int) > (6 : Int))) then (some (2 : Int)) else (loopF (F35_l2 n path) n (0 : Int))))
theorem F35_ok (n : Nat) (path : List Int) (r : Int) (h : F35 n path = some r) : PureC Try.prog 35 [(.sl (.int .i64) path)] (.int .i64 r) [] := by
  refine PureC.mkS Try.func35 rfl rfl ?_
  intro w0 fz0 hfz
  replace h : (bif (((path.length : Nat) : Int) == (0 : Int)) then (some (1 : Int)) else (bif (decide (((path.length : Nat) : Int) > (6 : Int))) then (some (2 : Int)) else (loopF (F35_l2 n path) n (0 : Int)))) = some r := h
  refine TS.seq ?_
  have hq : (True) ∧ (True) := ⟨trivial, trivial⟩
  refine TS.reg [] ?_ ?_
  · apply prop_of ?_ hq
    kernel_rfl
  refine XS.then ?_
  refine TS.seq ?_
  refine TS.block ?_
  refine TS.seq ?_
  have hq : (True) ∧ ((True) ∧ ((True) ∧ ((True) ∧ (True)))) := ⟨trivial, ⟨trivial, ⟨trivial, ⟨trivial, trivial⟩⟩⟩⟩
  refine TS.reg [] ?_ ?_
  · apply prop_of ?_ hq
    kernel_rfl
  refine XS.then ?_
  rcases bif_some h with ⟨c1, h⟩ | ⟨c2, h⟩
  · refine TS.cond (((path.length : Nat) : Int) == (0 : Int)) ?_ (fun e => ?_) (fun e => by rw [c1] at e; cases e)
    · kernel_rfl
    refine TS.seq ?_
    have hq : (True) ∧ (True) := ⟨trivial, trivial⟩
    refine TS.reg [] ?_ ?_
    · apply prop_of ?_ hq
      kernel_rfl
    refine XS.then ?_
    refine TS.ret ?_
    refine XS.blockRet ?_
    refine XS.passR ?_
    obtain rfl : (1 : Int) = r := Option.some.inj h
    exact XS.fin [] ((True) ∧ (True)) (by kernel_rfl) ⟨trivial, trivial⟩
  · refine TS.cond (((path.length : Nat) : Int) == (0 : Int)) ?_ (fun e => by rw [c2] at e; cases e) (fun e => ?_)
    · kernel_rfl
    refine TS.seq ?_
    have hq : (True) ∧ ((True) ∧ ((True) ∧ ((True) ∧ (True)))) := ⟨trivial, ⟨trivial, ⟨trivial, ⟨trivial, trivial⟩⟩⟩⟩
    refine TS.reg [] ?_ ?_
    · apply prop_of ?_ hq
      kernel_rfl
    refine XS.then ?_
    rcases bif_some h with ⟨c3, h⟩ | ⟨c4, h⟩
    · refine TS.cond (decide (((path.length : Nat) : Int) > (6 : Int))) ?_ (fun e => ?_) (fun e => by rw [c3] at e; cases e)
      · kernel_rfl
      refine TS.seq ?_
      have hq : (True) ∧ (True) := ⟨trivial, trivial⟩
      refine TS.reg [] ?_ ?_
      · apply prop_of ?_ hq
        kernel_rfl
      refine XS.then ?_
      refine TS.ret ?_
      refine XS.blockRet ?_
      refine XS.passR ?_
      obtain rfl : (2 : Int) = r := Option.some.inj h
      exact XS.fin [] ((True) ∧ (True)) (by kernel_rfl) ⟨trivial, trivial⟩
    · refine TS.cond (decide (((path.length : Nat) : Int) > (6 : Int))) ?_ (fun e => by rw [c4] at e; cases e) (fun e => ?_)
      · kernel_rfl
      refine TS.skip ?_
      refine XS.blockEnd ?_
      refine XS.then ?_
      refine TS.seq ?_
      refine TS.seq ?_
      have hq : (True) ∧ ((True) ∧ ((True) ∧ (True))) := ⟨trivial, ⟨trivial, ⟨trivial, trivial⟩⟩⟩
      refine TS.reg [] ?_ ?_
      · apply prop_of ?_ hq
        kernel_rfl
      refine XS.then ?_
      refine TS.block ?_
      refine TS.reLoop [] (mkMask 26 [13, 14, 15]) (D := Int) (fun d => match d with | x => (mkTs 26 [(13, (.sl (.int .i64) path)), (14, (.int .i64 ((path.length : Nat) : Int))), (15, (.int .i64 x))], [])) (fun n' d => loopF (F35_l2 n path) n' d = some r) n (0 : Int) h ?_ (fun d => loopF_zero _ d r) ?_
      · kernel_rfl
      · rintro n2 x h
        replace h : (bif (decide (x < ((path.length : Nat) : Int))) then (bif inb x path.length then (bif (decide ((path.getD x.toNat (0 : Int)) < (1 : Int))) then (some (1 : Int)) else (bif (decide ((path.getD x.toNat (0 : Int)) > (15 : Int))) then (some (1 : Int)) else ((loopF (F35_l2 n path) n2) (IntKind.wrap .i64 (x + (1 : Int)))))) else none) else (some (0 : Int))) = some r := h
        refine TS.seq ?_
        have hq : (True) ∧ (True) := ⟨trivial, trivial⟩
        refine TS.reg [] ?_ ?_
        · apply prop_of ?_ hq
          kernel_rfl
        refine XS.then ?_
        refine TS.seq ?_
        rcases bif_some h with ⟨c5, h⟩ | ⟨c6, h⟩
        · refine TS.cond (decide (x < ((path.length : Nat) : Int))) ?_ (fun e => ?_) (fun e => by rw [c5] at e; cases e)
          · kernel_rfl
          refine TS.skip ?_
          refine XS.then ?_
          refine TS.seq ?_
          refine TS.block ?_
          refine TS.seq ?_
          obtain ⟨t7, h⟩ := test_some h
          have hq : (inR x path.length) ∧ ((True) ∧ ((True) ∧ (True))) := ⟨inb_ok t7, ⟨trivial, ⟨trivial, trivial⟩⟩⟩
          refine TS.reg [] ?_ ?_
          · apply prop_of ?_ hq
            kernel_rfl
          refine XS.then ?_
          refine TS.seq ?_
          rcases bif_some h with ⟨c8, h⟩ | ⟨c9, h⟩
          · have hq : (True) ∧ ((True) ∧ (((True) ∧ (decide ((path.getD x.toNat (0 : Int)) < (1 : Int))) = true) ∧ ((True) ∧ (True)))) := ⟨trivial, ⟨trivial, ⟨⟨trivial, c8⟩, ⟨trivial, trivial⟩⟩⟩⟩
            refine TS.reg [.none, .none, .dec true] ?_ ?_
            · apply prop_of ?_ hq
              kernel_rfl
            refine XS.then ?_
            refine TS.yes ?_ ?_
            · kernel_rfl
            refine TS.seq ?_
            have hq : (True) ∧ (True) := ⟨trivial, trivial⟩
            refine TS.reg [] ?_ ?_
            · apply prop_of ?_ hq
              kernel_rfl
            refine XS.then ?_
            refine TS.ret ?_
            refine XS.blockRet ?_
            refine XS.passR ?_
            refine XS.passR ?_
            refine XS.blockRet ?_
            refine XS.passR ?_
            obtain rfl : (1 : Int) = r := Option.some.inj h
            exact XS.fin [] ((True) ∧ (True)) (by kernel_rfl) ⟨trivial, trivial⟩
          · have hq : (True) ∧ ((True) ∧ (((True) ∧ (decide ((path.getD x.toNat (0 : Int)) < (1 : Int))) = false) ∧ ((True) ∧ ((True) ∧ ((True) ∧ (True)))))) := ⟨trivial, ⟨trivial, ⟨⟨trivial, c9⟩, ⟨trivial, ⟨trivial, ⟨trivial, trivial⟩⟩⟩⟩⟩⟩
            refine TS.reg [.none, .none, .dec false] ?_ ?_
            · apply prop_of ?_ hq
              kernel_rfl
            refine XS.then ?_
            rcases bif_some h with ⟨c10, h⟩ | ⟨c11, h⟩
            · refine TS.cond (decide ((path.getD x.toNat (0 : Int)) > (15 : Int))) ?_ (fun e => ?_) (fun e => by rw [c10] at e; cases e)
              · kernel_rfl
              refine TS.seq ?_
              have hq : (True) ∧ (True) := ⟨trivial, trivial⟩
              refine TS.reg [] ?_ ?_
              · apply prop_of ?_ hq
                kernel_rfl
              refine XS.then ?_
              refine TS.ret ?_
              refine XS.blockRet ?_
              refine XS.passR ?_
              refine XS.passR ?_
              refine XS.blockRet ?_
              refine XS.passR ?_
              obtain rfl : (1 : Int) = r := Option.some.inj h
              exact XS.fin [] ((True) ∧ (True)) (by kernel_rfl) ⟨trivial, trivial⟩
            · refine TS.cond (decide ((path.getD x.toNat (0 : Int)) > (15 : Int))) ?_ (fun e => by rw [c11] at e; cases e) (fun e => ?_)
              · kernel_rfl
              refine TS.skip ?_
              refine XS.blockEnd ?_
              refine XS.then ?_
              have hq : (True) ∧ ((True) ∧ (True)) := ⟨trivial, ⟨trivial, trivial⟩⟩
              refine TS.reg [] ?_ ?_
              · apply prop_of ?_ hq
                kernel_rfl
              refine XS.reAny [] (mkMask 26 [13, 14, 15]) (IntKind.wrap .i64 (x + (1 : Int))) h ?_
              kernel_rfl
        · refine TS.cond (decide (x < ((path.length : Nat) : Int))) ?_ (fun e => by rw [c6] at e; cases e) (fun e => ?_)
          · kernel_rfl
          refine TS.exit ?_
          refine XS.passE ?_
          refine XS.passE ?_
          refine XS.out ?_
          refine XS.then ?_
          refine TS.seq ?_
          have hq : (True) ∧ (True) := ⟨trivial, trivial⟩
          refine TS.reg [] ?_ ?_
          · apply prop_of ?_ hq
            kernel_rfl
          refine XS.then ?_
          refine TS.ret ?_
          obtain rfl : (0 : Int) = r := Option.some.inj h
          exact XS.fin [] ((True) ∧ (True)) (by kernel_rfl) ⟨trivial, trivial⟩

/-! plugtree/route.Pack -/
def F31_l2 (n : Nat) (path : List Int) (k31_2 : (Int × Int) → Option (Int × Int)) : (Int × Int) → Option (Int × Int)
  | (vn, x) => (bif (decide (x < ((path.length : Nat) : Int))) then (bif inb x path.length then (bif (decide (0 ≤ (IntKind.wrap .u64 ((IntKind.wrap .i64 ((4 : Int) * x)))))) then (k31_2 ((bitsI .or .i64 vn (shlI .i64 (path.getD x.toNat (0 : Int)) (IntKind.wrap .u64 ((IntKind.wrap .i64 ((4 : Int) * x)))))), (IntKind.wrap .i64 (x + (1 : Int))))) else none) else none) else (some (vn, (0 : Int))))
def F31 (n : Nat) (path : List Int) : Option (Int × Int) := ((F35 n path).bind fun y_3 => (bif (y_3 != (0 : Int)) then (some ((0 : Int), y_3)) else (loopF (F31_l2 n path) n ((0 : Int), (0 : Int)))))
theorem F31_ok (n : Nat) (path : List Int) (r : Int × Int) (h : F31 n path = some r) : PureC Try.prog 31 [(.sl (.int .i64) path)] (.tup (.cons (.int .i64 r.1) (.cons (.int .i64 r.2) .nil))) [] := by
  refine PureC.mkS Try.func31 rfl rfl ?_
  intro w0 fz0 hfz
  replace h : ((F35 n path).bind fun y_3 => (bif (y_3 != (0 : Int)) then (some ((0 : Int), y_3)) else (loopF (F31_l2 n path) n ((0 : Int), (0 : Int))))) = some r := h
  refine TS.seq ?_
  have hq : (True) ∧ ((True) ∧ (True)) := ⟨trivial, ⟨trivial, trivial⟩⟩
  refine TS.reg [] ?_ ?_
  · apply prop_of ?_ hq
    kernel_rfl
  refine XS.then ?_
  refine TS.seq ?_
  refine TS.seq ?_
  obtain ⟨y_3, hx1, h⟩ := bind_some' h
  have hq : (True) ∧ ((PureC Try.prog 35 [(.sl (.int .i64) path)] (.int .i64 y_3) []) ∧ ((True) ∧ (True))) := ⟨trivial, ⟨F35_ok n path y_3 hx1, ⟨trivial, trivial⟩⟩⟩
  refine TS.reg [.none, (.call (.int .i64 y_3) [])] ?_ ?_
  · apply prop_of ?_ hq
    kernel_rfl
  refine XS.then ?_
  refine TS.seq ?_
  have hq : (True) ∧ ((True) ∧ (True)) := ⟨trivial, ⟨trivial, trivial⟩⟩
  refine TS.reg [] ?_ ?_
  · apply prop_of ?_ hq
    kernel_rfl
  refine XS.then ?_
  rcases bif_some h with ⟨c2, h⟩ | ⟨c3, h⟩
  · refine TS.cond (y_3 != (0 : Int)) ?_ (fun e => ?_) (fun e => by rw [c2] at e; cases e)
    · kernel_rfl
    refine TS.seq ?_
    have hq : (True) ∧ ((True) ∧ ((True) ∧ (True))) := ⟨trivial, ⟨trivial, ⟨trivial, trivial⟩⟩⟩
    refine TS.reg [] ?_ ?_
    · apply prop_of ?_ hq
      kernel_rfl
    refine XS.then ?_
    refine TS.ret ?_
    refine XS.passR ?_
    obtain rfl : ((0 : Int), y_3) = r := Option.some.inj h
    exact XS.fin [] ((True) ∧ ((True) ∧ (True))) (by kernel_rfl) ⟨trivial, ⟨trivial, trivial⟩⟩
  · refine TS.cond (y_3 != (0 : Int)) ?_ (fun e => by rw [c3] at e; cases e) (fun e => ?_)
    · kernel_rfl
    refine TS.skip ?_
    refine XS.then ?_
    refine TS.seq ?_
    have hq : (True) ∧ (True) := ⟨trivial, trivial⟩
    refine TS.reg [] ?_ ?_
    · apply prop_of ?_ hq
      kernel_rfl
    refine XS.then ?_
    refine TS.seq ?_
    refine TS.seq ?_
    have hq : (True) ∧ ((True) ∧ ((True) ∧ (True))) := ⟨trivial, ⟨trivial, ⟨trivial, trivial⟩⟩⟩
    refine TS.reg [] ?_ ?_
    · apply prop_of ?_ hq
      kernel_rfl
    refine XS.then ?_
    refine TS.block ?_
    refine TS.reLoop [] (mkMask 29 [5, 13, 14, 15]) (D := Int × Int) (fun d => match d with | (vn, x) => (mkTs 29 [(5, (.int .i64 vn)), (13, (.sl (.int .i64) path)), (14, (.int .i64 ((path.length : Nat) : Int))), (15, (.int .i64 x))], [])) (fun n' d => loopF (F31_l2 n path) n' d = some r) n ((0 : Int), (0 : Int)) h ?_ (fun d => loopF_zero _ d r) ?_
    · kernel_rfl
    · rintro n2 ⟨vn, x⟩ h
      replace h : (bif (decide (x < ((path.length : Nat) : Int))) then (bif inb x path.length then (bif (decide (0 ≤ (IntKind.wrap .u64 ((IntKind.wrap .i64 ((4 : Int) * x)))))) then ((loopF (F31_l2 n path) n2) ((bitsI .or .i64 vn (shlI .i64 (path.getD x.toNat (0 : Int)) (IntKind.wrap .u64 ((IntKind.wrap .i64 ((4 : Int) * x)))))), (IntKind.wrap .i64 (x + (1 : Int))))) else none) else none) else (some (vn, (0 : Int)))) = some r := h
      refine TS.seq ?_
      have hq : (True) ∧ (True) := ⟨trivial, trivial⟩
      refine TS.reg [] ?_ ?_
      · apply prop_of ?_ hq
        kernel_rfl
      refine XS.then ?_
      refine TS.seq ?_
      rcases bif_some h with ⟨c4, h⟩ | ⟨c5, h⟩
      · refine TS.cond (decide (x < ((path.length : Nat) : Int))) ?_ (fun e => ?_) (fun e => by rw [c4] at e; cases e)
        · kernel_rfl
        refine TS.skip ?_
        refine XS.then ?_
        refine TS.seq ?_
        refine TS.block ?_
        refine TS.seq ?_
        obtain ⟨t6, h⟩ := test_some h
        have hq : (True) ∧ ((inR x path.length) ∧ ((True) ∧ ((True) ∧ ((True) ∧ (True))))) := ⟨trivial, ⟨inb_ok t6, ⟨trivial, ⟨trivial, ⟨trivial, trivial⟩⟩⟩⟩⟩
        refine TS.reg [] ?_ ?_
        · apply prop_of ?_ hq
          kernel_rfl
        refine XS.then ?_
        obtain ⟨t7, h⟩ := test_some h
        have hq : (True) ∧ ((True) ∧ ((True) ∧ ((True) ∧ ((True) ∧ ((0 ≤ (IntKind.wrap .u64 ((IntKind.wrap .i64 ((4 : Int) * x))))) ∧ ((True) ∧ ((True) ∧ (True)))))))) := ⟨trivial, ⟨trivial, ⟨trivial, ⟨trivial, ⟨trivial, ⟨of_decide_eq_true t7, ⟨trivial, ⟨trivial, trivial⟩⟩⟩⟩⟩⟩⟩⟩
        refine TS.reg [] ?_ ?_
        · apply prop_of ?_ hq
          kernel_rfl
        refine XS.blockEnd ?_
        refine XS.then ?_
        have hq : (True) ∧ ((True) ∧ (True)) := ⟨trivial, ⟨trivial, trivial⟩⟩
        refine TS.reg [] ?_ ?_
        · apply prop_of ?_ hq
          kernel_rfl
        refine XS.reAny [] (mkMask 29 [5, 13, 14, 15]) ((bitsI .or .i64 vn (shlI .i64 (path.getD x.toNat (0 : Int)) (IntKind.wrap .u64 ((IntKind.wrap .i64 ((4 : Int) * x)))))), (IntKind.wrap .i64 (x + (1 : Int)))) h ?_
        kernel_rfl
      · refine TS.cond (decide (x < ((path.length : Nat) : Int))) ?_ (fun e => by rw [c5] at e; cases e) (fun e => ?_)
        · kernel_rfl
        refine TS.exit ?_
        refine XS.passE ?_
        refine XS.passE ?_
        refine XS.out ?_
        refine XS.then ?_
        refine TS.seq ?_
        have hq : (True) ∧ ((True) ∧ ((True) ∧ (True))) := ⟨trivial, ⟨trivial, ⟨trivial, trivial⟩⟩⟩
        refine TS.reg [] ?_ ?_
        · apply prop_of ?_ hq
          kernel_rfl
        refine XS.then ?_
        refine TS.ret ?_
        obtain rfl : (vn, (0 : Int)) = r := Option.some.inj h
        exact XS.fin [] ((True) ∧ ((True) ∧ (True))) (by kernel_rfl) ⟨trivial, ⟨trivial, trivial⟩⟩

/-! slices.Min[[]int,int] -/
def F86_l4 (n : Nat) (x : List Int) (k86_4 : (Int × Int) → Option Int) : (Int × Int) → Option Int
  | (m, i) => (bif (decide (i < ((x.length : Nat) : Int))) then (bif inb i x.length then (k86_4 ((if (x.getD i.toNat (0 : Int)) < m then (x.getD i.toNat (0 : Int)) else m), (IntKind.wrap .i64 (i + (1 : Int))))) else none) else (some m))
def F86_j3 (n : Nat) (x : List Int) : Unit → Option Int
  | () => (bif inb (0 : Int) x.length then (loopF (F86_l4 n x) n ((x.getD 0 (0 : Int)), (1 : Int))) else none)
def F86 (n : Nat) (x : List Int) : Option Int := (bif (decide (((x.length : Nat) : Int) < (1 : Int))) then none else (F86_j3 n x ()))
theorem F86_ok (n : Nat) (x : List Int) (r : Int) (h : F86 n x = some r) : PureC Try.prog 86 [(.sl (.int .i64) x)] (.int .i64 r) [] := by
  refine PureC.mkS Try.func86 rfl rfl ?_
  intro w0 fz0 hfz
  replace h : (bif (decide (((x.length : Nat) : Int) < (1 : Int))) then none else (F86_j3 n x ())) = some r := h
  refine TS.seq ?_
  have hq : (True) ∧ (True) := ⟨trivial, trivial⟩
  refine TS.reg [] ?_ ?_
  · apply prop_of ?_ hq
    kernel_rfl
  refine XS.then ?_
  refine TS.seq ?_
  refine TS.seq ?_
  have hq : (True) ∧ ((True) ∧ ((True) ∧ (True))) := ⟨trivial, ⟨trivial, ⟨trivial, trivial⟩⟩⟩
  refine TS.reg [] ?_ ?_
  · apply prop_of ?_ hq
    kernel_rfl
  refine XS.then ?_
  refine TS.cut (D := Unit) (fun d => match d with | () => (mkTs 25 [(0, (.sl (.int .i64) x))], [])) (fun d => F86_j3 n x d = some r) ?_ ?_
  · rintro ⟨⟩ h
    replace h : (bif inb (0 : Int) x.length then (loopF (F86_l4 n x) n ((x.getD 0 (0 : Int)), (1 : Int))) else none) = some r := h
    refine XS.then ?_
    refine TS.seq ?_
    obtain ⟨t1, h⟩ := test_some h
    have hq : (True) ∧ ((inR (0 : Int) x.length) ∧ ((True) ∧ ((True) ∧ (True)))) := ⟨trivial, ⟨inb_ok t1, ⟨trivial, ⟨trivial, trivial⟩⟩⟩⟩
    refine TS.reg [] ?_ ?_
    · apply prop_of ?_ hq
      kernel_rfl
    refine XS.then ?_
    refine TS.seq ?_
    refine TS.seq ?_
    have hq : (True) ∧ (True) := ⟨trivial, trivial⟩
    refine TS.reg [] ?_ ?_
    · apply prop_of ?_ hq
      kernel_rfl
    refine XS.then ?_
    refine TS.block ?_
    refine TS.reLoop [] (mkMask 25 [0, 3, 4]) (D := Int × Int) (fun d => match d with | (m, i) => (mkTs 25 [(0, (.sl (.int .i64) x)), (3, (.int .i64 m)), (4, (.int .i64 i))], [])) (fun n' d => loopF (F86_l4 n x) n' d = some r) n ((x.getD 0 (0 : Int)), (1 : Int)) h ?_ (fun d => loopF_zero _ d r) ?_
    · kernel_rfl
    · rintro n4 ⟨m, i⟩ h
      replace h : (bif (decide (i < ((x.length : Nat) : Int))) then (bif inb i x.length then ((loopF (F86_l4 n x) n4) ((if (x.getD i.toNat (0 : Int)) < m then (x.getD i.toNat (0 : Int)) else m), (IntKind.wrap .i64 (i + (1 : Int))))) else none) else (some m)) = some r := h
      refine TS.seq ?_
      refine TS.seq ?_
      have hq : (True) ∧ ((True) ∧ ((True) ∧ ((True) ∧ (True)))) := ⟨trivial, ⟨trivial, ⟨trivial, ⟨trivial, trivial⟩⟩⟩⟩
      refine TS.reg [] ?_ ?_
      · apply prop_of ?_ hq
        kernel_rfl
      refine XS.then ?_
      rcases bif_some h with ⟨c2, h⟩ | ⟨c3, h⟩
      · refine TS.cond (decide (i < ((x.length : Nat) : Int))) ?_ (fun e => ?_) (fun e => by rw [c2] at e; cases e)
        · kernel_rfl
        refine TS.skip ?_
        refine XS.then ?_
        refine TS.seq ?_
        refine TS.block ?_
        obtain ⟨t4, h⟩ := test_some h
        have hq : (True) ∧ ((True) ∧ ((True) ∧ ((inR i x.length) ∧ ((True) ∧ ((True) ∧ ((True) ∧ (True))))))) := ⟨trivial, ⟨trivial, ⟨trivial, ⟨inb_ok t4, ⟨trivial, ⟨trivial, ⟨trivial, trivial⟩⟩⟩⟩⟩⟩⟩
        refine TS.reg [] ?_ ?_
        · apply prop_of ?_ hq
          kernel_rfl
        refine XS.blockEnd ?_
        refine XS.then ?_
        have hq : (True) ∧ ((True) ∧ ((True) ∧ (True))) := ⟨trivial, ⟨trivial, ⟨trivial, trivial⟩⟩⟩
        refine TS.reg [] ?_ ?_
        · apply prop_of ?_ hq
          kernel_rfl
        refine XS.reAny [] (mkMask 25 [0, 3, 4]) ((if (x.getD i.toNat (0 : Int)) < m then (x.getD i.toNat (0 : Int)) else m), (IntKind.wrap .i64 (i + (1 : Int)))) h ?_
        kernel_rfl
      · refine TS.cond (decide (i < ((x.length : Nat) : Int))) ?_ (fun e => by rw [c3] at e; cases e) (fun e => ?_)
        · kernel_rfl
        refine TS.exit ?_
        refine XS.passE ?_
        refine XS.passE ?_
        refine XS.out ?_
        refine XS.then ?_
        refine TS.seq ?_
        have hq : (True) ∧ ((True) ∧ (True)) := ⟨trivial, ⟨trivial, trivial⟩⟩
        refine TS.reg [] ?_ ?_
        · apply prop_of ?_ hq
          kernel_rfl
        refine XS.then ?_
        refine TS.ret ?_
        obtain rfl : m = r := Option.some.inj h
        exact XS.fin [] ((True) ∧ (True)) (by kernel_rfl) ⟨trivial, trivial⟩
  · rcases bif_some h with ⟨c5, h⟩ | ⟨c6, h⟩
    · refine TS.cond (decide (((x.length : Nat) : Int) < (1 : Int))) ?_ (fun e => ?_) (fun e => by rw [c5] at e; cases e)
      · kernel_rfl
      cases h
    · refine TS.cond (decide (((x.length : Nat) : Int) < (1 : Int))) ?_ (fun e => by rw [c6] at e; cases e) (fun e => ?_)
      · kernel_rfl
      refine TS.skip ?_
      refine XS.reAny [] (mkMask 25 [0]) () h ?_
      kernel_rfl

/-! slices.Max[[]int,int] -/
def F87_l4 (n : Nat) (x : List Int) (k87_4 : (Int × Int) → Option Int) : (Int × Int) → Option Int
  | (m, i) => (bif (decide (i < ((x.length : Nat) : Int))) then (bif inb i x.length then (k87_4 ((if (x.getD i.toNat (0 : Int)) > m then (x.getD i.toNat (0 : Int)) else m), (IntKind.wrap .i64 (i + (1 : Int))))) else none) else (some m))
def F87_j3 (n : Nat) (x : List Int) : Unit → Option Int
  | () => (bif inb (0 : Int) x.length then (loopF (F87_l4 n x) n ((x.getD 0 (0 : Int)), (1 : Int))) else none)
def F87 (n : Nat) (x : List Int) : Option Int := (bif (decide (((x.length : Nat) : Int) < (1 : Int))) then none else (F87_j3 n x ()))
theorem F87_ok (n : Nat) (x : List Int) (r : Int) (h : F87 n x = some r) : PureC Try.prog 87 [(.sl (.int .i64) x)] (.int .i64 r) [] := by
  refine PureC.mkS Try.func87 rfl rfl ?_
  intro w0 fz0 hfz
  replace h : (bif (decide (((x.length : Nat) : Int) < (1 : Int))) then none else (F87_j3 n x ())) = some r := h
  refine TS.seq ?_
  have hq : (True) ∧ (True) := ⟨trivial, trivial⟩
  refine TS.reg [] ?_ ?_
  · apply prop_of ?_ hq
    kernel_rfl
  refine XS.then ?_
  refine TS.seq ?_
  refine TS.seq ?_
  have hq : (True) ∧ ((True) ∧ ((True) ∧ (True))) := ⟨trivial, ⟨trivial, ⟨trivial, trivial⟩⟩⟩
  refine TS.reg [] ?_ ?_
  · apply prop_of ?_ hq
    kernel_rfl
  refine XS.then ?_
  refine TS.cut (D := Unit) (fun d => match d with | () => (mkTs 25 [(0, (.sl (.int .i64) x))], [])) (fun d => F87_j3 n x d = some r) ?_ ?_
  · rintro ⟨⟩ h
    replace h : (bif inb (0 : Int) x.length then (loopF (F87_l4 n x) n ((x.getD 0 (0 : Int)), (1 : Int))) else none) = some r := h
    refine XS.then ?_
    refine TS.seq ?_
    obtain ⟨t1, h⟩ := test_some h
    have hq : (True) ∧ ((inR (0 : Int) x.length) ∧ ((True) ∧ ((True) ∧ (True)))) := ⟨trivial, ⟨inb_ok t1, ⟨trivial, ⟨trivial, trivial⟩⟩⟩⟩
    refine TS.reg [] ?_ ?_
    · apply prop_of ?_ hq
      kernel_rfl
    refine XS.then ?_
    refine TS.seq ?_
    refine TS.seq ?_
    have hq : (True) ∧ (True) := ⟨trivial, trivial⟩
    refine TS.reg [] ?_ ?_
    · apply prop_of ?_ hq
      kernel_rfl
    refine XS.then ?_
    refine TS.block ?_
    refine TS.reLoop [] (mkMask 25 [0, 3, 4]) (D := Int × Int) (fun d => match d with | (m, i) => (mkTs 25 [(0, (.sl (.int .i64) x)), (3, (.int .i64 m)), (4, (.int .i64 i))], [])) (fun n' d => loopF (F87_l4 n x) n' d = some r) n ((x.getD 0 (0 : Int)), (1 : Int)) h ?_ (fun d => loopF_zero _ d r) ?_
    · kernel_rfl
    · rintro n4 ⟨m, i⟩ h
      replace h : (bif (decide (i < ((x.length : Nat) : Int))) then (bif inb i x.length then ((loopF (F87_l4 n x) n4) ((if (x.getD i.toNat (0 : Int)) > m then (x.getD i.toNat (0 : Int)) else m), (IntKind.wrap .i64 (i + (1 : Int))))) else none) else (some m)) = some r := h
      refine TS.seq ?_
      refine TS.seq ?_
      have hq : (True) ∧ ((True) ∧ ((True) ∧ ((True) ∧ (True)))) := ⟨trivial, ⟨trivial, ⟨trivial, ⟨trivial, trivial⟩⟩⟩⟩
      refine TS.reg [] ?_ ?_
      · apply prop_of ?_ hq
        kernel_rfl
      refine XS.then ?_
      rcases bif_some h with ⟨c2, h⟩ | ⟨c3, h⟩
      · refine TS.cond (decide (i < ((x.length : Nat) : Int))) ?_ (fun e => ?_) (fun e => by rw [c2] at e; cases e)
        · kernel_rfl
        refine TS.skip ?_
        refine XS.then ?_
        refine TS.seq ?_
        refine TS.block ?_
        obtain ⟨t4, h⟩ := test_some h
        have hq : (True) ∧ ((True) ∧ ((True) ∧ ((inR i x.length) ∧ ((True) ∧ ((True) ∧ ((True) ∧ (True))))))) := ⟨trivial, ⟨trivial, ⟨trivial, ⟨inb_ok t4, ⟨trivial, ⟨trivial, ⟨trivial, trivial⟩⟩⟩⟩⟩⟩⟩
        refine TS.reg [] ?_ ?_
        · apply prop_of ?_ hq
          kernel_rfl
        refine XS.blockEnd ?_
        refine XS.then ?_
        have hq : (True) ∧ ((True) ∧ ((True) ∧ (True))) := ⟨trivial, ⟨trivial, ⟨trivial, trivial⟩⟩⟩
        refine TS.reg [] ?_ ?_
        · apply prop_of ?_ hq
          kernel_rfl
        refine XS.reAny [] (mkMask 25 [0, 3, 4]) ((if (x.getD i.toNat (0 : Int)) > m then (x.getD i.toNat (0 : Int)) else m), (IntKind.wrap .i64 (i + (1 : Int)))) h ?_
        kernel_rfl
      · refine TS.cond (decide (i < ((x.length : Nat) : Int))) ?_ (fun e => by rw [c3] at e; cases e) (fun e => ?_)
        · kernel_rfl
        refine TS.exit ?_
        refine XS.passE ?_
        refine XS.passE ?_
        refine XS.out ?_
        refine XS.then ?_
        refine TS.seq ?_
        have hq : (True) ∧ ((True) ∧ (True)) := ⟨trivial, ⟨trivial, trivial⟩⟩
        refine TS.reg [] ?_ ?_
        · apply prop_of ?_ hq
          kernel_rfl
        refine XS.then ?_
        refine TS.ret ?_
        obtain rfl : m = r := Option.some.inj h
        exact XS.fin [] ((True) ∧ (True)) (by kernel_rfl) ⟨trivial, trivial⟩
  · rcases bif_some h with ⟨c5, h⟩ | ⟨c6, h⟩
    · refine TS.cond (decide (((x.length : Nat) : Int) < (1 : Int))) ?_ (fun e => ?_) (fun e => by rw [c5] at e; cases e)
      · kernel_rfl
      cases h
    · refine TS.cond (decide (((x.length : Nat) : Int) < (1 : Int))) ?_ (fun e => by rw [c6] at e; cases e) (fun e => ?_)
      · kernel_rfl
      refine TS.skip ?_
      refine XS.reAny [] (mkMask 25 [0]) () h ?_
      kernel_rfl

/-! plugtree/plugref.Path -/
def F36 (n : Nat) (path : List Int) : Option Int := (bif (decide (((path.length : Nat) : Int) > (6 : Int))) then (some (2 : Int)) else (bif (((path.length : Nat) : Int) == (0 : Int)) then (some (1 : Int)) else ((F86 n path).bind fun y_2 => (bif (decide (y_2 < (1 : Int))) then (some (1 : Int)) else ((F87 n path).bind fun y_3 => (bif (decide (y_3 > (15 : Int))) then (some (1 : Int)) else (some (0 : Int))))))))
theorem F36_ok (n : Nat) (path : List Int) (r : Int) (h : F36 n path = some r) : PureC Try.prog 36 [(.sl (.int .i64) path)] (.int .i64 r) [] := by
  refine PureC.mkS Try.func36 rfl rfl ?_
  intro w0 fz0 hfz
  replace h : (bif (decide (((path.length : Nat) : Int) > (6 : Int))) then (some (2 : Int)) else (bif (((path.length : Nat) : Int) == (0 : Int)) then (some (1 : Int)) else ((F86 n path).bind fun y_2 => (bif (decide (y_2 < (1 : Int))) then (some (1 : Int)) else ((F87 n path).bind fun y_3 => (bif (decide (y_3 > (15 : Int))) then (some (1 : Int)) else (some (0 : Int)))))))) = some r := h
  refine TS.seq ?_
  have hq : (True) ∧ (True) := ⟨trivial, trivial⟩
  refine TS.reg [] ?_ ?_
  · apply prop_of ?_ hq
    kernel_rfl
  refine XS.then ?_
  refine TS.seq ?_
  refine TS.seq ?_
  have hq : (True) ∧ ((True) ∧ ((True) ∧ (True))) := ⟨trivial, ⟨trivial, ⟨trivial, trivial⟩⟩⟩
  refine TS.reg [] ?_ ?_
  · apply prop_of ?_ hq
    kernel_rfl
  refine XS.then ?_
  rcases bif_some h with ⟨c1, h⟩ | ⟨c2, h⟩
  · refine TS.cond (decide (((path.length : Nat) : Int) > (6 : Int))) ?_ (fun e => ?_) (fun e => by rw [c1] at e; cases e)
    · kernel_rfl
    refine TS.seq ?_
    have hq : (True) ∧ (True) := ⟨trivial, trivial⟩
    refine TS.reg [] ?_ ?_
    · apply prop_of ?_ hq
      kernel_rfl
    refine XS.then ?_
    refine TS.ret ?_
    refine XS.passR ?_
    obtain rfl : (2 : Int) = r := Option.some.inj h
    exact XS.fin [] ((True) ∧ (True)) (by kernel_rfl) ⟨trivial, trivial⟩
  · refine TS.cond (decide (((path.length : Nat) : Int) > (6 : Int))) ?_ (fun e => by rw [c2] at e; cases e) (fun e => ?_)
    · kernel_rfl
    refine TS.skip ?_
    refine XS.then ?_
    refine TS.seq ?_
    refine TS.seq ?_
    rcases bif_some h with ⟨c3, h⟩ | ⟨c4, h⟩
    · have hq : (True) ∧ ((True) ∧ ((True) ∧ (((True) ∧ (((path.length : Nat) : Int) == (0 : Int)) = true) ∧ ((True) ∧ ((True) ∧ ((True) ∧ (True))))))) := ⟨trivial, ⟨trivial, ⟨trivial, ⟨⟨trivial, c3⟩, ⟨trivial, ⟨trivial, ⟨trivial, trivial⟩⟩⟩⟩⟩⟩⟩
      refine TS.reg [.none, .none, .none, .dec true] ?_ ?_
      · apply prop_of ?_ hq
        kernel_rfl
      refine XS.then ?_
      refine TS.yes ?_ ?_
      · kernel_rfl
      refine TS.seq ?_
      have hq : (True) ∧ (True) := ⟨trivial, trivial⟩
      refine TS.reg [] ?_ ?_
      · apply prop_of ?_ hq
        kernel_rfl
      refine XS.then ?_
      refine TS.ret ?_
      refine XS.passR ?_
      obtain rfl : (1 : Int) = r := Option.some.inj h
      exact XS.fin [] ((True) ∧ (True)) (by kernel_rfl) ⟨trivial, trivial⟩
    · obtain ⟨y_2, hx5, h⟩ := bind_some' h
      rcases bif_some h with ⟨c6, h⟩ | ⟨c7, h⟩
      · have hq : (True) ∧ ((True) ∧ ((True) ∧ (((True) ∧ (((path.length : Nat) : Int) == (0 : Int)) = false) ∧ ((True) ∧ ((PureC Try.prog 86 [(.sl (.int .i64) path)] (.int .i64 y_2) []) ∧ ((True) ∧ ((True) ∧ (((True) ∧ (decide (y_2 < (1 : Int))) = true) ∧ ((True) ∧ (True)))))))))) := ⟨trivial, ⟨trivial, ⟨trivial, ⟨⟨trivial, c4⟩, ⟨trivial, ⟨F86_ok n path y_2 hx5, ⟨trivial, ⟨trivial, ⟨⟨trivial, c6⟩, ⟨trivial, trivial⟩⟩⟩⟩⟩⟩⟩⟩⟩⟩
        refine TS.reg [.none, .none, .none, .dec false, .none, (.call (.int .i64 y_2) []), .none, .none, .dec true] ?_ ?_
        · apply prop_of ?_ hq
          kernel_rfl
        refine XS.then ?_
        refine TS.yes ?_ ?_
        · kernel_rfl
        refine TS.seq ?_
        have hq : (True) ∧ (True) := ⟨trivial, trivial⟩
        refine TS.reg [] ?_ ?_
        · apply prop_of ?_ hq
          kernel_rfl
        refine XS.then ?_
        refine TS.ret ?_
        refine XS.passR ?_
        obtain rfl : (1 : Int) = r := Option.some.inj h
        exact XS.fin [] ((True) ∧ (True)) (by kernel_rfl) ⟨trivial, trivial⟩
      · obtain ⟨y_3, hx8, h⟩ := bind_some' h
        have hq : (True) ∧ ((True) ∧ ((True) ∧ (((True) ∧ (((path.length : Nat) : Int) == (0 : Int)) = false) ∧ ((True) ∧ ((PureC Try.prog 86 [(.sl (.int .i64) path)] (.int .i64 y_2) []) ∧ ((True) ∧ ((True) ∧ (((True) ∧ (decide (y_2 < (1 : Int))) = false) ∧ ((True) ∧ ((PureC Try.prog 87 [(.sl (.int .i64) path)] (.int .i64 y_3) []) ∧ ((True) ∧ ((True) ∧ (True))))))))))))) := ⟨trivial, ⟨trivial, ⟨trivial, ⟨⟨trivial, c4⟩, ⟨trivial, ⟨F86_ok n path y_2 hx5, ⟨trivial, ⟨trivial, ⟨⟨trivial, c7⟩, ⟨trivial, ⟨F87_ok n path y_3 hx8, ⟨trivial, ⟨trivial, trivial⟩⟩⟩⟩⟩⟩⟩⟩⟩⟩⟩⟩⟩
        refine TS.reg [.none, .none, .none, .dec false, .none, (.call (.int .i64 y_2) []), .none, .none, .dec false, .none, (.call (.int .i64 y_3) [])] ?_ ?_
        · apply prop_of ?_ hq
          kernel_rfl
        refine XS.then ?_
        rcases bif_some h with ⟨c9, h⟩ | ⟨c10, h⟩
        · refine TS.cond (decide (y_3 > (15 : Int))) ?_ (fun e => ?_) (fun e => by rw [c9] at e; cases e)
          · kernel_rfl
          refine TS.seq ?_
          have hq : (True) ∧ (True) := ⟨trivial, trivial⟩
          refine TS.reg [] ?_ ?_
          · apply prop_of ?_ hq
            kernel_rfl
          refine XS.then ?_
          refine TS.ret ?_
          refine XS.passR ?_
          obtain rfl : (1 : Int) = r := Option.some.inj h
          exact XS.fin [] ((True) ∧ (True)) (by kernel_rfl) ⟨trivial, trivial⟩
        · refine TS.cond (decide (y_3 > (15 : Int))) ?_ (fun e => by rw [c10] at e; cases e) (fun e => ?_)
          · kernel_rfl
          refine TS.skip ?_
          refine XS.then ?_
          refine TS.seq ?_
          have hq : (True) ∧ (True) := ⟨trivial, trivial⟩
          refine TS.reg [] ?_ ?_
          · apply prop_of ?_ hq
            kernel_rfl
          refine XS.then ?_
          refine TS.ret ?_
          obtain rfl : (0 : Int) = r := Option.some.inj h
          exact XS.fin [] ((True) ∧ (True)) (by kernel_rfl) ⟨trivial, trivial⟩

/-! plugtree/plugref.PathNum -/
def F32_l2 (n : Nat) (path : List Int) (k32_2 : (Int × Int) → Option (Int × Int)) : (Int × Int) → Option (Int × Int)
  | (vn, i) => (bif (decide (i ≥ (0 : Int))) then (bif inb i path.length then (k32_2 ((IntKind.wrap .i64 ((IntKind.wrap .i64 ((16 : Int) * vn)) + (path.getD i.toNat (0 : Int)))), (IntKind.wrap .i64 (i - (1 : Int))))) else none) else (some (vn, (0 : Int))))
def F32 (n : Nat) (path : List Int) : Option (Int × Int) := ((F36 n path).bind fun y_3 => (bif (y_3 != (0 : Int)) then (some ((0 : Int), y_3)) else (loopF (F32_l2 n path) n ((0 : Int), (IntKind.wrap .i64 (((path.length : Nat) : Int) - (1 : Int)))))))
theorem F32_ok (n : Nat) (path : List Int) (r : Int × Int) (h : F32 n path = some r) : PureC Try.prog 32 [(.sl (.int .i64) path)] (.tup (.cons (.int .i64 r.1) (.cons (.int .i64 r.2) .nil))) [] := by
  refine PureC.mkS Try.func32 rfl rfl ?_
  intro w0 fz0 hfz
  replace h : ((F36 n path).bind fun y_3 => (bif (y_3 != (0 : Int)) then (some ((0 : Int), y_3)) else (loopF (F32_l2 n path) n ((0 : Int), (IntKind.wrap .i64 (((path.length : Nat) : Int) - (1 : Int))))))) = some r := h
  refine TS.seq ?_
  have hq : (True) ∧ ((True) ∧ (True)) := ⟨trivial, ⟨trivial, trivial⟩⟩
  refine TS.reg [] ?_ ?_
  · apply prop_of ?_ hq
    kernel_rfl
  refine XS.then ?_
  refine TS.seq ?_
  refine TS.seq ?_
  obtain ⟨y_3, hx1, h⟩ := bind_some' h
  have hq : (True) ∧ ((PureC Try.prog 36 [(.sl (.int .i64) path)] (.int .i64 y_3) []) ∧ ((True) ∧ (True))) := ⟨trivial, ⟨F36_ok n path y_3 hx1, ⟨trivial, trivial⟩⟩⟩
  refine TS.reg [.none, (.call (.int .i64 y_3) [])] ?_ ?_
  · apply prop_of ?_ hq
    kernel_rfl
  refine XS.then ?_
  refine TS.seq ?_
  have hq : (True) ∧ ((True) ∧ (True)) := ⟨trivial, ⟨trivial, trivial⟩⟩
  refine TS.reg [] ?_ ?_
  · apply prop_of ?_ hq
    kernel_rfl
  refine XS.then ?_
  rcases bif_some h with ⟨c2, h⟩ | ⟨c3, h⟩
  · refine TS.cond (y_3 != (0 : Int)) ?_ (fun e => ?_) (fun e => by rw [c2] at e; cases e)
    · kernel_rfl
    refine TS.seq ?_
    have hq : (True) ∧ ((True) ∧ ((True) ∧ (True))) := ⟨trivial, ⟨trivial, ⟨trivial, trivial⟩⟩⟩
    refine TS.reg [] ?_ ?_
    · apply prop_of ?_ hq
      kernel_rfl
    refine XS.then ?_
    refine TS.ret ?_
    refine XS.passR ?_
    obtain rfl : ((0 : Int), y_3) = r := Option.some.inj h
    exact XS.fin [] ((True) ∧ ((True) ∧ (True))) (by kernel_rfl) ⟨trivial, ⟨trivial, trivial⟩⟩
  · refine TS.cond (y_3 != (0 : Int)) ?_ (fun e => by rw [c3] at e; cases e) (fun e => ?_)
    · kernel_rfl
    refine TS.skip ?_
    refine XS.then ?_
    refine TS.seq ?_
    have hq : (True) ∧ (True) := ⟨trivial, trivial⟩
    refine TS.reg [] ?_ ?_
    · apply prop_of ?_ hq
      kernel_rfl
    refine XS.then ?_
    refine TS.seq ?_
    refine TS.seq ?_
    have hq : (True) ∧ ((True) ∧ ((True) ∧ ((True) ∧ (True)))) := ⟨trivial, ⟨trivial, ⟨trivial, ⟨trivial, trivial⟩⟩⟩⟩
    refine TS.reg [] ?_ ?_
    · apply prop_of ?_ hq
      kernel_rfl
    refine XS.then ?_
    refine TS.block ?_
    refine TS.reLoop [] (mkMask 27 [0, 5, 6]) (D := Int × Int) (fun d => match d with | (vn, i) => (mkTs 27 [(0, (.sl (.int .i64) path)), (5, (.int .i64 vn)), (6, (.int .i64 i))], [])) (fun n' d => loopF (F32_l2 n path) n' d = some r) n ((0 : Int), (IntKind.wrap .i64 (((path.length : Nat) : Int) - (1 : Int)))) h ?_ (fun d => loopF_zero _ d r) ?_
    · kernel_rfl
    · rintro n2 ⟨vn, i⟩ h
      replace h : (bif (decide (i ≥ (0 : Int))) then (bif inb i path.length then ((loopF (F32_l2 n path) n2) ((IntKind.wrap .i64 ((IntKind.wrap .i64 ((16 : Int) * vn)) + (path.getD i.toNat (0 : Int)))), (IntKind.wrap .i64 (i - (1 : Int))))) else none) else (some (vn, (0 : Int)))) = some r := h
      refine TS.seq ?_
      refine TS.seq ?_
      have hq : (True) ∧ ((True) ∧ (True)) := ⟨trivial, ⟨trivial, trivial⟩⟩
      refine TS.reg [] ?_ ?_
      · apply prop_of ?_ hq
        kernel_rfl
      refine XS.then ?_
      rcases bif_some h with ⟨c4, h⟩ | ⟨c5, h⟩
      · refine TS.cond (decide (i ≥ (0 : Int))) ?_ (fun e => ?_) (fun e => by rw [c4] at e; cases e)
        · kernel_rfl
        refine TS.skip ?_
        refine XS.then ?_
        refine TS.seq ?_
        refine TS.block ?_
        obtain ⟨t6, h⟩ := test_some h
        have hq : (True) ∧ ((True) ∧ ((True) ∧ ((True) ∧ ((inR i path.length) ∧ ((True) ∧ ((True) ∧ ((True) ∧ (True)))))))) := ⟨trivial, ⟨trivial, ⟨trivial, ⟨trivial, ⟨inb_ok t6, ⟨trivial, ⟨trivial, ⟨trivial, trivial⟩⟩⟩⟩⟩⟩⟩⟩
        refine TS.reg [] ?_ ?_
        · apply prop_of ?_ hq
          kernel_rfl
        refine XS.blockEnd ?_
        refine XS.then ?_
        have hq : (True) ∧ ((True) ∧ ((True) ∧ (True))) := ⟨trivial, ⟨trivial, ⟨trivial, trivial⟩⟩⟩
        refine TS.reg [] ?_ ?_
        · apply prop_of ?_ hq
          kernel_rfl
        refine XS.reAny [] (mkMask 27 [0, 5, 6]) ((IntKind.wrap .i64 ((IntKind.wrap .i64 ((16 : Int) * vn)) + (path.getD i.toNat (0 : Int)))), (IntKind.wrap .i64 (i - (1 : Int)))) h ?_
        kernel_rfl
      · refine TS.cond (decide (i ≥ (0 : Int))) ?_ (fun e => by rw [c5] at e; cases e) (fun e => ?_)
        · kernel_rfl
        refine TS.exit ?_
        refine XS.passE ?_
        refine XS.passE ?_
        refine XS.out ?_
        refine XS.then ?_
        refine TS.seq ?_
        have hq : (True) ∧ ((True) ∧ ((True) ∧ (True))) := ⟨trivial, ⟨trivial, ⟨trivial, trivial⟩⟩⟩
        refine TS.reg [] ?_ ?_
        · apply prop_of ?_ hq
          kernel_rfl
        refine XS.then ?_
        refine TS.ret ?_
        obtain rfl : (vn, (0 : Int)) = r := Option.some.inj h
        exact XS.fin [] ((True) ∧ ((True) ∧ (True))) (by kernel_rfl) ⟨trivial, ⟨trivial, trivial⟩⟩

/-! plugtree/route.Unpack -/
def F33_l2 (n : Nat) (vn : Int) (k33_2 : (Int × (List Int)) → Option (Int × (List Int))) : (Int × (List Int)) → Option (Int × (List Int))
  | (k, m0) => (bif (decide (k > (0 : Int))) then (bif (decide (m0.length + [(bitsI .and .i64 k (15 : Int))].length ≤ 17179869184)) then (k33_2 ((shrI .i64 k (4 : Int)), (m0 ++ [(bitsI .and .i64 k (15 : Int))]))) else none) else ((F31 n m0).bind fun y_3 => (bif (y_3.2 != (0 : Int)) then (some ((4 : Int), ([] : List Int))) else (bif (y_3.1 != vn) then (some ((4 : Int), ([] : List Int))) else (some ((0 : Int), m0))))))
def F33 (n : Nat) (vn : Int) : Option (Int × (List Int)) := (loopF (F33_l2 n vn) n (vn, ([] : List Int)))
theorem F33_ok (n : Nat) (vn : Int) (r : Int × (List Int)) (h : F33 n vn = some r) : PureC Try.prog 33 [(.int .i64 vn)] (.tup (.cons (.row 0) (.cons (.int .i64 r.1) .nil))) [(.row 3 (.int .i64) r.2)] := by
  refine PureC.mkS Try.func33 rfl rfl ?_
  intro w0 fz0 hfz
  replace h : (loopF (F33_l2 n vn) n (vn, ([] : List Int))) = some r := h
  refine TS.seq ?_
  have hq : (True) ∧ ((True) ∧ (True)) := ⟨trivial, ⟨trivial, trivial⟩⟩
  refine TS.reg [] ?_ ?_
  · apply prop_of ?_ hq
    kernel_rfl
  refine XS.then ?_
  refine TS.seq ?_
  have hq : (True) ∧ (True) := ⟨trivial, trivial⟩
  refine TS.reg [] ?_ ?_
  · apply prop_of ?_ hq
    kernel_rfl
  refine XS.then ?_
  refine TS.seq ?_
  refine TS.seq ?_
  have hq : (True) ∧ ((True) ∧ (True)) := ⟨trivial, ⟨trivial, trivial⟩⟩
  refine TS.reg [] ?_ ?_
  · apply prop_of ?_ hq
    kernel_rfl
  refine XS.then ?_
  refine TS.block ?_
  refine TS.wk (.row false 4 [] 3 (.int .i64)) ?_
  refine TS.reLoop [0] (mkMask 31 [0, 4, 5]) (D := Int × (List Int)) (fun d => match d with | (k, m0) => (mkTs 31 [(0, (.int .i64 vn)), (4, (.row 0)), (5, (.int .i64 k))], [(.row 3 (.int .i64) m0)])) (fun n' d => loopF (F33_l2 n vn) n' d = some r) n (vn, ([] : List Int)) h ?_ (fun d => loopF_zero _ d r) ?_
  · kernel_rfl
  · rintro n2 ⟨k, m0⟩ h
    replace h : (bif (decide (k > (0 : Int))) then (bif (decide (m0.length + [(bitsI .and .i64 k (15 : Int))].length ≤ 17179869184)) then ((loopF (F33_l2 n vn) n2) ((shrI .i64 k (4 : Int)), (m0 ++ [(bitsI .and .i64 k (15 : Int))]))) else none) else ((F31 n m0).bind fun y_3 => (bif (y_3.2 != (0 : Int)) then (some ((4 : Int), ([] : List Int))) else (bif (y_3.1 != vn) then (some ((4 : Int), ([] : List Int))) else (some ((0 : Int), m0)))))) = some r := h
    refine TS.seq ?_
    refine TS.seq ?_
    have hq : (True) ∧ ((True) ∧ (True)) := ⟨trivial, ⟨trivial, trivial⟩⟩
    refine TS.reg [] ?_ ?_
    · apply prop_of ?_ hq
      kernel_rfl
    refine XS.then ?_
    rcases bif_some h with ⟨c1, h⟩ | ⟨c2, h⟩
    · refine TS.cond (decide (k > (0 : Int))) ?_ (fun e => ?_) (fun e => by rw [c1] at e; cases e)
      · kernel_rfl
      refine TS.skip ?_
      refine XS.then ?_
      refine TS.seq ?_
      refine TS.block ?_
      obtain ⟨t3, h⟩ := test_some h
      have hq : (True) ∧ ((True) ∧ ((True) ∧ (((0 < 1 ∧ True) ∧ (True)) ∧ ((m0.length + [(bitsI .and .i64 k (15 : Int))].length ≤ 17179869184) ∧ ((True) ∧ (True)))))) := ⟨trivial, ⟨trivial, ⟨trivial, ⟨⟨⟨by decide, trivial⟩, trivial⟩, ⟨of_decide_eq_true t3, ⟨trivial, trivial⟩⟩⟩⟩⟩⟩
      refine TS.reg [] ?_ ?_
      · apply prop_of ?_ hq
        kernel_rfl
      refine XS.blockEnd ?_
      refine XS.then ?_
      have hq : (True) ∧ ((0 ≤ (4 : Int)) ∧ ((True) ∧ (True))) := ⟨trivial, ⟨by decide, ⟨trivial, trivial⟩⟩⟩
      refine TS.reg [] ?_ ?_
      · apply prop_of ?_ hq
        kernel_rfl
      refine XS.reAny [2] (mkMask 31 [0, 4, 5]) ((shrI .i64 k (4 : Int)), (m0 ++ [(bitsI .and .i64 k (15 : Int))])) h ?_
      kernel_rfl
    · refine TS.cond (decide (k > (0 : Int))) ?_ (fun e => by rw [c2] at e; cases e) (fun e => ?_)
      · kernel_rfl
      refine TS.exit ?_
      refine XS.passE ?_
      refine XS.passE ?_
      refine XS.out ?_
      refine XS.then ?_
      refine TS.seq ?_
      refine TS.seq ?_
      obtain ⟨y_3, hx4, h⟩ := bind_some' h
      have hq : (True) ∧ ((((True) ∧ (True)) ∧ PureC Try.prog 31 [(.sl (.int .i64) m0)] (.tup (.cons (.int .i64 y_3.1) (.cons (.int .i64 y_3.2) .nil))) []) ∧ ((True) ∧ ((True) ∧ ((True) ∧ ((True) ∧ ((True) ∧ (True))))))) := ⟨trivial, ⟨⟨⟨trivial, trivial⟩, F31_ok n m0 y_3 hx4⟩, ⟨trivial, ⟨trivial, ⟨trivial, ⟨trivial, ⟨trivial, trivial⟩⟩⟩⟩⟩⟩⟩
      refine TS.reg [.none, (.call (.tup (.cons (.int .i64 y_3.1) (.cons (.int .i64 y_3.2) .nil))) [])] ?_ ?_
      · apply prop_of ?_ hq
        kernel_rfl
      refine XS.then ?_
      refine TS.seq ?_
      rcases bif_some h with ⟨c5, h⟩ | ⟨c6, h⟩
      · have hq : (True) ∧ ((True) ∧ (((True) ∧ (y_3.2 != (0 : Int)) = true) ∧ ((True) ∧ (True)))) := ⟨trivial, ⟨trivial, ⟨⟨trivial, c5⟩, ⟨trivial, trivial⟩⟩⟩⟩
        refine TS.reg [.none, .none, .dec true] ?_ ?_
        · apply prop_of ?_ hq
          kernel_rfl
        refine XS.then ?_
        refine TS.yes ?_ ?_
        · kernel_rfl
        refine TS.seq ?_
        have hq : (True) ∧ ((True) ∧ (True)) := ⟨trivial, ⟨trivial, trivial⟩⟩
        refine TS.reg [] ?_ ?_
        · apply prop_of ?_ hq
          kernel_rfl
        refine XS.then ?_
        refine TS.ret ?_
        refine XS.passR ?_
        obtain rfl : ((4 : Int), ([] : List Int)) = r := Option.some.inj h
        refine XS.wk (.row false 2 [] 3 (.int .i64)) ?_
        exact XS.fin [1] ((True) ∧ ((True) ∧ (True))) (by kernel_rfl) ⟨trivial, ⟨trivial, trivial⟩⟩
      · have hq : (True) ∧ ((True) ∧ (((True) ∧ (y_3.2 != (0 : Int)) = false) ∧ ((True) ∧ ((True) ∧ ((True) ∧ ((True) ∧ (True))))))) := ⟨trivial, ⟨trivial, ⟨⟨trivial, c6⟩, ⟨trivial, ⟨trivial, ⟨trivial, ⟨trivial, trivial⟩⟩⟩⟩⟩⟩⟩
        refine TS.reg [.none, .none, .dec false] ?_ ?_
        · apply prop_of ?_ hq
          kernel_rfl
        refine XS.then ?_
        rcases bif_some h with ⟨c7, h⟩ | ⟨c8, h⟩
        · refine TS.cond (y_3.1 != vn) ?_ (fun e => ?_) (fun e => by rw [c7] at e; cases e)
          · kernel_rfl
          refine TS.seq ?_
          have hq : (True) ∧ ((True) ∧ (True)) := ⟨trivial, ⟨trivial, trivial⟩⟩
          refine TS.reg [] ?_ ?_
          · apply prop_of ?_ hq
            kernel_rfl
          refine XS.then ?_
          refine TS.ret ?_
          refine XS.passR ?_
          obtain rfl : ((4 : Int), ([] : List Int)) = r := Option.some.inj h
          refine XS.wk (.row false 2 [] 3 (.int .i64)) ?_
          exact XS.fin [1] ((True) ∧ ((True) ∧ (True))) (by kernel_rfl) ⟨trivial, ⟨trivial, trivial⟩⟩
        · refine TS.cond (y_3.1 != vn) ?_ (fun e => by rw [c8] at e; cases e) (fun e => ?_)
          · kernel_rfl
          refine TS.skip ?_
          refine XS.then ?_
          refine TS.seq ?_
          have hq : (True) ∧ ((True) ∧ ((True) ∧ (True))) := ⟨trivial, ⟨trivial, ⟨trivial, trivial⟩⟩⟩
          refine TS.reg [] ?_ ?_
          · apply prop_of ?_ hq
            kernel_rfl
          refine XS.then ?_
          refine TS.ret ?_
          obtain rfl : ((0 : Int), m0) = r := Option.some.inj h
          exact XS.fin [0] ((True) ∧ ((True) ∧ (True))) (by kernel_rfl) ⟨trivial, ⟨trivial, trivial⟩⟩

/-! plugtree/plugref.NumPath -/
def F34_l2 (n : Nat) (vn : Int) (k34_2 : (Int × (List Int)) → Option (Int × (List Int))) : (Int × (List Int)) → Option (Int × (List Int))
  | (left, m0) => (bif (decide (left > (0 : Int))) then (bif (decide (((m0.length : Nat) : Int) < (7 : Int))) then (bif (decide (m0.length + [(left.tmod (16 : Int))].length ≤ 17179869184)) then (k34_2 ((IntKind.wrap .i64 (left.tdiv (16 : Int))), (m0 ++ [(left.tmod (16 : Int))]))) else none) else ((F32 n m0).bind fun y_3 => (bif (y_3.2 != (0 : Int)) then (some ((4 : Int), ([] : List Int))) else (bif (y_3.1 != vn) then (some ((4 : Int), ([] : List Int))) else (some ((0 : Int), m0)))))) else ((F32 n m0).bind fun y_4 => (bif (y_4.2 != (0 : Int)) then (some ((4 : Int), ([] : List Int))) else (bif (y_4.1 != vn) then (some ((4 : Int), ([] : List Int))) else (some ((0 : Int), m0))))))
def F34 (n : Nat) (vn : Int) : Option (Int × (List Int)) := (loopF (F34_l2 n vn) n (vn, ([] : List Int)))
theorem F34_ok (n : Nat) (vn : Int) (r : Int × (List Int)) (h : F34 n vn = some r) : PureC Try.prog 34 [(.int .i64 vn)] (.tup (.cons (.row 0) (.cons (.int .i64 r.1) .nil))) [(.row 3 (.int .i64) r.2)] := by
  refine PureC.mkS Try.func34 rfl rfl ?_
  intro w0 fz0 hfz
  replace h : (loopF (F34_l2 n vn) n (vn, ([] : List Int))) = some r := h
  refine TS.seq ?_
  have hq : (True) ∧ ((True) ∧ (True)) := ⟨trivial, ⟨trivial, trivial⟩⟩
  refine TS.reg [] ?_ ?_
  · apply prop_of ?_ hq
    kernel_rfl
  refine XS.then ?_
  refine TS.seq ?_
  have hq : (True) ∧ (True) := ⟨trivial, trivial⟩
  refine TS.reg [] ?_ ?_
  · apply prop_of ?_ hq
    kernel_rfl
  refine XS.then ?_
  refine TS.seq ?_
  refine TS.seq ?_
  have hq : (True) ∧ ((True) ∧ (True)) := ⟨trivial, ⟨trivial, trivial⟩⟩
  refine TS.reg [] ?_ ?_
  · apply prop_of ?_ hq
    kernel_rfl
  refine XS.then ?_
  refine TS.block ?_
  refine TS.wk (.row false 4 [] 3 (.int .i64)) ?_
  refine TS.reLoop [0] (mkMask 36 [0, 4, 5]) (D := Int × (List Int)) (fun d => match d with | (left, m0) => (mkTs 36 [(0, (.int .i64 vn)), (4, (.row 0)), (5, (.int .i64 left))], [(.row 3 (.int .i64) m0)])) (fun n' d => loopF (F34_l2 n vn) n' d = some r) n (vn, ([] : List Int)) h ?_ (fun d => loopF_zero _ d r) ?_
  · kernel_rfl
  · rintro n2 ⟨left, m0⟩ h
    replace h : (bif (decide (left > (0 : Int))) then (bif (decide (((m0.length : Nat) : Int) < (7 : Int))) then (bif (decide (m0.length + [(left.tmod (16 : Int))].length ≤ 17179869184)) then ((loopF (F34_l2 n vn) n2) ((IntKind.wrap .i64 (left.tdiv (16 : Int))), (m0 ++ [(left.tmod (16 : Int))]))) else none) else ((F32 n m0).bind fun y_3 => (bif (y_3.2 != (0 : Int)) then (some ((4 : Int), ([] : List Int))) else (bif (y_3.1 != vn) then (some ((4 : Int), ([] : List Int))) else (some ((0 : Int), m0)))))) else ((F32 n m0).bind fun y_4 => (bif (y_4.2 != (0 : Int)) then (some ((4 : Int), ([] : List Int))) else (bif (y_4.1 != vn) then (some ((4 : Int), ([] : List Int))) else (some ((0 : Int), m0)))))) = some r := h
    refine TS.seq ?_
    refine TS.seq ?_
    rcases bif_some h with ⟨c1, h⟩ | ⟨c2, h⟩
    · have hq : (True) ∧ ((True) ∧ (((True) ∧ (decide (left > (0 : Int))) = true) ∧ ((True) ∧ ((True) ∧ ((True) ∧ ((True) ∧ (True))))))) := ⟨trivial, ⟨trivial, ⟨⟨trivial, c1⟩, ⟨trivial, ⟨trivial, ⟨trivial, ⟨trivial, trivial⟩⟩⟩⟩⟩⟩⟩
      refine TS.reg [.none, .none, .dec true] ?_ ?_
      · apply prop_of ?_ hq
        kernel_rfl
      refine XS.then ?_
      rcases bif_some h with ⟨c3, h⟩ | ⟨c4, h⟩
      · refine TS.cond (decide (((m0.length : Nat) : Int) < (7 : Int))) ?_ (fun e => ?_) (fun e => by rw [c3] at e; cases e)
        · kernel_rfl
        refine TS.skip ?_
        refine XS.then ?_
        refine TS.seq ?_
        refine TS.block ?_
        obtain ⟨t5, h⟩ := test_some h
        have hq : (True) ∧ ((True) ∧ (((16 : Int) ≠ 0) ∧ (((0 < 1 ∧ True) ∧ (True)) ∧ ((m0.length + [(left.tmod (16 : Int))].length ≤ 17179869184) ∧ ((True) ∧ (True)))))) := ⟨trivial, ⟨trivial, ⟨by decide, ⟨⟨⟨by decide, trivial⟩, trivial⟩, ⟨of_decide_eq_true t5, ⟨trivial, trivial⟩⟩⟩⟩⟩⟩
        refine TS.reg [] ?_ ?_
        · apply prop_of ?_ hq
          kernel_rfl
        refine XS.blockEnd ?_
        refine XS.then ?_
        have hq : (True) ∧ (((16 : Int) ≠ 0) ∧ ((True) ∧ (True))) := ⟨trivial, ⟨by decide, ⟨trivial, trivial⟩⟩⟩
        refine TS.reg [] ?_ ?_
        · apply prop_of ?_ hq
          kernel_rfl
        refine XS.reAny [2] (mkMask 36 [0, 4, 5]) ((IntKind.wrap .i64 (left.tdiv (16 : Int))), (m0 ++ [(left.tmod (16 : Int))])) h ?_
        kernel_rfl
      · refine TS.cond (decide (((m0.length : Nat) : Int) < (7 : Int))) ?_ (fun e => by rw [c4] at e; cases e) (fun e => ?_)
        · kernel_rfl
        refine TS.exit ?_
        refine XS.passE ?_
        refine XS.passE ?_
        refine XS.out ?_
        refine XS.then ?_
        refine TS.seq ?_
        refine TS.seq ?_
        obtain ⟨y_3, hx6, h⟩ := bind_some' h
        have hq : (True) ∧ ((((True) ∧ (True)) ∧ PureC Try.prog 32 [(.sl (.int .i64) m0)] (.tup (.cons (.int .i64 y_3.1) (.cons (.int .i64 y_3.2) .nil))) []) ∧ ((True) ∧ ((True) ∧ ((True) ∧ ((True) ∧ ((True) ∧ (True))))))) := ⟨trivial, ⟨⟨⟨trivial, trivial⟩, F32_ok n m0 y_3 hx6⟩, ⟨trivial, ⟨trivial, ⟨trivial, ⟨trivial, ⟨trivial, trivial⟩⟩⟩⟩⟩⟩⟩
        refine TS.reg [.none, (.call (.tup (.cons (.int .i64 y_3.1) (.cons (.int .i64 y_3.2) .nil))) [])] ?_ ?_
        · apply prop_of ?_ hq
          kernel_rfl
        refine XS.then ?_
        refine TS.seq ?_
        rcases bif_some h with ⟨c7, h⟩ | ⟨c8, h⟩
        · have hq : (True) ∧ ((True) ∧ (((True) ∧ (y_3.2 != (0 : Int)) = true) ∧ ((True) ∧ (True)))) := ⟨trivial, ⟨trivial, ⟨⟨trivial, c7⟩, ⟨trivial, trivial⟩⟩⟩⟩
          refine TS.reg [.none, .none, .dec true] ?_ ?_
          · apply prop_of ?_ hq
            kernel_rfl
          refine XS.then ?_
          refine TS.yes ?_ ?_
          · kernel_rfl
          refine TS.seq ?_
          have hq : (True) ∧ ((True) ∧ (True)) := ⟨trivial, ⟨trivial, trivial⟩⟩
          refine TS.reg [] ?_ ?_
          · apply prop_of ?_ hq
            kernel_rfl
          refine XS.then ?_
          refine TS.ret ?_
          refine XS.passR ?_
          obtain rfl : ((4 : Int), ([] : List Int)) = r := Option.some.inj h
          refine XS.wk (.row false 2 [] 3 (.int .i64)) ?_
          exact XS.fin [1] ((True) ∧ ((True) ∧ (True))) (by kernel_rfl) ⟨trivial, ⟨trivial, trivial⟩⟩
        · have hq : (True) ∧ ((True) ∧ (((True) ∧ (y_3.2 != (0 : Int)) = false) ∧ ((True) ∧ ((True) ∧ ((True) ∧ ((True) ∧ (True))))))) := ⟨trivial, ⟨trivial, ⟨⟨trivial, c8⟩, ⟨trivial, ⟨trivial, ⟨trivial, ⟨trivial, trivial⟩⟩⟩⟩⟩⟩⟩
          refine TS.reg [.none, .none, .dec false] ?_ ?_
          · apply prop_of ?_ hq
            kernel_rfl
          refine XS.then ?_
          rcases bif_some h with ⟨c9, h⟩ | ⟨c10, h⟩
          · refine TS.cond (y_3.1 != vn) ?_ (fun e => ?_) (fun e => by rw [c9] at e; cases e)
            · kernel_rfl
            refine TS.seq ?_
            have hq : (True) ∧ ((True) ∧ (True)) := ⟨trivial, ⟨trivial, trivial⟩⟩
            refine TS.reg [] ?_ ?_
            · apply prop_of ?_ hq
              kernel_rfl
            refine XS.then ?_
            refine TS.ret ?_
            refine XS.passR ?_
            obtain rfl : ((4 : Int), ([] : List Int)) = r := Option.some.inj h
            refine XS.wk (.row false 2 [] 3 (.int .i64)) ?_
            exact XS.fin [1] ((True) ∧ ((True) ∧ (True))) (by kernel_rfl) ⟨trivial, ⟨trivial, trivial⟩⟩
          · refine TS.cond (y_3.1 != vn) ?_ (fun e => by rw [c10] at e; cases e) (fun e => ?_)
            · kernel_rfl
            refine TS.skip ?_
            refine XS.then ?_
            refine TS.seq ?_
            have hq : (True) ∧ ((True) ∧ ((True) ∧ (True))) := ⟨trivial, ⟨trivial, ⟨trivial, trivial⟩⟩⟩
            refine TS.reg [] ?_ ?_
            · apply prop_of ?_ hq
              kernel_rfl
            refine XS.then ?_
            refine TS.ret ?_
            obtain rfl : ((0 : Int), m0) = r := Option.some.inj h
            exact XS.fin [0] ((True) ∧ ((True) ∧ (True))) (by kernel_rfl) ⟨trivial, ⟨trivial, trivial⟩⟩
    · have hq : (True) ∧ ((True) ∧ (((True) ∧ (decide (left > (0 : Int))) = false) ∧ ((True) ∧ (True)))) := ⟨trivial, ⟨trivial, ⟨⟨trivial, c2⟩, ⟨trivial, trivial⟩⟩⟩⟩
      refine TS.reg [.none, .none, .dec false] ?_ ?_
      · apply prop_of ?_ hq
        kernel_rfl
      refine XS.then ?_
      refine TS.no ?_ ?_
      · kernel_rfl
      refine TS.exit ?_
      refine XS.passE ?_
      refine XS.passE ?_
      refine XS.out ?_
      refine XS.then ?_
      refine TS.seq ?_
      refine TS.seq ?_
      obtain ⟨y_4, hx11, h⟩ := bind_some' h
      have hq : (True) ∧ ((((True) ∧ (True)) ∧ PureC Try.prog 32 [(.sl (.int .i64) m0)] (.tup (.cons (.int .i64 y_4.1) (.cons (.int .i64 y_4.2) .nil))) []) ∧ ((True) ∧ ((True) ∧ ((True) ∧ ((True) ∧ ((True) ∧ (True))))))) := ⟨trivial, ⟨⟨⟨trivial, trivial⟩, F32_ok n m0 y_4 hx11⟩, ⟨trivial, ⟨trivial, ⟨trivial, ⟨trivial, ⟨trivial, trivial⟩⟩⟩⟩⟩⟩⟩
      refine TS.reg [.none, (.call (.tup (.cons (.int .i64 y_4.1) (.cons (.int .i64 y_4.2) .nil))) [])] ?_ ?_
      · apply prop_of ?_ hq
        kernel_rfl
      refine XS.then ?_
      refine TS.seq ?_
      rcases bif_some h with ⟨c12, h⟩ | ⟨c13, h⟩
      · have hq : (True) ∧ ((True) ∧ (((True) ∧ (y_4.2 != (0 : Int)) = true) ∧ ((True) ∧ (True)))) := ⟨trivial, ⟨trivial, ⟨⟨trivial, c12⟩, ⟨trivial, trivial⟩⟩⟩⟩
        refine TS.reg [.none, .none, .dec true] ?_ ?_
        · apply prop_of ?_ hq
          kernel_rfl
        refine XS.then ?_
        refine TS.yes ?_ ?_
        · kernel_rfl
        refine TS.seq ?_
        have hq : (True) ∧ ((True) ∧ (True)) := ⟨trivial, ⟨trivial, trivial⟩⟩
        refine TS.reg [] ?_ ?_
        · apply prop_of ?_ hq
          kernel_rfl
        refine XS.then ?_
        refine TS.ret ?_
        refine XS.passR ?_
        obtain rfl : ((4 : Int), ([] : List Int)) = r := Option.some.inj h
        refine XS.wk (.row false 2 [] 3 (.int .i64)) ?_
        exact XS.fin [1] ((True) ∧ ((True) ∧ (True))) (by kernel_rfl) ⟨trivial, ⟨trivial, trivial⟩⟩
      · have hq : (True) ∧ ((True) ∧ (((True) ∧ (y_4.2 != (0 : Int)) = false) ∧ ((True) ∧ ((True) ∧ ((True) ∧ ((True) ∧ (True))))))) := ⟨trivial, ⟨trivial, ⟨⟨trivial, c13⟩, ⟨trivial, ⟨trivial, ⟨trivial, ⟨trivial, trivial⟩⟩⟩⟩⟩⟩⟩
        refine TS.reg [.none, .none, .dec false] ?_ ?_
        · apply prop_of ?_ hq
          kernel_rfl
        refine XS.then ?_
        rcases bif_some h with ⟨c14, h⟩ | ⟨c15, h⟩
        · refine TS.cond (y_4.1 != vn) ?_ (fun e => ?_) (fun e => by rw [c14] at e; cases e)
          · kernel_rfl
          refine TS.seq ?_
          have hq : (True) ∧ ((True) ∧ (True)) := ⟨trivial, ⟨trivial, trivial⟩⟩
          refine TS.reg [] ?_ ?_
          · apply prop_of ?_ hq
            kernel_rfl
          refine XS.then ?_
          refine TS.ret ?_
          refine XS.passR ?_
          obtain rfl : ((4 : Int), ([] : List Int)) = r := Option.some.inj h
          refine XS.wk (.row false 2 [] 3 (.int .i64)) ?_
          exact XS.fin [1] ((True) ∧ ((True) ∧ (True))) (by kernel_rfl) ⟨trivial, ⟨trivial, trivial⟩⟩
        · refine TS.cond (y_4.1 != vn) ?_ (fun e => by rw [c15] at e; cases e) (fun e => ?_)
          · kernel_rfl
          refine TS.skip ?_
          refine XS.then ?_
          refine TS.seq ?_
          have hq : (True) ∧ ((True) ∧ ((True) ∧ (True))) := ⟨trivial, ⟨trivial, ⟨trivial, trivial⟩⟩⟩
          refine TS.reg [] ?_ ?_
          · apply prop_of ?_ hq
            kernel_rfl
          refine XS.then ?_
          refine TS.ret ?_
          obtain rfl : ((0 : Int), m0) = r := Option.some.inj h
          exact XS.fin [0] ((True) ∧ ((True) ∧ (True))) (by kernel_rfl) ⟨trivial, ⟨trivial, trivial⟩⟩

/-! plugtree/pluglaw.RoutePacks -/
def F7 (n : Nat) (path : List Int) (vn : Int) : Option Bool := ((F31 n path).bind fun y_2 => ((F32 n path).bind fun y_3 => ((F33 n vn).bind fun y_4 => ((F34 n vn).bind fun y_5 => ((F35 n path).bind fun y_6 => ((F36 n path).bind fun y_7 => (bif (y_6 == y_7) then (bif (y_2.1 == y_3.1) then (bif (y_2.2 == y_3.2) then ((F25 n y_4.2 y_5.2).bind fun y_8 => (bif y_8 then (some (y_4.1 == y_5.1)) else (some false))) else (some false)) else (some false)) else (some false))))))))
theorem F7_ok (n : Nat) (path : List Int) (vn : Int) (r : Bool) (h : F7 n path vn = some r) : PureC Try.prog 7 [(.sl (.int .i64) path), (.int .i64 vn)] (.bool r) [] := by
  refine PureC.mkS Try.func7 rfl rfl ?_
  intro w0 fz0 hfz
  replace h : ((F31 n path).bind fun y_2 => ((F32 n path).bind fun y_3 => ((F33 n vn).bind fun y_4 => ((F34 n vn).bind fun y_5 => ((F35 n path).bind fun y_6 => ((F36 n path).bind fun y_7 => (bif (y_6 == y_7) then (bif (y_2.1 == y_3.1) then (bif (y_2.2 == y_3.2) then ((F25 n y_4.2 y_5.2).bind fun y_8 => (bif y_8 then (some (y_4.1 == y_5.1)) else (some false))) else (some false)) else (some false)) else (some false)))))))) = some r := h
  refine TS.seq ?_
  have hq : (True) ∧ (True) := ⟨trivial, trivial⟩
  refine TS.reg [] ?_ ?_
  · apply prop_of ?_ hq
    kernel_rfl
  refine XS.then ?_
  refine TS.seq ?_
  obtain ⟨y_2, hx1, h⟩ := bind_some' h
  have hq : (True) ∧ ((PureC Try.prog 31 [(.sl (.int .i64) path)] (.tup (.cons (.int .i64 y_2.1) (.cons (.int .i64 y_2.2) .nil))) []) ∧ ((True) ∧ ((True) ∧ ((True) ∧ ((True) ∧ ((True) ∧ (True))))))) := ⟨trivial, ⟨F31_ok n path y_2 hx1, ⟨trivial, ⟨trivial, ⟨trivial, ⟨trivial, ⟨trivial, trivial⟩⟩⟩⟩⟩⟩⟩
  refine TS.reg [.none, (.call (.tup (.cons (.int .i64 y_2.1) (.cons (.int .i64 y_2.2) .nil))) [])] ?_ ?_
  · apply prop_of ?_ hq
    kernel_rfl
  refine XS.then ?_
  refine TS.seq ?_
  obtain ⟨y_3, hx2, h⟩ := bind_some' h
  have hq : (True) ∧ ((PureC Try.prog 32 [(.sl (.int .i64) path)] (.tup (.cons (.int .i64 y_3.1) (.cons (.int .i64 y_3.2) .nil))) []) ∧ ((True) ∧ ((True) ∧ ((True) ∧ ((True) ∧ ((True) ∧ (True))))))) := ⟨trivial, ⟨F32_ok n path y_3 hx2, ⟨trivial, ⟨trivial, ⟨trivial, ⟨trivial, ⟨trivial, trivial⟩⟩⟩⟩⟩⟩⟩
  refine TS.reg [.none, (.call (.tup (.cons (.int .i64 y_3.1) (.cons (.int .i64 y_3.2) .nil))) [])] ?_ ?_
  · apply prop_of ?_ hq
    kernel_rfl
  refine XS.then ?_
  refine TS.seq ?_
  obtain ⟨y_4, hx3, h⟩ := bind_some' h
  have hq : (True) ∧ ((PureC Try.prog 33 [(.int .i64 vn)] (.tup (.cons (.row 0) (.cons (.int .i64 y_4.1) .nil))) [(.row 3 (.int .i64) y_4.2)]) ∧ ((True) ∧ ((True) ∧ ((True) ∧ ((True) ∧ ((True) ∧ (True))))))) := ⟨trivial, ⟨F33_ok n vn y_4 hx3, ⟨trivial, ⟨trivial, ⟨trivial, ⟨trivial, ⟨trivial, trivial⟩⟩⟩⟩⟩⟩⟩
  refine TS.reg [.none, (.call (.tup (.cons (.row 0) (.cons (.int .i64 y_4.1) .nil))) [(.row 3 (.int .i64) y_4.2)])] ?_ ?_
  · apply prop_of ?_ hq
    kernel_rfl
  refine XS.then ?_
  refine TS.seq ?_
  obtain ⟨y_5, hx4, h⟩ := bind_some' h
  have hq : (True) ∧ ((PureC Try.prog 34 [(.int .i64 vn)] (.tup (.cons (.row 0) (.cons (.int .i64 y_5.1) .nil))) [(.row 3 (.int .i64) y_5.2)]) ∧ ((True) ∧ ((True) ∧ ((True) ∧ ((True) ∧ ((True) ∧ (True))))))) := ⟨trivial, ⟨F34_ok n vn y_5 hx4, ⟨trivial, ⟨trivial, ⟨trivial, ⟨trivial, ⟨trivial, trivial⟩⟩⟩⟩⟩⟩⟩
  refine TS.reg [.none, (.call (.tup (.cons (.row 0) (.cons (.int .i64 y_5.1) .nil))) [(.row 3 (.int .i64) y_5.2)])] ?_ ?_
  · apply prop_of ?_ hq
    kernel_rfl
  refine XS.then ?_
  refine TS.seq ?_
  obtain ⟨y_6, hx5, h⟩ := bind_some' h
  obtain ⟨y_7, hx6, h⟩ := bind_some' h
  rcases bif_some h with ⟨c7, h⟩ | ⟨c8, h⟩
  · rcases bif_some h with ⟨c9, h⟩ | ⟨c10, h⟩
    · rcases bif_some h with ⟨c11, h⟩ | ⟨c12, h⟩
      · obtain ⟨y_8, hx13, h⟩ := bind_some' h
        rcases bif_some h with ⟨c14, h⟩ | ⟨c15, h⟩
        · have hq : (True) ∧ ((PureC Try.prog 35 [(.sl (.int .i64) path)] (.int .i64 y_6) []) ∧ ((True) ∧ ((PureC Try.prog 36 [(.sl (.int .i64) path)] (.int .i64 y_7) []) ∧ ((True) ∧ (((True) ∧ (y_6 == y_7) = true) ∧ ((True) ∧ ((True) ∧ ((True) ∧ ((True) ∧ (((True) ∧ (y_2.1 == y_3.1) = true) ∧ ((True) ∧ ((True) ∧ ((True) ∧ ((True) ∧ (((True) ∧ (y_2.2 == y_3.2) = true) ∧ ((True) ∧ ((True) ∧ ((((True) ∧ ((True) ∧ (True))) ∧ PureC Try.prog 25 [(.sl (.int .i64) y_4.2), (.sl (.int .i64) y_5.2)] (.bool y_8) []) ∧ ((True) ∧ (((True) ∧ y_8 = true) ∧ ((True) ∧ ((True) ∧ ((True) ∧ ((True) ∧ ((True) ∧ (True)))))))))))))))))))))))))) := ⟨trivial, ⟨F35_ok n path y_6 hx5, ⟨trivial, ⟨F36_ok n path y_7 hx6, ⟨trivial, ⟨⟨trivial, c7⟩, ⟨trivial, ⟨trivial, ⟨trivial, ⟨trivial, ⟨⟨trivial, c9⟩, ⟨trivial, ⟨trivial, ⟨trivial, ⟨trivial, ⟨⟨trivial, c11⟩, ⟨trivial, ⟨trivial, ⟨⟨⟨trivial, ⟨trivial, trivial⟩⟩, F25_ok n y_4.2 y_5.2 y_8 hx13⟩, ⟨trivial, ⟨⟨trivial, c14⟩, ⟨trivial, ⟨trivial, ⟨trivial, ⟨trivial, ⟨trivial, trivial⟩⟩⟩⟩⟩⟩⟩⟩⟩⟩⟩⟩⟩⟩⟩⟩⟩⟩⟩⟩⟩⟩⟩⟩⟩⟩
          refine TS.reg [.none, (.call (.int .i64 y_6) []), .none, (.call (.int .i64 y_7) []), .none, .dec true, .none, .none, .none, .none, .dec true, .none, .none, .none, .none, .dec true, .none, .none, (.call (.bool y_8) []), .none, .dec true] ?_ ?_
          · apply prop_of ?_ hq
            kernel_rfl
          refine XS.then ?_
          refine TS.ret ?_
          obtain rfl : (y_4.1 == y_5.1) = r := Option.some.inj h
          exact XS.fin [] ((True) ∧ (True)) (by kernel_rfl) ⟨trivial, trivial⟩
        · have hq : (True) ∧ ((PureC Try.prog 35 [(.sl (.int .i64) path)] (.int .i64 y_6) []) ∧ ((True) ∧ ((PureC Try.prog 36 [(.sl (.int .i64) path)] (.int .i64 y_7) []) ∧ ((True) ∧ (((True) ∧ (y_6 == y_7) = true) ∧ ((True) ∧ ((True) ∧ ((True) ∧ ((True) ∧ (((True) ∧ (y_2.1 == y_3.1) = true) ∧ ((True) ∧ ((True) ∧ ((True) ∧ ((True) ∧ (((True) ∧ (y_2.2 == y_3.2) = true) ∧ ((True) ∧ ((True) ∧ ((((True) ∧ ((True) ∧ (True))) ∧ PureC Try.prog 25 [(.sl (.int .i64) y_4.2), (.sl (.int .i64) y_5.2)] (.bool y_8) []) ∧ ((True) ∧ (((True) ∧ y_8 = false) ∧ ((True) ∧ ((True) ∧ (True))))))))))))))))))))))) := ⟨trivial, ⟨F35_ok n path y_6 hx5, ⟨trivial, ⟨F36_ok n path y_7 hx6, ⟨trivial, ⟨⟨trivial, c7⟩, ⟨trivial, ⟨trivial, ⟨trivial, ⟨trivial, ⟨⟨trivial, c9⟩, ⟨trivial, ⟨trivial, ⟨trivial, ⟨trivial, ⟨⟨trivial, c11⟩, ⟨trivial, ⟨trivial, ⟨⟨⟨trivial, ⟨trivial, trivial⟩⟩, F25_ok n y_4.2 y_5.2 y_8 hx13⟩, ⟨trivial, ⟨⟨trivial, c15⟩, ⟨trivial, ⟨trivial, trivial⟩⟩⟩⟩⟩⟩⟩⟩⟩⟩⟩⟩⟩⟩⟩⟩⟩⟩⟩⟩⟩⟩⟩
          refine TS.reg [.none, (.call (.int .i64 y_6) []), .none, (.call (.int .i64 y_7) []), .none, .dec true, .none, .none, .none, .none, .dec true, .none, .none, .none, .none, .dec true, .none, .none, (.call (.bool y_8) []), .none, .dec false] ?_ ?_
          · apply prop_of ?_ hq
            kernel_rfl
          refine XS.then ?_
          refine TS.ret ?_
          obtain rfl : false = r := Option.some.inj h
          exact XS.fin [] ((True) ∧ (True)) (by kernel_rfl) ⟨trivial, trivial⟩
      · have hq : (True) ∧ ((PureC Try.prog 35 [(.sl (.int .i64) path)] (.int .i64 y_6) []) ∧ ((True) ∧ ((PureC Try.prog 36 [(.sl (.int .i64) path)] (.int .i64 y_7) []) ∧ ((True) ∧ (((True) ∧ (y_6 == y_7) = true) ∧ ((True) ∧ ((True) ∧ ((True) ∧ ((True) ∧ (((True) ∧ (y_2.1 == y_3.1) = true) ∧ ((True) ∧ ((True) ∧ ((True) ∧ ((True) ∧ (((True) ∧ (y_2.2 == y_3.2) = false) ∧ ((True) ∧ ((True) ∧ ((True) ∧ ((True) ∧ (True)))))))))))))))))))) := ⟨trivial, ⟨F35_ok n path y_6 hx5, ⟨trivial, ⟨F36_ok n path y_7 hx6, ⟨trivial, ⟨⟨trivial, c7⟩, ⟨trivial, ⟨trivial, ⟨trivial, ⟨trivial, ⟨⟨trivial, c9⟩, ⟨trivial, ⟨trivial, ⟨trivial, ⟨trivial, ⟨⟨trivial, c12⟩, ⟨trivial, ⟨trivial, ⟨trivial, ⟨trivial, trivial⟩⟩⟩⟩⟩⟩⟩⟩⟩⟩⟩⟩⟩⟩⟩⟩⟩⟩⟩⟩
        refine TS.reg [.none, (.call (.int .i64 y_6) []), .none, (.call (.int .i64 y_7) []), .none, .dec true, .none, .none, .none, .none, .dec true, .none, .none, .none, .none, .dec false] ?_ ?_
        · apply prop_of ?_ hq
          kernel_rfl
        refine XS.then ?_
        refine TS.ret ?_
        obtain rfl : false = r := Option.some.inj h
        exact XS.fin [] ((True) ∧ (True)) (by kernel_rfl) ⟨trivial, trivial⟩
    · have hq : (True) ∧ ((PureC Try.prog 35 [(.sl (.int .i64) path)] (.int .i64 y_6) []) ∧ ((True) ∧ ((PureC Try.prog 36 [(.sl (.int .i64) path)] (.int .i64 y_7) []) ∧ ((True) ∧ (((True) ∧ (y_6 == y_7) = true) ∧ ((True) ∧ ((True) ∧ ((True) ∧ ((True) ∧ (((True) ∧ (y_2.1 == y_3.1) = false) ∧ ((True) ∧ ((True) ∧ ((True) ∧ ((True) ∧ ((True) ∧ ((True) ∧ (True))))))))))))))))) := ⟨trivial, ⟨F35_ok n path y_6 hx5, ⟨trivial, ⟨F36_ok n path y_7 hx6, ⟨trivial, ⟨⟨trivial, c7⟩, ⟨trivial, ⟨trivial, ⟨trivial, ⟨trivial, ⟨⟨trivial, c10⟩, ⟨trivial, ⟨trivial, ⟨trivial, ⟨trivial, ⟨trivial, ⟨trivial, trivial⟩⟩⟩⟩⟩⟩⟩⟩⟩⟩⟩⟩⟩⟩⟩⟩⟩
      refine TS.reg [.none, (.call (.int .i64 y_6) []), .none, (.call (.int .i64 y_7) []), .none, .dec true, .none, .none, .none, .none, .dec false] ?_ ?_
      · apply prop_of ?_ hq
        kernel_rfl
      refine XS.then ?_
      refine TS.ret ?_
      obtain rfl : false = r := Option.some.inj h
      exact XS.fin [] ((True) ∧ (True)) (by kernel_rfl) ⟨trivial, trivial⟩
  · have hq : (True) ∧ ((PureC Try.prog 35 [(.sl (.int .i64) path)] (.int .i64 y_6) []) ∧ ((True) ∧ ((PureC Try.prog 36 [(.sl (.int .i64) path)] (.int .i64 y_7) []) ∧ ((True) ∧ (((True) ∧ (y_6 == y_7) = false) ∧ ((True) ∧ ((True) ∧ ((True) ∧ ((True) ∧ ((True) ∧ ((True) ∧ ((True) ∧ ((True) ∧ (True)))))))))))))) := ⟨trivial, ⟨F35_ok n path y_6 hx5, ⟨trivial, ⟨F36_ok n path y_7 hx6, ⟨trivial, ⟨⟨trivial, c8⟩, ⟨trivial, ⟨trivial, ⟨trivial, ⟨trivial, ⟨trivial, ⟨trivial, ⟨trivial, ⟨trivial, trivial⟩⟩⟩⟩⟩⟩⟩⟩⟩⟩⟩⟩⟩⟩
    refine TS.reg [.none, (.call (.int .i64 y_6) []), .none, (.call (.int .i64 y_7) []), .none, .dec false] ?_ ?_
    · apply prop_of ?_ hq
      kernel_rfl
    refine XS.then ?_
    refine TS.ret ?_
    obtain rfl : false = r := Option.some.inj h
    exact XS.fin [] ((True) ∧ (True)) (by kernel_rfl) ⟨trivial, trivial⟩
end Go.Proofs.Ytgcdohclbkmmdaa
