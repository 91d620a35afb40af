/- Functions of the program, as functions of values. -/
import Derived.Test.YtdomallemkbinaaGreatDoorAm30
import Derived.Test.YtdomallemkbinaaGreatDoorChecked
namespace Go.Proofs.YtdomallemkbinaaGreatDoor
open Go Go.RowKit
set_option linter.unusedVariables false
set_option maxRecDepth 100000

/-! plugtree/keys.has -/
def F21 (n : Nat) (h_Bits : List Int) (code : Int) : Option Bool := (bif inb (IntKind.wrap .i64 (code.tdiv (64 : Int))) 4 then (bif (decide (0 ≤ (IntKind.wrap .u64 ((code.tmod (64 : Int)))))) then (some ((bitsI .and .u64 (shrI .u64 (h_Bits.getD ((IntKind.wrap .i64 (code.tdiv (64 : Int))).toNat) (0 : Int)) (IntKind.wrap .u64 ((code.tmod (64 : Int))))) (1 : Int)) == (1 : Int))) else none) else none)
theorem F21_ok (n : Nat) (h_Bits : List Int) (code : Int) (r : Bool) (h : F21 n h_Bits code = some r) : PureC Tryz.prog 21 [(.st (.arr 4 (.int .u64) h_Bits)), (.int .i64 code)] (.bool r) [] := by
 refine PureC.mkS Tryz.func21 rfl rfl ?_;intro w0 fz0 hfz;rw [F21] at h;refine TS.sq [] (tn 2) (by kernel_rfl) ?_;refine TS.seq ?_;obtain ⟨t1, h⟩ := test_some h;obtain ⟨t2, h⟩ := test_some h;refine TS.rg (C := (True) ∧ (((64 : Int) ≠ 0) ∧ ((True) ∧ ((inR (IntKind.wrap .i64 (code.tdiv (64 : Int))) 4) ∧ ((((IntKind.wrap .i64 (code.tdiv (64 : Int))).toNat) < 4 ∧ (True)) ∧ ((True) ∧ (((64 : Int) ≠ 0) ∧ ((True) ∧ ((0 ≤ (IntKind.wrap .u64 ((code.tmod (64 : Int))))) ∧ ((True) ∧ ((True) ∧ ((True) ∧ (True))))))))))))) [] ⟨trivial, ⟨by decide, ⟨trivial, ⟨inb_ok t1, ⟨⟨inR_lt (inb_ok t1), trivial⟩, ⟨trivial, ⟨by decide, ⟨trivial, ⟨of_decide_eq_true t2, ⟨trivial, ⟨trivial, ⟨trivial, trivial⟩⟩⟩⟩⟩⟩⟩⟩⟩⟩⟩⟩ (by kernel_rfl) ?_;refine XS.then (TS.ret ?_);cases h;exact XS.fn [] (tn 1) (by kernel_rfl)
end Go.Proofs.YtdomallemkbinaaGreatDoor
