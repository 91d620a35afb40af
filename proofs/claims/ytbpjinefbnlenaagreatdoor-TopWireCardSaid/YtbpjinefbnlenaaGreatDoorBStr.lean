/- (*strings.Builder).String, walked. -/
import Derived.Test.YtbpjinefbnlenaaGreatDoorChecked
import Derived.Test.YtbpjinefbnlenaaGreatDoorAm31
import Derived.WalkKit
import Derived.Lib.UnsafeStr
namespace Go.Proofs.YtbpjinefbnlenaaGreatDoor
open Go Go.RowKit
set_option linter.unusedVariables false
set_option maxRecDepth 100000 in
theorem bstr_walk (b n cap : Nat) (a p : Option Addr) (s : ByteArray) (w w1 : World) (c1 : w.drew.cell? ⟨b, 1, none⟩ = some (.slice a n cap))
    (hSD : (Builtin.unsafeSliceData_ #[28] 75 #[.slice a n cap]).run Tryz.prog w.drew = .ok (.pointer p) w.drew)
    (hUS : (Builtin.unsafeString_ #[75, 3] 9 #[.pointer p, .int .i64 n]).run Tryz.prog w.drew = .ok (.string s) w1) :
    Calls Tryz.prog 9 #[.pointer (some ⟨b, 0, none⟩)] w fun e w' => e = .returned (.string s) ∧ w' = w1 := by
  go_enter Tryz.func9, Tryz.ntmps9
  go_wp2
  go_region
  all_goals (go_wp2; go_ret; exact ⟨rfl, rfl⟩)
theorem bstr_ok : BStr Tryz.prog 9 5 :=
  ⟨by kernel_rfl, by kernel_rfl, 28, 75, 3, 9, by kernel_rfl, fun b n cap a p s w w1 h1 h2 h3 => bstr_walk b n cap a p s w w1 h1 h2 h3⟩
end Go.Proofs.YtbpjinefbnlenaaGreatDoor
