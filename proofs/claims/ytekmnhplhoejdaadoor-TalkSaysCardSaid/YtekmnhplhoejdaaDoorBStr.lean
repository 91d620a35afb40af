/- (*strings.Builder).String, walked. -/
import Derived.Test.YtekmnhplhoejdaaDoorChecked
import Derived.Test.YtekmnhplhoejdaaDoorAm31
import Derived.WalkKit
import Derived.Lib.UnsafeStr
namespace Go.Proofs.YtekmnhplhoejdaaDoor
open Go Go.RowKit
set_option linter.unusedVariables false
set_option maxRecDepth 100000 in
theorem bstr_walk (b n cap : Nat) (a p : Option Addr) (s : ByteArray) (w w1 : World) (c1 : w.drew.cell? ⟨b, 1, none⟩ = some (.slice a n cap))
    (hSD : (Builtin.unsafeSliceData_ #[83] 126 #[.slice a n cap]).run Tryd.prog w.drew = .ok (.pointer p) w.drew)
    (hUS : (Builtin.unsafeString_ #[126, 3] 9 #[.pointer p, .int .i64 n]).run Tryd.prog w.drew = .ok (.string s) w1) :
    Calls Tryd.prog 35 #[.pointer (some ⟨b, 0, none⟩)] w fun e w' => e = .returned (.string s) ∧ w' = w1 := by
  go_enter Tryd.func35, Tryd.ntmps35
  go_wp2
  go_region
  all_goals (go_wp2; go_ret; exact ⟨rfl, rfl⟩)
theorem bstr_ok : BStr Tryd.prog 35 5 :=
  ⟨by kernel_rfl, by kernel_rfl, 83, 126, 3, 9, by kernel_rfl, fun b n cap a p s w w1 h1 h2 h3 => bstr_walk b n cap a p s w w1 h1 h2 h3⟩
end Go.Proofs.YtekmnhplhoejdaaDoor
