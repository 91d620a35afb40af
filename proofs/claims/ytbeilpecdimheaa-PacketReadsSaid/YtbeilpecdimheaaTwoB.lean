/- Contract of plugref.TwoBytes. -/
import Derived.Test.YtbeilpecdimheaaKit
namespace Go.Proofs.Ytbeilpecdimheaa
open Go.RowKit
set_option linter.unusedVariables false
set_option maxRecDepth 100000

def twoL (n : Nat) : List UInt8 := [UInt8.ofNat n, UInt8.ofNat (n / 256)]
theorem twoBytes_any (n : Nat) (h : n ≤ 9223372036854775807) (w : World) : Calls Try.prog 59 #[.int .i64 n] w fun e w' => e = .returned (.string ⟨(twoL n).toArray⟩) ∧ Below w.heap.size w w' := by
  have hc := conv2 (P := Try.prog) Try.underlying101 Try.underlying5 Try.underlying9
  go_enter Try.func59, Try.ntmps59
  go_wp2
  go_ret
  exact ⟨ret_s (nums_eq (nums2 (by omega) (by omega))), (Below.refl _ _).alloc (Nat.le_refl _) _⟩

end Go.Proofs.Ytbeilpecdimheaa
