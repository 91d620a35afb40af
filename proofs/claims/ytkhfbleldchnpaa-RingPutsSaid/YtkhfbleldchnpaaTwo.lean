/- Contracts of small functions of package plugref. -/
import Derived.Test.YtkhfbleldchnpaaChecked
import Derived.WalkKit
import Derived.Lib.Hide
import Derived.Outline
namespace Go.Proofs.Ytkhfbleldchnpaa
open Go.RowKit
set_option linter.unusedVariables false

theorem two_any (k : Nat) (hk : k ≤ 62) (w : World) :
    Calls Try.prog 59 #[.int .i64 k] w fun e w' => e = .returned (.int .i64 ((2 ^ k : Nat) : Int)) ∧ w = w' := by
  go_enter Try.func59, Try.ntmps59
  go_wp2
  go_loop [3, 5] (fun n i => ∃ j : Nat, j ≤ k ∧ i = .int .i64 j ∧ n = .int .i64 ((2 ^ j : Nat) : Int)) (fun _ i => k - (intOf i).toNat)
  case atStart => exact ⟨0, Nat.zero_le _, rfl, rfl⟩
  case round =>
    obtain ⟨j, hj, rfl, rfl⟩ := hrel
    by_cases hlt : j < k
    · have hb : 2 ^ j ≤ 2 ^ 61 := Nat.pow_le_pow_right (by omega) (by omega)
      have hc : 2 ^ (j + 1) = 2 ^ j * 2 := Nat.pow_succ 2 j
      generalize hd : 2 ^ j = p at hb hc ⊢
      clear hd
      have H := Lib.hid hc; clear hc
      have hb' : (p : Int) ≤ 2305843009213693952 := by omega
      go_wp2
      go_round
      case rel => exact ⟨j + 1, by omega, by go_num, by rw [H.out]; go_num⟩
      case measure => simp [intOf]; omega
    · go_wp2
      go_ret
      obtain rfl : j = k := by omega
      exact ⟨rfl, rfl⟩
end Go.Proofs.Ytkhfbleldchnpaa
