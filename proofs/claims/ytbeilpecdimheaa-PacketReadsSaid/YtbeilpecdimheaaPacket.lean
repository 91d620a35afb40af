/- Contracts: kinds of packets, Check (packet) and Packet (plugref). -/
import Derived.Test.YtbeilpecdimheaaCrcLaw
import Derived.Test.YtbeilpecdimheaaShelf
import Derived.Deep.QuietTactic
import Derived.BigQuiet
namespace Go.Proofs.Ytbeilpecdimheaa
open Go.RowKit
set_option linter.unusedVariables false

def tokK (k : Int) : Bool := k == 1 || k == 9 || k == 13
def datK (k : Int) : Bool := k == 3 || k == 11
def bareK (k : Int) : Bool := k == 2 || k == 10 || k == 14
def knownK (k : Int) : Bool := tokK k || datK k || k == 5 || k == 2 || k == 10 || k == 14
def tokS : ByteArray := ⟨#[1, 9, 13]⟩
def datS : ByteArray := ⟨#[3, 11]⟩
def bareS : ByteArray := ⟨#[2, 10, 14]⟩

theorem isR_any (k : Int) (hk : -9223372036854775808 ≤ k ∧ k ≤ 9223372036854775807) (l : ByteArray) (b : Bool) (hb : ∀ n : Fin 16, k = (n.val : Int) → decide (0 ≤ Lib.indexByte l.data.toList n.val.toUInt8) = b) (hn : ¬ (0 ≤ k ∧ k < 16) → b = false) (w : World) :
    Calls Try.prog 58 #[.int .i64 k, .string l] w fun e w' => e = .returned (.bool b) ∧ w = w' := by
  by_cases h0 : 0 ≤ k
  · by_cases h1 : k < 16
    · obtain ⟨n, rfl⟩ : ∃ n : Nat, k = n := ⟨k.toNat, by omega⟩
      have hb' := hb ⟨n, by omega⟩ rfl
      have HB := Lib.hid hb'
      have HC := fun w0 => Try.strings_IndexByte l (n : Int) w0
      rw [Int.toNat_natCast] at HC
      simp only at HB
      generalize Lib.indexByte l.data.toList n.toUInt8 = x at HB HC
      have HC := Lib.hid HC
      clear hb' hb hn
      go_enter Try.func58, Try.ntmps58
      go_wp2_with (go_at_call 64; refine (HC.out _).mono ?_; rintro e w' ⟨rfl, rfl⟩)
      all_goals go_ret
      all_goals exact ⟨by rw [← HB.out]; simp [*], rfl⟩
    · rw [hn (by omega)]
      clear hb hn
      go_enter Try.func58, Try.ntmps58
      go_wp2_with fail
      go_ret
      exact ⟨rfl, rfl⟩
  · rw [hn (by omega)]
    clear hb hn
    go_enter Try.func58, Try.ntmps58
    go_wp2_with fail
    go_ret
    exact ⟨rfl, rfl⟩
theorem isTok_any (k : Int) (hk : -9223372036854775808 ≤ k ∧ k ≤ 9223372036854775807) (w : World) :
    Calls Try.prog 58 #[.int .i64 k, .string ⟨#[1, 9, 13]⟩] w fun e w' => e = .returned (.bool (tokK k)) ∧ w = w' := by
  refine isR_any k hk _ _ (fun n hn => ?_) (fun h => ?_) w
  · subst hn; revert n; decide
  · simp [tokK]; omega
theorem isDat_any (k : Int) (hk : -9223372036854775808 ≤ k ∧ k ≤ 9223372036854775807) (w : World) :
    Calls Try.prog 58 #[.int .i64 k, .string ⟨#[3, 11]⟩] w fun e w' => e = .returned (.bool (datK k)) ∧ w = w' := by
  refine isR_any k hk _ _ (fun n hn => ?_) (fun h => ?_) w
  · subst hn; revert n; decide
  · simp [datK]; omega
theorem isBare_any (k : Int) (hk : -9223372036854775808 ≤ k ∧ k ≤ 9223372036854775807) (w : World) :
    Calls Try.prog 58 #[.int .i64 k, .string ⟨#[2, 10, 14]⟩] w fun e w' => e = .returned (.bool (bareK k)) ∧ w = w' := by
  refine isR_any k hk _ _ (fun n hn => ?_) (fun h => ?_) w
  · subst hn; revert n; decide
  · simp [bareK]; omega
theorem isAll_any (k : Int) (hk : -9223372036854775808 ≤ k ∧ k ≤ 9223372036854775807) (w : World) :
    Calls Try.prog 58 #[.int .i64 k, .string ⟨#[1, 9, 13, 3, 11, 2, 10, 14, 5]⟩] w fun e w' => e = .returned (.bool (knownK k)) ∧ w = w' := by
  refine isR_any k hk _ _ (fun n hn => ?_) (fun h => ?_) w
  · subst hn; revert n; decide
  · simp [knownK, tokK, datK]; omega

theorem token_any (k : Int) (w : World) :
    Calls Try.prog 54 #[.int .i64 k] w fun e w' => e = .returned (.bool (tokK k)) ∧ w = w' := by
  go_enter Try.func54, Try.ntmps54
  go_wp2
  all_goals go_ret
  all_goals exact ⟨by simp [tokK, *], rfl⟩
theorem data_any (k : Int) (w : World) :
    Calls Try.prog 55 #[.int .i64 k] w fun e w' => e = .returned (.bool (datK k)) ∧ w = w' := by
  go_enter Try.func55, Try.ntmps55
  go_wp2
  all_goals go_ret
  all_goals exact ⟨by simp [datK, *], rfl⟩
theorem known_any (k : Int) (w : World) :
    Calls Try.prog 53 #[.int .i64 k] w fun e w' => e = .returned (.bool (knownK k)) ∧ w = w' := by
  go_enter Try.func53, Try.ntmps53
  go_wp2_with (first | (go_at_call 54; refine (token_any _ _).mono ?_; rintro e w' ⟨rfl, rfl⟩) | (go_at_call 55; refine (data_any _ _).mono ?_; rintro e w' ⟨rfl, rfl⟩))
  all_goals go_ret
  all_goals exact ⟨by simp [knownK, *], rfl⟩
end Go.Proofs.Ytbeilpecdimheaa
