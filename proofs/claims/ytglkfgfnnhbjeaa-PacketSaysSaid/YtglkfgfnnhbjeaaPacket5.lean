/- Write of a wrong packet; both texts of a right packet. -/
import Derived.Test.YtglkfgfnnhbjeaaPacket4
namespace Go.Proofs.Ytglkfgfnnhbjeaa
open Go.RowKit
set_option linter.unusedVariables false
set_option maxRecDepth 100000

set_option maxHeartbeats 300000 in
theorem writeP_err (k a e f : Int) (d : ByteArray) (hk : I64 k) (ha : I64 a) (he : I64 e) (hf : I64 f) (hd : d.size ≤ maxLen) (hE : pktErr k a e f d.size ≠ 0) (w : World) :
    Calls Try.prog 16 #[.agg #[.int .i64 k, .int .i64 a, .int .i64 e, .int .i64 f, .string d]] w fun r w' => r = .returned (.tuple #[.string ⟨#[]⟩, .int .i64 (pktErr k a e f d.size)]) ∧ Below w.heap.size w w' := by
  have HK := Lib.hid (checkP_any k a e f d hk ha he hf hd)
  generalize hX : pktErr k a e f d.size = x at *
  have HX := Lib.hid hX
  clear hX hk ha he hf hd
  have hx : (x == 0) = false := by simpa using hE
  have hx2 : (x != 0) = true := by simpa using hE
  go_enter Try.func16, Try.ntmps16
  go_wp2_with fail
  refine (HK.out _).mono ?_
  rintro r w1 ⟨rfl, hb1⟩
  have B1 : Below w.heap.size w w1 := ((Below.refl _ _).alloc (Nat.le_refl _) _).trans (hb1.mono (by simp))
  clear hb1
  go_wp2_with fail
  go_ret2
  exact ⟨ret_si rfl rfl, B1⟩

/-- what a right packet's fields are -/
theorem right_any (k a e f : Int) (d : ByteArray) (hE : pktErr k a e f d.size = 0) :
    ∃ s : ByteArray, (∀ w, Calls Try.prog 16 #[.agg #[.int .i64 k, .int .i64 a, .int .i64 e, .int .i64 f, .string d]] w fun r w' => r = .returned (.tuple #[.string s, .int .i64 0]) ∧ Below w.heap.size w w')
      ∧ (∀ w, Calls Try.prog 15 #[.agg #[.int .i64 k, .int .i64 a, .int .i64 e, .int .i64 f, .string d]] w fun r w' => r = .returned (.string s) ∧ Below w.heap.size w w') := by
  have hE0 := hE
  unfold pktErr at hE
  by_cases c0 : knownK k = false
  · simp [c0] at hE
  have c0' : knownK k = true := by simpa using c0
  rw [if_neg c0] at hE
  split at hE
  · exact absurd hE (by decide)
  rename_i c1
  split at hE
  · exact absurd hE (by decide)
  rename_i c2
  split at hE
  · exact absurd hE (by decide)
  rename_i c3
  split at hE
  · exact absurd hE (by decide)
  rename_i c4
  have hk16 : ∃ n : Nat, k = n ∧ n < 16 := by
    simp [knownK, tokK, datK] at c0'
    exact ⟨k.toNat, by omega, by omega⟩
  obtain ⟨n, rfl, hn⟩ := hk16
  rcases kcls (n : Int) with ⟨h1, h2, h3, h4, h5, h6, h7⟩ | ⟨h1, h2, h3, h4, h5, h6, h7⟩ | ⟨h1, h2, h3, h4, h5, h6, h7⟩ | ⟨h1, h2, h3, h4, h5, h6, h7⟩ | ⟨h1, h2, h3, h4, h5, h6, h7⟩
  · rw [h1] at c1 c2
    rw [h2] at c3
    have hb : 0 ≤ a ∧ a < 128 ∧ 0 ≤ e ∧ e < 16 := by simpa using c1
    obtain ⟨x, rfl⟩ : ∃ x : Nat, a = x := ⟨a.toNat, by omega⟩
    obtain ⟨y, rfl⟩ : ∃ y : Nat, e = y := ⟨e.toNat, by omega⟩
    obtain rfl : f = 0 := by omega
    refine ⟨⟨(headL n ++ sealL (x + y * 128)).toArray⟩, fun w => writeP_tok n x y d hn ⟨h1, h2, h5⟩ (by omega) (by omega) hE0 (by omega) w, fun w => ?_⟩
    have := textR_tok n x y 0 d hn ⟨h1, h2, h5⟩ (by omega) (by omega) (by omega) (by omega) w
    rw [show x + 128 * y + 0 = x + y * 128 by omega] at this
    exact this
  · rw [h1] at c1 c2
    rw [h2] at c3
    obtain rfl : f = 0 := by omega
    obtain rfl : a = 0 := by simp at c2; omega
    obtain rfl : e = 0 := by simp at c2; omega
    exact ⟨⟨(headL n ++ d.data.toList ++ dataL d.data.toList).toArray⟩, fun w => writeP_dat n d hn ⟨h1, h2, h5⟩ hE0 (by omega) w, fun w => textR_dat n 0 0 0 d hn ⟨h1, h2, h5⟩ (by omega) (by omega) (by omega) (by omega) w⟩
  · rw [h1] at c1 c2
    rw [h2] at c3
    obtain rfl : f = 0 := by omega
    obtain rfl : a = 0 := by simp at c2; omega
    obtain rfl : e = 0 := by simp at c2; omega
    exact ⟨⟨(headL n).toArray⟩, fun w => writeP_bare n d hn ⟨h1, h2, h5⟩ hE0 (by omega) w, fun w => textR_bare n 0 0 0 d hn ⟨h1, h2, h5⟩ (by omega) (by omega) (by omega) (by omega) w⟩
  · rw [h1] at c1 c2
    rw [h2] at c3
    obtain ⟨x, rfl⟩ : ∃ x : Nat, f = x := ⟨f.toNat, by omega⟩
    obtain rfl : a = 0 := by simp at c2; omega
    obtain rfl : e = 0 := by simp at c2; omega
    refine ⟨⟨(headL n ++ sealL x).toArray⟩, fun w => writeP_sof n x d hn ⟨h1, h2, h5⟩ (by omega) hE0 (by omega) w, fun w => ?_⟩
    have := textR_sof n 0 0 x d hn ⟨h1, h2, h5⟩ (by omega) (by omega) (by omega) (by omega) w
    rw [show 0 + 128 * 0 + x = x by omega] at this
    exact this
  · rw [h4] at c0'
    exact absurd c0' (by decide)
end Go.Proofs.Ytglkfgfnnhbjeaa
