/- The walks of the laws CrcFives and CrcSays. -/
import Derived.Test.YtglkfgfnnhbjeaaCrcLaw
namespace Go.Proofs.Ytglkfgfnnhbjeaa
open Go.RowKit
set_option linter.unusedVariables false
theorem u16_nat (a : Int) (h : (Lit.int .u16 a).wf = true) : ∃ n : Nat, a = n ∧ n < 65536 := by
  have hx : 0 ≤ a ∧ a ≤ 65535 := by simpa [Lit.wf, IntKind.min, IntKind.max, IntKind.signed, IntKind.bits] using h
  exact ⟨a.toNat, by omega, by omega⟩

theorem crcFives_walk (a : Int) (h : (Lit.int .u16 a).wf = true) (w : World) :
    Calls Try.prog 4 #[.int .u16 a] w fun e w' => e = .returned (.bool true) ∧ Below w.heap.size w w' := by
  obtain ⟨n, rfl, hn⟩ := u16_nat a h
  have hP := fiveP_any n hn
  have hR := fiveR_any n hn
  rw [← five_same] at hR
  generalize fiveC n = x at *
  generalize fiveE n = y at *
  have HP := Lib.hid hP
  have HR := Lib.hid hR
  clear hP hR
  go_enter Try.func4, Try.ntmps4
  go_wp2_with fail
  refine (HP.out _).mono ?_
  rintro e w1 ⟨rfl, rfl⟩
  go_wp2_with fail
  refine (HR.out _).mono ?_
  rintro e w1 ⟨rfl, hb⟩
  go_wp2_with fail
  go_ret
  exact ⟨rfl, hb⟩

theorem crcSays_walk (a : Int) (h : (Lit.int .u16 a).wf = true) (s : ByteArray) (hs : s.size ≤ 1048576) (w : World) :
    Calls Try.prog 5 #[.int .u16 a, .string s] w fun e w' => e = .returned (.bool true) ∧ Below w.heap.size w w' := by
  obtain ⟨n, rfl, hn⟩ := u16_nat a h
  have hm : s.size ≤ maxLen := by unfold maxLen; omega
  have h1 := sixteen_any s hm
  have h2 := moreR_any 0 (by decide) s hs
  have h3 := moreP_any n hn s hm
  have h4 := moreR_any n hn s hs
  rw [← more_same 0 (by decide)] at h2
  rw [← more_same n hn] at h4
  simp only [Int.cast_ofNat_Int, Nat.sub_zero] at h1 h2
  generalize 65535 - moreC 65535 s.data.toList = x at *
  generalize 65535 - moreC (65535 - n) s.data.toList = y at *
  have H1 := Lib.hid h1
  have H2 := Lib.hid h2
  have H3 := Lib.hid h3
  have H4 := Lib.hid h4
  clear h1 h2 h3 h4
  go_enter Try.func5, Try.ntmps5
  go_wp2_with fail
  refine (H1.out _).mono ?_
  rintro e w1 ⟨rfl, rfl⟩
  go_wp2_with fail
  refine (H2.out _).mono ?_
  rintro e w1 ⟨rfl, hb1⟩
  go_wp2_with fail
  refine (H3.out _).mono ?_
  rintro e w2 ⟨rfl, rfl⟩
  go_wp2_with fail
  refine (H4.out _).mono ?_
  rintro e w2 ⟨rfl, hb2⟩
  go_wp2_with fail
  go_ret
  exact ⟨rfl, hb1.trans (hb2.mono hb1.size)⟩
end Go.Proofs.Ytglkfgfnnhbjeaa
