/- The walk of the law HostPacks. -/
import Derived.Test.YtkhfbleldchnpaaHostWord3
namespace Go.Proofs.Ytkhfbleldchnpaa
open Go.RowKit
set_option linter.unusedVariables false
set_option maxRecDepth 100000
theorem pack_both (k s e a : Int) : ∃ x y : Int, (∀ w, Calls Try.prog 14 #[.agg #[.int .i64 k, .int .i64 s, .int .i64 e, .int .i64 a]] w fun r w' => r = .returned (.tuple #[.int .u64 x, .int .i64 y]) ∧ Below w.heap.size w w') ∧
    (∀ w, Calls Try.prog 15 #[.agg #[.int .i64 k, .int .i64 s, .int .i64 e, .int .i64 a]] w fun r w' => r = .returned (.tuple #[.int .u64 x, .int .i64 y]) ∧ Below w.heap.size w w') := by
  cases hb : (inB k 4 && inB s 4 && inB e 5 && inB a 32) with
  | false => exact ⟨_, _, pack_bad k s e a hb, word_bad k s e a hb⟩
  | true =>
    have h : ((0 ≤ k ∧ k < 16) ∧ (0 ≤ s ∧ s < 16)) ∧ (0 ≤ e ∧ e < 32) ∧ (0 ≤ a ∧ a < 4294967296) := by simp [inB] at hb; omega
    obtain ⟨k, rfl⟩ : ∃ n : Nat, k = n := ⟨k.toNat, by omega⟩
    obtain ⟨s, rfl⟩ : ∃ n : Nat, s = n := ⟨s.toNat, by omega⟩
    obtain ⟨e, rfl⟩ : ∃ n : Nat, e = n := ⟨e.toNat, by omega⟩
    obtain ⟨a, rfl⟩ : ∃ n : Nat, a = n := ⟨a.toNat, by omega⟩
    exact ⟨_, _, pack_good k s e a (by omega) (by omega) (by omega) (by omega), word_good k s e a (by omega) (by omega) (by omega) (by omega)⟩
theorem unpack_both (n : Nat) (hn : n < 18446744073709551616) : ∃ p q r s y : Int, (∀ w, Calls Try.prog 16 #[.int .u64 n] w fun e w' => e = .returned (.tuple #[.agg #[.int .i64 p, .int .i64 q, .int .i64 r, .int .i64 s], .int .i64 y]) ∧ Below w.heap.size w w') ∧
    (∀ w, Calls Try.prog 17 #[.int .u64 n] w fun e w' => e = .returned (.tuple #[.agg #[.int .i64 p, .int .i64 q, .int .i64 r, .int .i64 s], .int .i64 y]) ∧ Below w.heap.size w w') := by
  rcases Nat.lt_or_ge n 35184372088832 with h | h
  · exact ⟨_, _, _, _, _, unpack_good n h, unword_good n h⟩
  · exact ⟨_, _, _, _, _, unpack_bad n hn h, unword_bad n hn h⟩

set_option maxHeartbeats 1000000 in
theorem hostPacks_walk (k : Int) (_ : (Lit.int .i64 k).wf = true) (s : Int) (_ : (Lit.int .i64 s).wf = true) (e : Int) (_ : (Lit.int .i64 e).wf = true) (a : Int) (_ : (Lit.int .i64 a).wf = true) (n : Int) (hn : (Lit.int .u64 n).wf = true) (w : World) :
    Calls Try.prog 3 #[.agg #[.int .i64 k, .int .i64 s, .int .i64 e, .int .i64 a], .int .u64 n] w fun e w' => e = .returned (.bool true) ∧ Below w.heap.size w w' := by
  have hn' : 0 ≤ n ∧ n ≤ 18446744073709551615 := by simpa [Lit.wf, IntKind.min, IntKind.max, IntKind.bits, IntKind.signed] using hn
  obtain ⟨m, rfl⟩ : ∃ m : Nat, n = m := ⟨n.toNat, by omega⟩
  obtain ⟨x, y, hP, hW⟩ := pack_both k s e a
  obtain ⟨u1, u2, u3, u4, z, hU, hV⟩ := unpack_both m (by omega)
  have HP := Lib.hid hP
  have HW := Lib.hid hW
  have HU := Lib.hid hU
  have HV := Lib.hid hV
  clear hP hW hU hV hn hn'
  go_enter Try.func3, Try.ntmps3
  go_wp2_with fail
  refine (HP.out _).mono ?_
  rintro r_w1 w1 ⟨rfl, hb_w1⟩
  have B_w1 : Below w.heap.size w w1 := by first | exact hb_w1 | exact ((Below.refl _ _).alloc (Nat.le_refl _) _).trans (hb_w1.mono (by simp)) | exact (((Below.refl _ _).alloc (Nat.le_refl _) _).alloc (by simp) _).trans (hb_w1.mono (by simp; omega))
  have z_w1_0 : w.heap.size < w1.heap.size := by have := hb_w1.size; first | omega | (simp at this; omega)
  have c_w1_0_0 : w1.cell? ⟨w.heap.size, 0, none⟩ = some (.int .i64 k) := (hb_w1.cell (by first | assumption | (simp; done) | (simp; omega))).trans (by first | assumption | (simp; done) | simp [*])
  have c_w1_0_1 : w1.cell? ⟨w.heap.size, 1, none⟩ = some (.int .i64 s) := (hb_w1.cell (by first | assumption | (simp; done) | (simp; omega))).trans (by first | assumption | (simp; done) | simp [*])
  have c_w1_0_2 : w1.cell? ⟨w.heap.size, 2, none⟩ = some (.int .i64 e) := (hb_w1.cell (by first | assumption | (simp; done) | (simp; omega))).trans (by first | assumption | (simp; done) | simp [*])
  have c_w1_0_3 : w1.cell? ⟨w.heap.size, 3, none⟩ = some (.int .i64 a) := (hb_w1.cell (by first | assumption | (simp; done) | (simp; omega))).trans (by first | assumption | (simp; done) | simp [*])
  clear hb_w1
  go_wp2_with fail
  refine (HW.out _).mono ?_
  rintro r_w2 w2 ⟨rfl, hb_w2⟩
  have B_w2 : Below w.heap.size w w2 := by first | exact B_w1.trans (hb_w2.mono B_w1.size) | exact (B_w1.alloc B_w1.size _).trans (hb_w2.mono (by have := B_w1.size; simp; omega)) | exact ((B_w1.alloc B_w1.size _).alloc (by have := B_w1.size; simp; omega) _).trans (hb_w2.mono (by have := B_w1.size; simp; omega))
  clear c_w1_0_0 c_w1_0_1 c_w1_0_2 c_w1_0_3 z_w1_0 B_w1 hb_w2
  go_wp2_with fail
  refine (HU.out _).mono ?_
  rintro r_w3 w3 ⟨rfl, hb_w3⟩
  have B_w3 : Below w.heap.size w w3 := by first | exact B_w2.trans (hb_w3.mono B_w2.size) | exact (B_w2.alloc B_w2.size _).trans (hb_w3.mono (by have := B_w2.size; simp; omega)) | exact ((B_w2.alloc B_w2.size _).alloc (by have := B_w2.size; simp; omega) _).trans (hb_w3.mono (by have := B_w2.size; simp; omega))
  clear B_w2 hb_w3
  go_wp2_with fail
  refine (HV.out _).mono ?_
  rintro r_w4 w4 ⟨rfl, hb_w4⟩
  have B_w4 : Below w.heap.size w w4 := by first | exact B_w3.trans (hb_w4.mono B_w3.size) | exact (B_w3.alloc B_w3.size _).trans (hb_w4.mono (by have := B_w3.size; simp; omega)) | exact ((B_w3.alloc B_w3.size _).alloc (by have := B_w3.size; simp; omega) _).trans (hb_w4.mono (by have := B_w3.size; simp; omega))
  have z_w4_0 : w3.heap.size < w4.heap.size := by have := hb_w4.size; first | omega | (simp at this; omega)
  have c_w4_0_0 : w4.cell? ⟨w3.heap.size, 0, none⟩ = some (.int .i64 u1) := (hb_w4.cell (by first | assumption | (simp; done) | (simp; omega))).trans (by first | assumption | (simp; done) | simp [*])
  have c_w4_0_1 : w4.cell? ⟨w3.heap.size, 1, none⟩ = some (.int .i64 u2) := (hb_w4.cell (by first | assumption | (simp; done) | (simp; omega))).trans (by first | assumption | (simp; done) | simp [*])
  have c_w4_0_2 : w4.cell? ⟨w3.heap.size, 2, none⟩ = some (.int .i64 u3) := (hb_w4.cell (by first | assumption | (simp; done) | (simp; omega))).trans (by first | assumption | (simp; done) | simp [*])
  have c_w4_0_3 : w4.cell? ⟨w3.heap.size, 3, none⟩ = some (.int .i64 u4) := (hb_w4.cell (by first | assumption | (simp; done) | (simp; omega))).trans (by first | assumption | (simp; done) | simp [*])
  clear B_w3 hb_w4
  go_wp2_with fail
  go_ret
  exact ⟨rfl, B_w4.alloc B_w4.size _⟩
end Go.Proofs.Ytkhfbleldchnpaa
