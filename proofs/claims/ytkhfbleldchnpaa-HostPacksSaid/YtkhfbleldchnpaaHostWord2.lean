/- Contracts: Word of a right command, Unpack, Unword. -/
import Derived.Test.YtkhfbleldchnpaaHostWord
namespace Go.Proofs.Ytkhfbleldchnpaa
open Go.RowKit
set_option linter.unusedVariables false
set_option maxRecDepth 100000
set_option maxHeartbeats 1000000 in
theorem word_good (k s e a : Nat) (hk : k < 16) (hs : s < 16) (he : e < 32) (ha : a < 4294967296) (w : World) :
    Calls Try.prog 15 #[.agg #[.int .i64 k, .int .i64 s, .int .i64 e, .int .i64 a]] w fun r w' => r = .returned (.tuple #[.int .u64 (((k * 16 + s) * 32 + e) * 4294967296 + a : Nat), .int .i64 0]) ∧ Below w.heap.size w w' := by
  have h1 := bt_any k 15 4 rfl
  have h2 := bt_any s 15 4 rfl
  have h3 := bt_any e 31 5 rfl
  have h4 := bt_any a 4294967295 32 rfl
  rw [show inB k 4 = true by simp [inB]; omega] at h1
  rw [show inB s 4 = true by simp [inB]; omega] at h2
  rw [show inB e 5 = true by simp [inB]; omega] at h3
  rw [show inB a 32 = true by simp [inB]; omega] at h4
  have H1 := Lib.hid h1
  have H2 := Lib.hid h2
  have H3 := Lib.hid h3
  have H4 := Lib.hid h4
  have HT := Lib.hid two32
  clear h1 h2 h3 h4
  go_enter Try.func15, Try.ntmps15
  go_wp2_with fail
  go_quiet (first | (go_at_call 19; first | (with_reducible exact quiet_same (H1.out _)) | (with_reducible exact quiet_same (H2.out _)) | (with_reducible exact quiet_same (H3.out _)) | (with_reducible exact quiet_same (H4.out _))) | (go_at_call 59; with_reducible exact quiet_same (HT.out _)))
  go_wp2_with fail
  have B1 : Below w.heap.size w ((w.alloc (.cells #[.int .i64 k, .int .i64 s, .int .i64 e, .int .i64 a] 23)).drewN nq) := ((Below.refl _ _).alloc (Nat.le_refl _) _).trans (below_drewN _ _ _)
  have c0 : ((w.alloc (.cells #[.int .i64 k, .int .i64 s, .int .i64 e, .int .i64 a] 23)).drewN nq).cell? ⟨w.heap.size, 0, none⟩ = some (.int .i64 k) := by simp
  have c1 : ((w.alloc (.cells #[.int .i64 k, .int .i64 s, .int .i64 e, .int .i64 a] 23)).drewN nq).cell? ⟨w.heap.size, 1, none⟩ = some (.int .i64 s) := by simp
  have c2 : ((w.alloc (.cells #[.int .i64 k, .int .i64 s, .int .i64 e, .int .i64 a] 23)).drewN nq).cell? ⟨w.heap.size, 2, none⟩ = some (.int .i64 e) := by simp
  have c3 : ((w.alloc (.cells #[.int .i64 k, .int .i64 s, .int .i64 e, .int .i64 a] 23)).drewN nq).cell? ⟨w.heap.size, 3, none⟩ = some (.int .i64 a) := by simp
  generalize (w.alloc (.cells #[.int .i64 k, .int .i64 s, .int .i64 e, .int .i64 a] 23)).drewN nq = w1 at *
  have m1 : IntKind.i64.wrap ((k : Int) * 16) = (k : Int) * 16 := by have := wrap_small (k * 16) (by omega); simpa using this
  have m2 : IntKind.i64.wrap ((k : Int) * 16 + s) = (k : Int) * 16 + s := by have := wrap_small (k * 16 + s) (by omega); simpa using this
  have m3 : IntKind.i64.wrap (((k : Int) * 16 + s) * 32) = ((k : Int) * 16 + s) * 32 := by have := wrap_small ((k * 16 + s) * 32) (by omega); simpa using this
  have m4 : IntKind.i64.wrap (((k : Int) * 16 + s) * 32 + e) = ((k : Int) * 16 + s) * 32 + e := by have := wrap_small ((k * 16 + s) * 32 + e) (by omega); simpa using this
  have m5 : IntKind.i64.wrap ((((k : Int) * 16 + s) * 32 + e) * 4294967296) = (((k : Int) * 16 + s) * 32 + e) * 4294967296 := by have := wrap_small (((k * 16 + s) * 32 + e) * 4294967296) (by omega); simpa using this
  have m6 : IntKind.i64.wrap ((((k : Int) * 16 + s) * 32 + e) * 4294967296 + a) = (((k : Int) * 16 + s) * 32 + e) * 4294967296 + a := by have := wrap_small (((k * 16 + s) * 32 + e) * 4294967296 + a) (by omega); simpa using this
  have m7 : IntKind.u64.wrap ((((k : Int) * 16 + s) * 32 + e) * 4294967296 + a) = (((k : Int) * 16 + s) * 32 + e) * 4294967296 + a := by have := wrap_u64 (((k * 16 + s) * 32 + e) * 4294967296 + a) (by omega); simpa using this
  go_quiet ((go_at_call 59; with_reducible exact quiet_same (HT.out _)))
  go_wp2_with fail
  go_ret2
  exact ⟨ret_ii (by omega) rfl, B1.trans (below_drewN _ _ _)⟩
end Go.Proofs.Ytkhfbleldchnpaa
