/- Contract: PacketText (plugref). -/
import Derived.Test.YtglkfgfnnhbjeaaPacket3
namespace Go.Proofs.Ytglkfgfnnhbjeaa
open Go.RowKit
set_option linter.unusedVariables false
set_option maxRecDepth 100000
-- FROM HERE BY rel_packet4.py

set_option maxHeartbeats 300000 in
theorem textR_tok (k a e f : Nat) (d : ByteArray) (hk16 : k < 16) (hcls : tokK k = true ∧ datK k = false ∧ ((k : Int) == 5) = false) (ha : a < 128) (he : e < 16) (hn : a + 128 * e + f < 2048) (hd : d.size ≤ 64) (w : World) :
    Calls Try.prog 15 #[.agg #[.int .i64 k, .int .i64 a, .int .i64 e, .int .i64 f, .string d]] w fun r w' => r = .returned (.string ⟨(headL k ++ sealL (a + 128 * e + f)).toArray⟩) ∧ Below w.heap.size w w' := by
  have hcv := conv1 (P := Try.prog) Try.underlying52 Try.underlying5 Try.underlying9
  have hcv2 : ∀ (w : World) (o : Obj) (x0 : Int), (convert 52 9 (.slice (some ⟨w.heap.size + 1, 0, none⟩) 1 1)).run Try.prog ((w.alloc o).alloc (.cells #[.int .u8 x0] 5)) = .ok (.string (strOfNums [x0])) ((w.alloc o).alloc (.cells #[.int .u8 x0] 5)) := by
    intro w o x0
    have h := hcv (w.alloc o) x0
    rw [show (w.alloc o).heap.size = w.heap.size + 1 by simp] at h
    exact h
  clear hcv
  have htk := isTok_any k (by omega)
  have hdt := isDat_any k (by omega)
  obtain ⟨hc1, hc2, hc3⟩ := hcls
  rw [hc1] at htk
  rw [hc2] at hdt
  have HT := Lib.hid htk
  have HD := Lib.hid hdt
  have h5 := fiveR_any (a + 128 * e + f) (by omega)
  have hlt : fiveR (a + 128 * e + f) < 32 := by
    rw [← five_same]
    unfold fiveC
    rw [if_neg (by omega)]
    exact Nat.xor_lt_two_pow (n := 5) (feedN_lt (m := 5) (by decide) (by decide) 11) (by decide)
  have HF := Lib.hid (five_same (a + 128 * e + f))
  generalize hx : fiveR (a + 128 * e + f) = x at *
  have he2 : fiveE (a + 128 * e + f) = 0 := if_neg (by omega)
  rw [he2] at h5
  have hn1 : ((a + 128 * e + f : Nat) : Int) = (a : Int) + 128 * e + f := by omega
  rw [hn1] at h5
  have H5 := Lib.hid h5
  clear htk hdt hc1 hc2 h5 hx he2 hn1
  have HB := Lib.hid (twoBytes_any (a + 128 * e + f + 2048 * x) (by omega))
  have hn2 : ((a + 128 * e + f + 2048 * x : Nat) : Int) = (a : Int) + 128 * e + f + 2048 * x := by omega
  rw [hn2] at HB
  clear hn2
  have hs2 : (twoL (a + 128 * e + f + 2048 * x)).length ≤ 2 := Nat.le_refl _
  have hz := headSize k
  have hsum : (16 * (15 - (k : Int)) + k) = 16 * (((15 - k : Nat)) : Int) + k := by omega
  rw [← hsum] at hz
  have HSUM := Lib.hid hsum
  clear hsum
  go_enter Try.func15, Try.ntmps15
  go_wp2_with fail
  refine (H5.out _).mono ?_
  rintro r w1 ⟨rfl, hb1⟩
  have hz1 : w.heap.size < w1.heap.size := by have := hb1.size; simp at this; omega
  have c0 : w1.cell? ⟨w.heap.size, 0, none⟩ = some (.int .i64 k) := (hb1.cell (by simp; omega)).trans (by simp)
  have c4 : w1.cell? ⟨w.heap.size, 4, none⟩ = some (.string d) := (hb1.cell (by simp; omega)).trans (by simp)
  have B1 : Below w.heap.size w w1 := (((Below.refl _ _).alloc (Nat.le_refl _) _).alloc (by simp) _).trans (hb1.mono (by simp; omega))
  clear hb1
  go_wp2_with (first | (go_at_call 25; first | (with_reducible refine (HT.out _).mono ?_; rintro r w2 ⟨rfl, rfl⟩) | (with_reducible refine (HD.out _).mono ?_; rintro r w2 ⟨rfl, rfl⟩)))
  refine (HB.out _).mono ?_
  rintro r w2 ⟨rfl, hb2⟩
  go_wp2_with fail
  go_ret
  refine ⟨ret_s ?_, Below.trans B1 (hb2.mono B1.size)⟩
  rw [HSUM.out, headE k hk16]
  have e1 : twoL (a + 128 * e + f + 2048 * x) = sealL (a + 128 * e + f) := by unfold sealL; rw [HF.out]
  rw [e1]
  exact str_append _ _

set_option maxHeartbeats 300000 in
theorem textR_sof (k a e f : Nat) (d : ByteArray) (hk16 : k < 16) (hcls : tokK k = false ∧ datK k = false ∧ ((k : Int) == 5) = true) (ha : a < 128) (he : e < 16) (hn : a + 128 * e + f < 2048) (hd : d.size ≤ 64) (w : World) :
    Calls Try.prog 15 #[.agg #[.int .i64 k, .int .i64 a, .int .i64 e, .int .i64 f, .string d]] w fun r w' => r = .returned (.string ⟨(headL k ++ sealL (a + 128 * e + f)).toArray⟩) ∧ Below w.heap.size w w' := by
  have hcv := conv1 (P := Try.prog) Try.underlying52 Try.underlying5 Try.underlying9
  have hcv2 : ∀ (w : World) (o : Obj) (x0 : Int), (convert 52 9 (.slice (some ⟨w.heap.size + 1, 0, none⟩) 1 1)).run Try.prog ((w.alloc o).alloc (.cells #[.int .u8 x0] 5)) = .ok (.string (strOfNums [x0])) ((w.alloc o).alloc (.cells #[.int .u8 x0] 5)) := by
    intro w o x0
    have h := hcv (w.alloc o) x0
    rw [show (w.alloc o).heap.size = w.heap.size + 1 by simp] at h
    exact h
  clear hcv
  have htk := isTok_any k (by omega)
  have hdt := isDat_any k (by omega)
  obtain ⟨hc1, hc2, hc3⟩ := hcls
  rw [hc1] at htk
  rw [hc2] at hdt
  have HT := Lib.hid htk
  have HD := Lib.hid hdt
  have h5 := fiveR_any (a + 128 * e + f) (by omega)
  have hlt : fiveR (a + 128 * e + f) < 32 := by
    rw [← five_same]
    unfold fiveC
    rw [if_neg (by omega)]
    exact Nat.xor_lt_two_pow (n := 5) (feedN_lt (m := 5) (by decide) (by decide) 11) (by decide)
  have HF := Lib.hid (five_same (a + 128 * e + f))
  generalize hx : fiveR (a + 128 * e + f) = x at *
  have he2 : fiveE (a + 128 * e + f) = 0 := if_neg (by omega)
  rw [he2] at h5
  have hn1 : ((a + 128 * e + f : Nat) : Int) = (a : Int) + 128 * e + f := by omega
  rw [hn1] at h5
  have H5 := Lib.hid h5
  clear htk hdt hc1 hc2 h5 hx he2 hn1
  have HB := Lib.hid (twoBytes_any (a + 128 * e + f + 2048 * x) (by omega))
  have hn2 : ((a + 128 * e + f + 2048 * x : Nat) : Int) = (a : Int) + 128 * e + f + 2048 * x := by omega
  rw [hn2] at HB
  clear hn2
  have hs2 : (twoL (a + 128 * e + f + 2048 * x)).length ≤ 2 := Nat.le_refl _
  have hz := headSize k
  have hsum : (16 * (15 - (k : Int)) + k) = 16 * (((15 - k : Nat)) : Int) + k := by omega
  rw [← hsum] at hz
  have HSUM := Lib.hid hsum
  clear hsum
  go_enter Try.func15, Try.ntmps15
  go_wp2_with fail
  refine (H5.out _).mono ?_
  rintro r w1 ⟨rfl, hb1⟩
  have hz1 : w.heap.size < w1.heap.size := by have := hb1.size; simp at this; omega
  have c0 : w1.cell? ⟨w.heap.size, 0, none⟩ = some (.int .i64 k) := (hb1.cell (by simp; omega)).trans (by simp)
  have c4 : w1.cell? ⟨w.heap.size, 4, none⟩ = some (.string d) := (hb1.cell (by simp; omega)).trans (by simp)
  have B1 : Below w.heap.size w w1 := (((Below.refl _ _).alloc (Nat.le_refl _) _).alloc (by simp) _).trans (hb1.mono (by simp; omega))
  clear hb1
  go_wp2_with (first | (go_at_call 25; first | (with_reducible refine (HT.out _).mono ?_; rintro r w2 ⟨rfl, rfl⟩) | (with_reducible refine (HD.out _).mono ?_; rintro r w2 ⟨rfl, rfl⟩)))
  refine (HB.out _).mono ?_
  rintro r w2 ⟨rfl, hb2⟩
  go_wp2_with fail
  go_ret
  refine ⟨ret_s ?_, Below.trans B1 (hb2.mono B1.size)⟩
  rw [HSUM.out, headE k hk16]
  have e1 : twoL (a + 128 * e + f + 2048 * x) = sealL (a + 128 * e + f) := by unfold sealL; rw [HF.out]
  rw [e1]
  exact str_append _ _

set_option maxHeartbeats 300000 in
theorem textR_bare (k a e f : Nat) (d : ByteArray) (hk16 : k < 16) (hcls : tokK k = false ∧ datK k = false ∧ ((k : Int) == 5) = false) (ha : a < 128) (he : e < 16) (hn : a + 128 * e + f < 2048) (hd : d.size ≤ 64) (w : World) :
    Calls Try.prog 15 #[.agg #[.int .i64 k, .int .i64 a, .int .i64 e, .int .i64 f, .string d]] w fun r w' => r = .returned (.string ⟨(headL k).toArray⟩) ∧ Below w.heap.size w w' := by
  have hcv := conv1 (P := Try.prog) Try.underlying52 Try.underlying5 Try.underlying9
  have hcv2 : ∀ (w : World) (o : Obj) (x0 : Int), (convert 52 9 (.slice (some ⟨w.heap.size + 1, 0, none⟩) 1 1)).run Try.prog ((w.alloc o).alloc (.cells #[.int .u8 x0] 5)) = .ok (.string (strOfNums [x0])) ((w.alloc o).alloc (.cells #[.int .u8 x0] 5)) := by
    intro w o x0
    have h := hcv (w.alloc o) x0
    rw [show (w.alloc o).heap.size = w.heap.size + 1 by simp] at h
    exact h
  clear hcv
  have htk := isTok_any k (by omega)
  have hdt := isDat_any k (by omega)
  obtain ⟨hc1, hc2, hc3⟩ := hcls
  rw [hc1] at htk
  rw [hc2] at hdt
  have HT := Lib.hid htk
  have HD := Lib.hid hdt
  have h5 := fiveR_any (a + 128 * e + f) (by omega)
  have hlt : fiveR (a + 128 * e + f) < 32 := by
    rw [← five_same]
    unfold fiveC
    rw [if_neg (by omega)]
    exact Nat.xor_lt_two_pow (n := 5) (feedN_lt (m := 5) (by decide) (by decide) 11) (by decide)
  have HF := Lib.hid (five_same (a + 128 * e + f))
  generalize hx : fiveR (a + 128 * e + f) = x at *
  have he2 : fiveE (a + 128 * e + f) = 0 := if_neg (by omega)
  rw [he2] at h5
  have hn1 : ((a + 128 * e + f : Nat) : Int) = (a : Int) + 128 * e + f := by omega
  rw [hn1] at h5
  have H5 := Lib.hid h5
  clear htk hdt hc1 hc2 h5 hx he2 hn1
  go_enter Try.func15, Try.ntmps15
  go_wp2_with fail
  refine (H5.out _).mono ?_
  rintro r w1 ⟨rfl, hb1⟩
  have hz1 : w.heap.size < w1.heap.size := by have := hb1.size; simp at this; omega
  have c0 : w1.cell? ⟨w.heap.size, 0, none⟩ = some (.int .i64 k) := (hb1.cell (by simp; omega)).trans (by simp)
  have c4 : w1.cell? ⟨w.heap.size, 4, none⟩ = some (.string d) := (hb1.cell (by simp; omega)).trans (by simp)
  have B1 : Below w.heap.size w w1 := (((Below.refl _ _).alloc (Nat.le_refl _) _).alloc (by simp) _).trans (hb1.mono (by simp; omega))
  clear hb1
  go_wp2_with (first | (go_at_call 25; first | (with_reducible refine (HT.out _).mono ?_; rintro r w2 ⟨rfl, rfl⟩) | (with_reducible refine (HD.out _).mono ?_; rintro r w2 ⟨rfl, rfl⟩)))
  go_ret
  refine ⟨ret_s ?_, B1⟩
  rw [show (16 * (15 - (k : Int)) + k) = 16 * (((15 - k : Nat)) : Int) + k by omega, headE k hk16]

set_option maxHeartbeats 300000 in
theorem textR_dat (k a e f : Nat) (d : ByteArray) (hk16 : k < 16) (hcls : tokK k = false ∧ datK k = true ∧ ((k : Int) == 5) = false) (ha : a < 128) (he : e < 16) (hn : a + 128 * e + f < 2048) (hd : d.size ≤ 64) (w : World) :
    Calls Try.prog 15 #[.agg #[.int .i64 k, .int .i64 a, .int .i64 e, .int .i64 f, .string d]] w fun r w' => r = .returned (.string ⟨(headL k ++ d.data.toList ++ dataL d.data.toList).toArray⟩) ∧ Below w.heap.size w w' := by
  have hcv := conv1 (P := Try.prog) Try.underlying52 Try.underlying5 Try.underlying9
  have hcv2 : ∀ (w : World) (o : Obj) (x0 : Int), (convert 52 9 (.slice (some ⟨w.heap.size + 1, 0, none⟩) 1 1)).run Try.prog ((w.alloc o).alloc (.cells #[.int .u8 x0] 5)) = .ok (.string (strOfNums [x0])) ((w.alloc o).alloc (.cells #[.int .u8 x0] 5)) := by
    intro w o x0
    have h := hcv (w.alloc o) x0
    rw [show (w.alloc o).heap.size = w.heap.size + 1 by simp] at h
    exact h
  clear hcv
  have htk := isTok_any k (by omega)
  have hdt := isDat_any k (by omega)
  obtain ⟨hc1, hc2, hc3⟩ := hcls
  rw [hc1] at htk
  rw [hc2] at hdt
  have HT := Lib.hid htk
  have HD := Lib.hid hdt
  have h5 := fiveR_any (a + 128 * e + f) (by omega)
  have hlt : fiveR (a + 128 * e + f) < 32 := by
    rw [← five_same]
    unfold fiveC
    rw [if_neg (by omega)]
    exact Nat.xor_lt_two_pow (n := 5) (feedN_lt (m := 5) (by decide) (by decide) 11) (by decide)
  have HF := Lib.hid (five_same (a + 128 * e + f))
  generalize hx : fiveR (a + 128 * e + f) = x at *
  have he2 : fiveE (a + 128 * e + f) = 0 := if_neg (by omega)
  rw [he2] at h5
  have hn1 : ((a + 128 * e + f : Nat) : Int) = (a : Int) + 128 * e + f := by omega
  rw [hn1] at h5
  have H5 := Lib.hid h5
  clear htk hdt hc1 hc2 h5 hx he2 hn1
  have hsm := more_same 0 (by decide) d.data.toList
  have hlt2 : moreR 0 d.data.toList < 65536 := by rw [← hsm]; omega
  have HSM := Lib.hid hsm
  have HX := Lib.hid (moreR_any 0 (by decide) d (by omega))
  have HY := Lib.hid (twoBytes_any (moreR 0 d.data.toList) (by omega))
  have HM : IntKind.i64.wrap ((moreR 0 d.data.toList : Nat) : Int) = ((moreR 0 d.data.toList : Nat) : Int) := wrap_small _ (by omega)
  have hs2 : (twoL (moreR 0 d.data.toList)).length ≤ 2 := Nat.le_refl _
  have hz := headSize k
  have hsum : (16 * (15 - (k : Int)) + k) = 16 * (((15 - k : Nat)) : Int) + k := by omega
  rw [← hsum] at hz
  have HSUM := Lib.hid hsum
  clear hsum
  have q1 : ¬ 9223372036854775807 < 1 + d.size := by omega
  have q2 : ¬ 9223372036854775807 < 1 + d.size + (twoL (moreR 0 d.data.toList)).length := by omega
  clear hsm
  go_enter Try.func15, Try.ntmps15
  go_wp2_with fail
  refine (H5.out _).mono ?_
  rintro r w1 ⟨rfl, hb1⟩
  have hz1 : w.heap.size < w1.heap.size := by have := hb1.size; simp at this; omega
  have c0 : w1.cell? ⟨w.heap.size, 0, none⟩ = some (.int .i64 k) := (hb1.cell (by simp; omega)).trans (by simp)
  have c4 : w1.cell? ⟨w.heap.size, 4, none⟩ = some (.string d) := (hb1.cell (by simp; omega)).trans (by simp)
  have B1 : Below w.heap.size w w1 := (((Below.refl _ _).alloc (Nat.le_refl _) _).alloc (by simp) _).trans (hb1.mono (by simp; omega))
  clear hb1
  go_wp2_with (first | (go_at_call 25; first | (with_reducible refine (HT.out _).mono ?_; rintro r w2 ⟨rfl, rfl⟩) | (with_reducible refine (HD.out _).mono ?_; rintro r w2 ⟨rfl, rfl⟩)))
  have hcells : Hid (∀ w', Below w1.heap.size w1 w' → w'.cell? ⟨w.heap.size, 4, none⟩ = some (.string d)) :=
    fun w' h => (h.cell hz1).trans c4
  have hz0 : w1.heap.size ≤ w1.heap.size := Nat.le_refl _
  refine wp_region_relF (by kernel_rfl) (by rfl) (fun w' => Below w1.heap.size w1 w')
    (fun i v w' => match i with
      | 0 => v = .string (strOfNums [16 * (15 - (k : Int)) + k])
      | 1 => v = .pointer (some ⟨w.heap.size, 4, none⟩)
      | 2 => v = .string d
      | 3 => v = .string (strOfNums [16 * (15 - (k : Int)) + k] ++ d)
      | 4 => v = .pointer (some ⟨w.heap.size, 4, none⟩)
      | 5 => v = .string d
      | 6 => v = .int .u16 (moreR 0 d.data.toList : Nat)
      | 7 => v = .int .i64 (moreR 0 d.data.toList : Nat)
      | 8 => v = .string ⟨(twoL (moreR 0 d.data.toList)).toArray⟩
      | 9 => v = .string (strOfNums [16 * (15 - (k : Int)) + k] ++ d ++ ⟨(twoL (moreR 0 d.data.toList)).toArray⟩)
      | 10 => v = .string (strOfNums [16 * (15 - (k : Int)) + k] ++ d ++ ⟨(twoL (moreR 0 d.data.toList)).toArray⟩)
      | _ => True) ?_ ?_ ?_ ?_
  · intro i v wq w2 h hS hS' hle
    match i, h with
    | 0, h => exact h
    | 1, h => exact h
    | 2, h => exact h
    | 3, h => exact h
    | 4, h => exact h
    | 5, h => exact h
    | 6, h => exact h
    | 7, h => exact h
    | 8, h => exact h
    | 9, h => exact h
    | 10, h => exact h
    | n + 11, h => trivial
  · exact (Below.refl _ _).drew
  · refine ⟨?_, ?_, ?_, ?_, ?_, ?_, ?_, ?_, ?_, ?_, ?_, trivial⟩
    · refine ok_run rfl (fun x wq hS hd => ⟨.string (strOfNums [16 * (15 - (k : Int)) + k]), wq, ?_, rfl, hS, Below.refl _ _⟩)
      simp [putAll, Act.put, go_sem]
    · refine ok_run rfl (fun x wq hS hd => ⟨.pointer (some ⟨w.heap.size, 4, none⟩), wq, ?_, rfl, hS, Below.refl _ _⟩)
      simp [putAll, Act.put, go_sem]
    · refine ok_run rfl (fun x wq hS hd => ⟨.string d, wq, ?_, rfl, hS, Below.refl _ _⟩)
      have d1 : (x 1) = .pointer (some ⟨w.heap.size, 4, none⟩) := hd.1 rfl
      have x4 := hcells.out _ hS
      simp [putAll, Act.put, go_sem, d1, x4]
    · refine ok_run rfl (fun x wq hS hd => ⟨.string (strOfNums [16 * (15 - (k : Int)) + k] ++ d), wq, ?_, rfl, hS, Below.refl _ _⟩)
      have d0 : (x 0) = .string (strOfNums [16 * (15 - (k : Int)) + k]) := hd.1 rfl
      have d2 : (x 2) = .string d := hd.2.1 rfl
      simp [putAll, Act.put, go_sem, d0, d2, q1, q2, hz, hs2]
    · refine ok_run rfl (fun x wq hS hd => ⟨.pointer (some ⟨w.heap.size, 4, none⟩), wq, ?_, rfl, hS, Below.refl _ _⟩)
      simp [putAll, Act.put, go_sem]
    · refine ok_run rfl (fun x wq hS hd => ⟨.string d, wq, ?_, rfl, hS, Below.refl _ _⟩)
      have d4 : (x 4) = .pointer (some ⟨w.heap.size, 4, none⟩) := hd.1 rfl
      have x4 := hcells.out _ hS
      simp [putAll, Act.put, go_sem, d4, x4]
    · refine ok_call rfl (fun x wq hS hd => ⟨12, #[.int .u16 0, .string d], ?_, (HX.out wq).mono ?_⟩)
      · have d5 : (x 5) = .string d := hd.1 rfl
        simp [putAll, Act.put, go_sem, d5]
      · rintro e w2 ⟨rfl, hb⟩
        exact ⟨_, rfl, rfl, hS.trans (hb.mono (Nat.le_trans hz0 hS.size)), hb⟩
    · refine ok_run rfl (fun x wq hS hd => ⟨.int .i64 (moreR 0 d.data.toList : Nat), wq, ?_, rfl, hS, Below.refl _ _⟩)
      have d6 : (x 6) = .int .u16 (moreR 0 d.data.toList : Nat) := hd.1 rfl
      simp [putAll, Act.put, go_sem, d6, HM]
    · refine ok_call rfl (fun x wq hS hd => ⟨26, #[.int .i64 (moreR 0 d.data.toList : Nat)], ?_, (HY.out wq).mono ?_⟩)
      · have d7 : (x 7) = .int .i64 (moreR 0 d.data.toList : Nat) := hd.1 rfl
        have d6 : (x 6) = .int .u16 (moreR 0 d.data.toList : Nat) := hd.2.1 rfl
        simp [putAll, Act.put, go_sem, d6, d7]
      · rintro e w2 ⟨rfl, hb⟩
        exact ⟨_, rfl, rfl, hS.trans (hb.mono (Nat.le_trans hz0 hS.size)), hb⟩
    · refine ok_run rfl (fun x wq hS hd => ⟨.string (strOfNums [16 * (15 - (k : Int)) + k] ++ d ++ ⟨(twoL (moreR 0 d.data.toList)).toArray⟩), wq, ?_, rfl, hS, Below.refl _ _⟩)
      have d3 : (x 3) = .string (strOfNums [16 * (15 - (k : Int)) + k] ++ d) := hd.1 rfl
      have d8 : (x 8) = .string ⟨(twoL (moreR 0 d.data.toList)).toArray⟩ := hd.2.1 rfl
      simp [putAll, Act.put, go_sem, d3, d8, q1, q2, hz, hs2]
    · refine ok_run rfl (fun x wq hS hd => ⟨.string (strOfNums [16 * (15 - (k : Int)) + k] ++ d ++ ⟨(twoL (moreR 0 d.data.toList)).toArray⟩), wq, ?_, rfl, hS, Below.refl _ _⟩)
      have d9 : (x 9) = .string (strOfNums [16 * (15 - (k : Int)) + k] ++ d ++ ⟨(twoL (moreR 0 d.data.toList)).toArray⟩) := hd.1 rfl
      have d8 : (x 8) = .string ⟨(twoL (moreR 0 d.data.toList)).toArray⟩ := hd.2.1 rfl
      have d0 : (x 0) = .string (strOfNums [16 * (15 - (k : Int)) + k]) := hd.2.2.1 rfl
      have d1 : (x 1) = .pointer (some ⟨w.heap.size, 4, none⟩) := hd.2.2.2.1 rfl
      have d2 : (x 2) = .string d := hd.2.2.2.2.1 rfl
      have d3 : (x 3) = .string (strOfNums [16 * (15 - (k : Int)) + k] ++ d) := hd.2.2.2.2.2.1 rfl
      have d4 : (x 4) = .pointer (some ⟨w.heap.size, 4, none⟩) := hd.2.2.2.2.2.2.1 rfl
      have d5 : (x 5) = .string d := hd.2.2.2.2.2.2.2.1 rfl
      have d6 : (x 6) = .int .u16 (moreR 0 d.data.toList : Nat) := hd.2.2.2.2.2.2.2.2.1 rfl
      have d7 : (x 7) = .int .i64 (moreR 0 d.data.toList : Nat) := hd.2.2.2.2.2.2.2.2.2.1 rfl
      simp [putAll, Act.put, go_sem, d0, d1, d2, d3, d4, d5, d6, d7, d8, d9]
  · intro x wq hS hall
    have q10 : (x 10) = .string (strOfNums [16 * (15 - (k : Int)) + k] ++ d ++ ⟨(twoL (moreR 0 d.data.toList)).toArray⟩) := hall.2.2.2.2.2.2.2.2.2.2.1
    clear hall
    simp only [putAll, Act.put, List.setIfInBounds_toArray, List.set_cons_succ, List.set_cons_zero, q10]
    go_wp2_with fail
    go_ret
    refine ⟨ret_s ?_, Below.trans B1 (hS.mono B1.size)⟩
    rw [HSUM.out, headE k hk16]
    have e1 : (⟨(headL k).toArray⟩ : ByteArray) ++ d = ⟨(headL k ++ d.data.toList).toArray⟩ := str_append (headL k) d.data.toList
    rw [e1]
    have e2 : dataL d.data.toList = twoL (moreR 0 d.data.toList) := by unfold dataL; rw [← HSM.out]
    rw [e2]
    exact str_append _ _
end Go.Proofs.Ytglkfgfnnhbjeaa
