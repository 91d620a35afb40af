/- Contracts: word, sealed, Write (packet), PacketText (plugref). -/
import Derived.Test.YtglkfgfnnhbjeaaPacket2
import Derived.Test.YtglkfgfnnhbjeaaTwoB
import Derived.Test.YtglkfgfnnhbjeaaRel
namespace Go.Proofs.Ytglkfgfnnhbjeaa
open Go.RowKit
set_option linter.unusedVariables false
set_option maxRecDepth 100000

theorem word_any (n : Nat) (h : n < 65536) (w : World) : Calls Try.prog 30 #[.int .u16 n] w fun e w' => e = .returned (.string ⟨(twoL n).toArray⟩) ∧ Below w.heap.size w w' := by
  have hc := conv2 (P := Try.prog) Try.underlying52 Try.underlying5 Try.underlying9
  go_enter Try.func30, Try.ntmps30
  go_wp2
  go_ret
  exact ⟨ret_s (nums_eq (nums2 (by omega) (by omega))), (Below.refl _ _).alloc (Nat.le_refl _) _⟩
theorem sealed_any (n : Nat) (h : n < 2048) (w : World) : Calls Try.prog 28 #[.int .u16 n] w fun e w' => e = .returned (.string ⟨(twoL (n + 2048 * fiveC n)).toArray⟩) ∧ Below w.heap.size w w' := by
  have h5 := fiveP_any n (by omega)
  have hlt : fiveC n < 32 := by
    unfold fiveC
    rw [if_neg (by omega)]
    exact Nat.xor_lt_two_pow (n := 5) (feedN_lt (m := 5) (by decide) (by decide) 11) (by decide)
  generalize hx : fiveC n = x at *
  have hor := u16_or_nat n (x * 2048) (by omega) (by omega)
  rw [or_add n x 11 h] at hor
  have hw := word_any (n + x * 2048) (by omega)
  have H5 := Lib.hid h5
  have HW := Lib.hid hw
  have e : (((n + x * 2048 : Nat)) : Int) = (n : Int) + x * 2048 := by omega
  have hor2 : Go.bits .or .u16 (n : Int) ((x : Int) * 2048) = ((n + x * 2048 : Nat) : Int) := by simpa using hor
  clear h5 hw hor e hx
  go_enter Try.func28, Try.ntmps28
  go_wp2_with fail
  refine (H5.out _).mono ?_
  rintro e w1 ⟨rfl, rfl⟩
  go_wp2_with fail
  refine (HW.out _).mono ?_
  rintro e w2 ⟨rfl, hb⟩
  go_wp2_with fail
  go_ret
  exact ⟨ret_s (by rw [Nat.mul_comm 2048 x]), hb⟩
-- FROM HERE BY rel_packet.py
def headL (k : Nat) : List UInt8 := [UInt8.ofNat (16 * (15 - k) + k)]
def sealL (n : Nat) : List UInt8 := twoL (n + 2048 * fiveC n)
def dataL (l : List UInt8) : List UInt8 := twoL (65535 - moreC 65535 l)
theorem head_bits (k : Nat) (hk : k < 16) : Go.bits .or .i64 (k : Int) (Go.bits .xor .i64 (k : Int) 15 * 16) = ((16 * (15 - k) + k : Nat) : Int) := by
  have e1 : Go.bits .xor .i64 (k : Int) 15 = ((15 - k : Nat) : Int) := by
    have := i64_xor_nat k 15 (by omega) (by decide)
    have e : k ^^^ 15 = 15 - k := by
      have : ∀ q : Fin 16, q.val ^^^ 15 = 15 - q.val := by decide
      exact this ⟨k, hk⟩
    rw [e] at this
    simpa using this
  rw [e1]
  have := i64_or_nat k ((15 - k) * 16) (by omega) (by omega)
  rw [or_add k (15 - k) 4 (by omega)] at this
  have e2 : k + (15 - k) * 2 ^ 4 = 16 * (15 - k) + k := by omega
  rw [e2] at this
  simpa using this
theorem head_nums (k : Nat) (hk : k < 16) (x : Int) (hx : x = ((16 * (15 - k) + k : Nat) : Int)) : strOfNums [x] = ⟨(headL k).toArray⟩ := by
  subst hx
  rfl
theorem headE (k : Nat) (hk : k < 16) : strOfNums [16 * (((15 - k : Nat)) : Int) + k] = ⟨(headL k).toArray⟩ := head_nums k hk _ (by omega)
theorem headSize (k : Nat) : (strOfNums [16 * (((15 - k : Nat)) : Int) + k]).size = 1 := by rw [strOfNums_size]; rfl
theorem sealSize (n : Nat) : (sealL n).length ≤ 2 := Nat.le_refl _
theorem dataSize (l : List UInt8) : (dataL l).length ≤ 2 := Nat.le_refl _
theorem string_list (d : ByteArray) : d = ⟨d.data.toList.toArray⟩ := rfl

set_option maxHeartbeats 300000 in
theorem writeP_bare (k  : Nat) (d : ByteArray) (hk16 : k < 16) (hcls : tokK k = false ∧ datK k = false ∧ ((k : Int) == 5) = false)  (hE : pktErr k 0 0 0 d.size = 0) (hd : d.size ≤ 64) (w : World) :
    Calls Try.prog 16 #[.agg #[.int .i64 k, .int .i64 0, .int .i64 0, .int .i64 0, .string d]] w fun r w' => r = .returned (.tuple #[.string ⟨(headL k).toArray⟩, .int .i64 0]) ∧ Below w.heap.size w w' := by
  have hck := checkP_any k 0 0 0 d (by unfold I64; omega) (by unfold I64; omega) (by unfold I64; omega) (by unfold I64; omega) (by unfold maxLen; omega)
  rw [hE] at hck
  have HK := Lib.hid hck
  have HH := Lib.hid (head_bits k hk16)
  have hcv := conv1 (P := Try.prog) Try.underlying52 Try.underlying5 Try.underlying9
  have htk := token_any (k : Int)
  have hdt := data_any (k : Int)
  obtain ⟨hc1, hc2, hc3⟩ := hcls
  rw [hc1] at htk
  rw [hc2] at hdt
  have HT := Lib.hid htk
  have HD := Lib.hid hdt
  clear hck htk hdt hE hc1 hc2
  have hxk : Go.bits .xor .i64 (k : Int) 15 = ((15 - k : Nat) : Int) := by
    have := i64_xor_nat k 15 (by omega) (by decide)
    have e : k ^^^ 15 = 15 - k := by
      have : ∀ q : Fin 16, q.val ^^^ 15 = 15 - q.val := by decide
      exact this ⟨k, hk16⟩
    rw [e] at this
    simpa using this
  have hor : Go.bits .or .i64 (k : Int) (((15 - k : Nat) : Int) * 16) = ((16 * (15 - k) + k : Nat) : Int) := by
    rw [← hxk]; exact HH.out

  go_enter Try.func16, Try.ntmps16
  go_wp2_with fail
  refine (HK.out _).mono ?_
  rintro r w1 ⟨rfl, hb1⟩
  have hz1 : w.heap.size < w1.heap.size := by have := hb1.size; simp at this; omega
  have c0 : w1.cell? ⟨w.heap.size, 0, none⟩ = some (.int .i64 k) := (hb1.cell (by simp)).trans (by simp)
  have c1 : w1.cell? ⟨w.heap.size, 1, none⟩ = some (.int .i64 0) := (hb1.cell (by simp)).trans (by simp)
  have c2 : w1.cell? ⟨w.heap.size, 2, none⟩ = some (.int .i64 0) := (hb1.cell (by simp)).trans (by simp)
  have c3 : w1.cell? ⟨w.heap.size, 3, none⟩ = some (.int .i64 0) := (hb1.cell (by simp)).trans (by simp)
  have c4 : w1.cell? ⟨w.heap.size, 4, none⟩ = some (.string d) := (hb1.cell (by simp)).trans (by simp)
  have B1 : Below w.heap.size w w1 := ((Below.refl _ _).alloc (Nat.le_refl _) _).trans (hb1.mono (by simp))
  clear hb1
  go_wp2_with (first | (go_at_call 27; with_reducible refine (HT.out _).mono ?_; rintro r w2 ⟨rfl, rfl⟩) | (go_at_call 29; with_reducible refine (HD.out _).mono ?_; rintro r w2 ⟨rfl, rfl⟩))
  go_ret2
  exact ⟨ret_si (headE k hk16) rfl, B1.alloc B1.size _⟩

set_option maxHeartbeats 300000 in
theorem writeP_tok (k a e : Nat) (d : ByteArray) (hk16 : k < 16) (hcls : tokK k = true ∧ datK k = false ∧ ((k : Int) == 5) = false) (ha : a < 128) (he : e < 16) (hE : pktErr k a e 0 d.size = 0) (hd : d.size ≤ 64) (w : World) :
    Calls Try.prog 16 #[.agg #[.int .i64 k, .int .i64 a, .int .i64 e, .int .i64 0, .string d]] w fun r w' => r = .returned (.tuple #[.string ⟨(headL k ++ sealL (a + e * 128)).toArray⟩, .int .i64 0]) ∧ Below w.heap.size w w' := by
  have hck := checkP_any k a e 0 d (by unfold I64; omega) (by unfold I64; omega) (by unfold I64; omega) (by unfold I64; omega) (by unfold maxLen; omega)
  rw [hE] at hck
  have HK := Lib.hid hck
  have HH := Lib.hid (head_bits k hk16)
  have hcv := conv1 (P := Try.prog) Try.underlying52 Try.underlying5 Try.underlying9
  have htk := token_any (k : Int)
  have hdt := data_any (k : Int)
  obtain ⟨hc1, hc2, hc3⟩ := hcls
  rw [hc1] at htk
  rw [hc2] at hdt
  have HT := Lib.hid htk
  have HD := Lib.hid hdt
  clear hck htk hdt hE hc1 hc2
  have hxk : Go.bits .xor .i64 (k : Int) 15 = ((15 - k : Nat) : Int) := by
    have := i64_xor_nat k 15 (by omega) (by decide)
    have e : k ^^^ 15 = 15 - k := by
      have : ∀ q : Fin 16, q.val ^^^ 15 = 15 - q.val := by decide
      exact this ⟨k, hk16⟩
    rw [e] at this
    simpa using this
  have hor : Go.bits .or .i64 (k : Int) (((15 - k : Nat) : Int) * 16) = ((16 * (15 - k) + k : Nat) : Int) := by
    rw [← hxk]; exact HH.out
  have hor2 : Go.bits .or .i64 (a : Int) ((e : Int) * 128) = ((a + e * 128 : Nat) : Int) := by
    have := i64_or_nat a (e * 128) (by omega) (by omega)
    rw [or_add a e 7 ha] at this
    simpa using this
  have HS : Hid (∀ w, Calls Try.prog 28 #[.int .u16 (a + e * 128 : Nat)] w fun r w' => r = .returned (.string ⟨(sealL (a + e * 128)).toArray⟩) ∧ Below w.heap.size w w') := sealed_any (a + e * 128) (by omega)
  have hw16 : ((a + e * 128 : Nat) : Int) = (a : Int) + e * 128 := by omega
  rw [hw16] at hor2 HS
  clear hw16
  go_enter Try.func16, Try.ntmps16
  go_wp2_with fail
  refine (HK.out _).mono ?_
  rintro r w1 ⟨rfl, hb1⟩
  have hz1 : w.heap.size < w1.heap.size := by have := hb1.size; simp at this; omega
  have c0 : w1.cell? ⟨w.heap.size, 0, none⟩ = some (.int .i64 k) := (hb1.cell (by simp)).trans (by simp)
  have c1 : w1.cell? ⟨w.heap.size, 1, none⟩ = some (.int .i64 a) := (hb1.cell (by simp)).trans (by simp)
  have c2 : w1.cell? ⟨w.heap.size, 2, none⟩ = some (.int .i64 e) := (hb1.cell (by simp)).trans (by simp)
  have c3 : w1.cell? ⟨w.heap.size, 3, none⟩ = some (.int .i64 0) := (hb1.cell (by simp)).trans (by simp)
  have c4 : w1.cell? ⟨w.heap.size, 4, none⟩ = some (.string d) := (hb1.cell (by simp)).trans (by simp)
  have B1 : Below w.heap.size w w1 := ((Below.refl _ _).alloc (Nat.le_refl _) _).trans (hb1.mono (by simp))
  clear hb1
  go_wp2_with (first | (go_at_call 27; with_reducible refine (HT.out _).mono ?_; rintro r w2 ⟨rfl, rfl⟩) | (go_at_call 29; with_reducible refine (HD.out _).mono ?_; rintro r w2 ⟨rfl, rfl⟩))
  refine (HS.out _).mono ?_
  rintro r w3 ⟨rfl, hb3⟩
  have hz := sealSize (a + e * 128)
  have hz2 := headSize k
  go_wp2_with fail
  go_ret2
  refine ⟨ret_si ?_ rfl, Below.trans (B1.alloc B1.size _) (hb3.mono (by have := B1.size; simp; omega))⟩
  rw [headE k hk16]
  exact str_append _ _

set_option maxHeartbeats 300000 in
theorem writeP_sof (k f : Nat) (d : ByteArray) (hk16 : k < 16) (hcls : tokK k = false ∧ datK k = false ∧ ((k : Int) == 5) = true) (hf : f < 2048) (hE : pktErr k 0 0 f d.size = 0) (hd : d.size ≤ 64) (w : World) :
    Calls Try.prog 16 #[.agg #[.int .i64 k, .int .i64 0, .int .i64 0, .int .i64 f, .string d]] w fun r w' => r = .returned (.tuple #[.string ⟨(headL k ++ sealL f).toArray⟩, .int .i64 0]) ∧ Below w.heap.size w w' := by
  have hck := checkP_any k 0 0 f d (by unfold I64; omega) (by unfold I64; omega) (by unfold I64; omega) (by unfold I64; omega) (by unfold maxLen; omega)
  rw [hE] at hck
  have HK := Lib.hid hck
  have HH := Lib.hid (head_bits k hk16)
  have hcv := conv1 (P := Try.prog) Try.underlying52 Try.underlying5 Try.underlying9
  have htk := token_any (k : Int)
  have hdt := data_any (k : Int)
  obtain ⟨hc1, hc2, hc3⟩ := hcls
  rw [hc1] at htk
  rw [hc2] at hdt
  have HT := Lib.hid htk
  have HD := Lib.hid hdt
  clear hck htk hdt hE hc1 hc2
  have hxk : Go.bits .xor .i64 (k : Int) 15 = ((15 - k : Nat) : Int) := by
    have := i64_xor_nat k 15 (by omega) (by decide)
    have e : k ^^^ 15 = 15 - k := by
      have : ∀ q : Fin 16, q.val ^^^ 15 = 15 - q.val := by decide
      exact this ⟨k, hk16⟩
    rw [e] at this
    simpa using this
  have hor : Go.bits .or .i64 (k : Int) (((15 - k : Nat) : Int) * 16) = ((16 * (15 - k) + k : Nat) : Int) := by
    rw [← hxk]; exact HH.out
  have HS : Hid (∀ w, Calls Try.prog 28 #[.int .u16 f] w fun r w' => r = .returned (.string ⟨(sealL f).toArray⟩) ∧ Below w.heap.size w w') := sealed_any f hf
  go_enter Try.func16, Try.ntmps16
  go_wp2_with fail
  refine (HK.out _).mono ?_
  rintro r w1 ⟨rfl, hb1⟩
  have hz1 : w.heap.size < w1.heap.size := by have := hb1.size; simp at this; omega
  have c0 : w1.cell? ⟨w.heap.size, 0, none⟩ = some (.int .i64 k) := (hb1.cell (by simp)).trans (by simp)
  have c1 : w1.cell? ⟨w.heap.size, 1, none⟩ = some (.int .i64 0) := (hb1.cell (by simp)).trans (by simp)
  have c2 : w1.cell? ⟨w.heap.size, 2, none⟩ = some (.int .i64 0) := (hb1.cell (by simp)).trans (by simp)
  have c3 : w1.cell? ⟨w.heap.size, 3, none⟩ = some (.int .i64 f) := (hb1.cell (by simp)).trans (by simp)
  have c4 : w1.cell? ⟨w.heap.size, 4, none⟩ = some (.string d) := (hb1.cell (by simp)).trans (by simp)
  have B1 : Below w.heap.size w w1 := ((Below.refl _ _).alloc (Nat.le_refl _) _).trans (hb1.mono (by simp))
  clear hb1
  go_wp2_with (first | (go_at_call 27; with_reducible refine (HT.out _).mono ?_; rintro r w2 ⟨rfl, rfl⟩) | (go_at_call 29; with_reducible refine (HD.out _).mono ?_; rintro r w2 ⟨rfl, rfl⟩))
  refine (HS.out _).mono ?_
  rintro r w3 ⟨rfl, hb3⟩
  have hz := sealSize (f)
  have hz2 := headSize k
  go_wp2_with fail
  go_ret2
  refine ⟨ret_si ?_ rfl, Below.trans (B1.alloc B1.size _) (hb3.mono (by have := B1.size; simp; omega))⟩
  rw [headE k hk16]
  exact str_append _ _

set_option maxHeartbeats 300000 in
theorem writeP_dat (k  : Nat) (d : ByteArray) (hk16 : k < 16) (hcls : tokK k = false ∧ datK k = true ∧ ((k : Int) == 5) = false)  (hE : pktErr k 0 0 0 d.size = 0) (hd : d.size ≤ 64) (w : World) :
    Calls Try.prog 16 #[.agg #[.int .i64 k, .int .i64 0, .int .i64 0, .int .i64 0, .string d]] w fun r w' => r = .returned (.tuple #[.string ⟨(headL k ++ d.data.toList ++ dataL d.data.toList).toArray⟩, .int .i64 0]) ∧ Below w.heap.size w w' := by
  have hck := checkP_any k 0 0 0 d (by unfold I64; omega) (by unfold I64; omega) (by unfold I64; omega) (by unfold I64; omega) (by unfold maxLen; omega)
  rw [hE] at hck
  have HK := Lib.hid hck
  have HH := Lib.hid (head_bits k hk16)
  have hcv := conv1 (P := Try.prog) Try.underlying52 Try.underlying5 Try.underlying9
  have htk := token_any (k : Int)
  have hdt := data_any (k : Int)
  obtain ⟨hc1, hc2, hc3⟩ := hcls
  rw [hc1] at htk
  rw [hc2] at hdt
  have HT := Lib.hid htk
  have HD := Lib.hid hdt
  clear hck htk hdt hE hc1 hc2
  have hxk : Go.bits .xor .i64 (k : Int) 15 = ((15 - k : Nat) : Int) := by
    have := i64_xor_nat k 15 (by omega) (by decide)
    have e : k ^^^ 15 = 15 - k := by
      have : ∀ q : Fin 16, q.val ^^^ 15 = 15 - q.val := by decide
      exact this ⟨k, hk16⟩
    rw [e] at this
    simpa using this
  have hor : Go.bits .or .i64 (k : Int) (((15 - k : Nat) : Int) * 16) = ((16 * (15 - k) + k : Nat) : Int) := by
    rw [← hxk]; exact HH.out
  have HX := Lib.hid (sixteen_any d (by unfold maxLen; omega))
  have HY : Hid (∀ w, Calls Try.prog 30 #[.int .u16 (65535 - moreC 65535 d.data.toList : Nat)] w fun r w' => r = .returned (.string ⟨(dataL d.data.toList).toArray⟩) ∧ Below w.heap.size w w') := word_any _ (by omega)
  go_enter Try.func16, Try.ntmps16
  go_wp2_with fail
  refine (HK.out _).mono ?_
  rintro r w1 ⟨rfl, hb1⟩
  have hz1 : w.heap.size < w1.heap.size := by have := hb1.size; simp at this; omega
  have c0 : w1.cell? ⟨w.heap.size, 0, none⟩ = some (.int .i64 k) := (hb1.cell (by simp)).trans (by simp)
  have c1 : w1.cell? ⟨w.heap.size, 1, none⟩ = some (.int .i64 0) := (hb1.cell (by simp)).trans (by simp)
  have c2 : w1.cell? ⟨w.heap.size, 2, none⟩ = some (.int .i64 0) := (hb1.cell (by simp)).trans (by simp)
  have c3 : w1.cell? ⟨w.heap.size, 3, none⟩ = some (.int .i64 0) := (hb1.cell (by simp)).trans (by simp)
  have c4 : w1.cell? ⟨w.heap.size, 4, none⟩ = some (.string d) := (hb1.cell (by simp)).trans (by simp)
  have B1 : Below w.heap.size w w1 := ((Below.refl _ _).alloc (Nat.le_refl _) _).trans (hb1.mono (by simp))
  clear hb1
  go_wp2_with (first | (go_at_call 27; with_reducible refine (HT.out _).mono ?_; rintro r w2 ⟨rfl, rfl⟩) | (go_at_call 29; with_reducible refine (HD.out _).mono ?_; rintro r w2 ⟨rfl, rfl⟩))
  have hs1 := headSize k
  have hs2 := dataSize d.data.toList
  have q1 : ¬ 9223372036854775807 < 1 + d.size := by omega
  have q2 : ¬ 9223372036854775807 < 1 + d.size + (dataL d.data.toList).length := by omega
  have hcells : Hid (∀ w', Below (w1.heap.size + 1) (w1.alloc (.cells #[.int .u8 (16 * ((15 - k : Nat) : Int) + k)] 5)) w' → w'.cell? ⟨w.heap.size, 4, none⟩ = some (.string d)) :=
    fun w' h => (h.cell (by show w.heap.size < w1.heap.size + 1; omega)).trans ((((Below.refl w1.heap.size w1).alloc (Nat.le_refl _) _).cell hz1).trans c4)
  have hz0 : w1.heap.size + 1 ≤ (w1.alloc (.cells #[.int .u8 (16 * ((15 - k : Nat) : Int) + k)] 5)).heap.size := by simp
  refine wp_region_relF (by kernel_rfl) (by rfl) (fun w' => Below (w1.heap.size + 1) (w1.alloc (.cells #[.int .u8 (16 * ((15 - k : Nat) : Int) + k)] 5)) w')
    (fun i v w' => match i with
      | 0 => v = .string (strOfNums [16 * ((15 - k : Nat) : Int) + k])
      | 1 => v = .pointer (some ⟨w.heap.size, 4, none⟩)
      | 2 => v = .string d
      | 3 => v = .string (strOfNums [16 * ((15 - k : Nat) : Int) + k] ++ d)
      | 4 => v = .pointer (some ⟨w.heap.size, 4, none⟩)
      | 5 => v = .string d
      | 6 => v = .int .u16 (65535 - moreC 65535 d.data.toList : Nat)
      | 7 => v = .string ⟨(dataL d.data.toList).toArray⟩
      | 8 => v = .string (strOfNums [16 * ((15 - k : Nat) : Int) + k] ++ d ++ ⟨(dataL d.data.toList).toArray⟩)
      | 9 => v = .string (strOfNums [16 * ((15 - k : Nat) : Int) + k] ++ d ++ ⟨(dataL d.data.toList).toArray⟩)
      | 10 => v = .int .i64 0
      | _ => True) ?_ ?_ ?_ ?_
  · intro i v wq w2 h hS hS' hle
    match i, h with
    | 0, h => exact h
    | 1, h => exact h
    | 2, h => exact h
    | 3, h => exact h
    | 4, h => exact h
    | 5, h => exact h
    | 6, h => exact h
    | 7, h => exact h
    | 8, h => exact h
    | 9, h => exact h
    | 10, h => exact h
    | n + 11, h => trivial
  · exact (Below.refl _ _).drew
  · refine ⟨?_, ?_, ?_, ?_, ?_, ?_, ?_, ?_, ?_, ?_, ?_, trivial⟩
    · refine ok_run rfl (fun x wq hS hd => ⟨.string (strOfNums [16 * ((15 - k : Nat) : Int) + k]), wq, ?_, rfl, hS, Below.refl _ _⟩)
      simp [putAll, Act.put, go_sem]
    · refine ok_run rfl (fun x wq hS hd => ⟨.pointer (some ⟨w.heap.size, 4, none⟩), wq, ?_, rfl, hS, Below.refl _ _⟩)
      simp [putAll, Act.put, go_sem]
    · refine ok_run rfl (fun x wq hS hd => ⟨.string d, wq, ?_, rfl, hS, Below.refl _ _⟩)
      have d1 : (x 1) = .pointer (some ⟨w.heap.size, 4, none⟩) := hd.1 rfl
      have x4 := hcells.out _ hS
      simp [putAll, Act.put, go_sem, d1, x4]
    · refine ok_run rfl (fun x wq hS hd => ⟨.string (strOfNums [16 * ((15 - k : Nat) : Int) + k] ++ d), wq, ?_, rfl, hS, Below.refl _ _⟩)
      have d0 : (x 0) = .string (strOfNums [16 * ((15 - k : Nat) : Int) + k]) := hd.1 rfl
      have d2 : (x 2) = .string d := hd.2.1 rfl
      simp [putAll, Act.put, go_sem, d0, d2, q1, q2, hs1, hs2]
    · refine ok_run rfl (fun x wq hS hd => ⟨.pointer (some ⟨w.heap.size, 4, none⟩), wq, ?_, rfl, hS, Below.refl _ _⟩)
      simp [putAll, Act.put, go_sem]
    · refine ok_run rfl (fun x wq hS hd => ⟨.string d, wq, ?_, rfl, hS, Below.refl _ _⟩)
      have d4 : (x 4) = .pointer (some ⟨w.heap.size, 4, none⟩) := hd.1 rfl
      have x4 := hcells.out _ hS
      simp [putAll, Act.put, go_sem, d4, x4]
    · refine ok_call rfl (fun x wq hS hd => ⟨11, #[.string d], ?_, (HX.out wq).mono ?_⟩)
      · have d5 : (x 5) = .string d := hd.1 rfl
        simp [putAll, Act.put, go_sem, d5]
      · rintro e w2 ⟨rfl, rfl⟩
        exact ⟨_, rfl, rfl, hS, Below.refl _ _⟩
    · refine ok_call rfl (fun x wq hS hd => ⟨30, #[.int .u16 (65535 - moreC 65535 d.data.toList : Nat)], ?_, (HY.out wq).mono ?_⟩)
      · have d6 : (x 6) = .int .u16 (65535 - moreC 65535 d.data.toList : Nat) := hd.1 rfl
        simp [putAll, Act.put, go_sem, d6]
      · rintro e w2 ⟨rfl, hb⟩
        exact ⟨_, rfl, rfl, hS.trans (hb.mono (Nat.le_trans hz0 hS.size)), hb⟩
    · refine ok_run rfl (fun x wq hS hd => ⟨.string (strOfNums [16 * ((15 - k : Nat) : Int) + k] ++ d ++ ⟨(dataL d.data.toList).toArray⟩), wq, ?_, rfl, hS, Below.refl _ _⟩)
      have d3 : (x 3) = .string (strOfNums [16 * ((15 - k : Nat) : Int) + k] ++ d) := hd.1 rfl
      have d7 : (x 7) = .string ⟨(dataL d.data.toList).toArray⟩ := hd.2.1 rfl
      simp [putAll, Act.put, go_sem, d3, d7, q1, q2, hs1, hs2]
    · refine ok_run rfl (fun x wq hS hd => ⟨.string (strOfNums [16 * ((15 - k : Nat) : Int) + k] ++ d ++ ⟨(dataL d.data.toList).toArray⟩), wq, ?_, rfl, hS, Below.refl _ _⟩)
      have d8 : (x 8) = .string (strOfNums [16 * ((15 - k : Nat) : Int) + k] ++ d ++ ⟨(dataL d.data.toList).toArray⟩) := hd.1 rfl
      have d7 : (x 7) = .string ⟨(dataL d.data.toList).toArray⟩ := hd.2.1 rfl
      have d0 : (x 0) = .string (strOfNums [16 * ((15 - k : Nat) : Int) + k]) := hd.2.2.1 rfl
      have d1 : (x 1) = .pointer (some ⟨w.heap.size, 4, none⟩) := hd.2.2.2.1 rfl
      have d2 : (x 2) = .string d := hd.2.2.2.2.1 rfl
      have d3 : (x 3) = .string (strOfNums [16 * ((15 - k : Nat) : Int) + k] ++ d) := hd.2.2.2.2.2.1 rfl
      have d4 : (x 4) = .pointer (some ⟨w.heap.size, 4, none⟩) := hd.2.2.2.2.2.2.1 rfl
      have d5 : (x 5) = .string d := hd.2.2.2.2.2.2.2.1 rfl
      have d6 : (x 6) = .int .u16 (65535 - moreC 65535 d.data.toList : Nat) := hd.2.2.2.2.2.2.2.2.1 rfl
      simp [putAll, Act.put, go_sem, d0, d1, d2, d3, d4, d5, d6, d7, d8]
    · refine ok_run rfl (fun x wq hS hd => ⟨.int .i64 0, wq, ?_, rfl, hS, Below.refl _ _⟩)
      have d9 : (x 9) = .string (strOfNums [16 * ((15 - k : Nat) : Int) + k] ++ d ++ ⟨(dataL d.data.toList).toArray⟩) := hd.1 rfl
      have d0 : (x 0) = .string (strOfNums [16 * ((15 - k : Nat) : Int) + k]) := hd.2.1 rfl
      have d1 : (x 1) = .pointer (some ⟨w.heap.size, 4, none⟩) := hd.2.2.1 rfl
      have d2 : (x 2) = .string d := hd.2.2.2.1 rfl
      have d3 : (x 3) = .string (strOfNums [16 * ((15 - k : Nat) : Int) + k] ++ d) := hd.2.2.2.2.1 rfl
      have d4 : (x 4) = .pointer (some ⟨w.heap.size, 4, none⟩) := hd.2.2.2.2.2.1 rfl
      have d5 : (x 5) = .string d := hd.2.2.2.2.2.2.1 rfl
      have d6 : (x 6) = .int .u16 (65535 - moreC 65535 d.data.toList : Nat) := hd.2.2.2.2.2.2.2.1 rfl
      have d7 : (x 7) = .string ⟨(dataL d.data.toList).toArray⟩ := hd.2.2.2.2.2.2.2.2.1 rfl
      have d8 : (x 8) = .string (strOfNums [16 * ((15 - k : Nat) : Int) + k] ++ d ++ ⟨(dataL d.data.toList).toArray⟩) := hd.2.2.2.2.2.2.2.2.2.1 rfl
      simp [putAll, Act.put, go_sem, d0, d1, d2, d3, d4, d5, d6, d7, d8, d9]
  · intro x wq hS hall
    have q9 : (x 9) = .string (strOfNums [16 * ((15 - k : Nat) : Int) + k] ++ d ++ ⟨(dataL d.data.toList).toArray⟩) := hall.2.2.2.2.2.2.2.2.2.1
    have q10 : (x 10) = .int .i64 0 := hall.2.2.2.2.2.2.2.2.2.2.1
    clear hall
    simp only [putAll, Act.put, List.setIfInBounds_toArray, List.set_cons_succ, List.set_cons_zero, q9, q10]
    go_wp2_with fail
    go_ret2
    refine ⟨ret_si ?_ rfl, Below.trans (B1.alloc B1.size _) (hS.mono (by have := B1.size; omega))⟩
    rw [headE k hk16]
    have e1 : (⟨(headL k).toArray⟩ : ByteArray) ++ d = ⟨(headL k ++ d.data.toList).toArray⟩ := str_append (headL k) d.data.toList
    rw [e1]
    exact str_append _ _
end Go.Proofs.Ytglkfgfnnhbjeaa
