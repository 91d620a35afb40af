/- Contract: Read (packet). -/
import Derived.Test.YtbeilpecdimheaaPacket
import Derived.Test.YtbeilpecdimheaaCrcLaw
import Derived.Test.YtbeilpecdimheaaTwoB
import Derived.Test.YtbeilpecdimheaaKit2
namespace Go.Proofs.Ytbeilpecdimheaa
open Go.RowKit
set_option linter.unusedVariables false
set_option maxRecDepth 100000

theorem u8_and15 (b : Nat) (hb : b < 256) : Go.bits .and .u8 (b : Int) 15 = ((b % 16 : Nat) : Int) := by
  have : ∀ b : Fin 256, Go.bits .and .u8 (b.val : Int) 15 = ((b.val % 16 : Nat) : Int) := by decide
  exact this ⟨b, hb⟩
theorem xor15 (q : Nat) (hq : q < 16) : Go.bits .xor .i64 (q : Int) 15 = ((15 - q : Nat) : Int) := by
  have : ∀ q : Fin 16, Go.bits .xor .i64 (q.val : Int) 15 = ((15 - q.val : Nat) : Int) := by decide
  exact this ⟨q, hq⟩
def noPkt : Value := .agg #[.int .i64 0, .int .i64 0, .int .i64 0, .int .i64 0, .string ⟨#[]⟩]
/-- the head of a text: kind k, its complement q -/
structure Head (s : ByteArray) (h0 : 0 < s.size) (b k q : Nat) : Prop where
  isB : s[0].toNat = b
  isLt : b < 256
  isK : b % 16 = k
  isQ : b / 16 = q
theorem noPkt_eq : noPkt = .agg #[.int .i64 0, .int .i64 0, .int .i64 0, .int .i64 0, .string ⟨#[]⟩] := rfl
theorem nonempty_list (s : ByteArray) (h : 0 < s.size) : s.toList.isEmpty = false := by rw [toList_isEmpty]; exact decide_eq_false (by omega)
/-- what the walks of Read take of a head: its bits, its classes -/
structure HeadF (s : ByteArray) (h0 : 0 < s.size) (b k q : Nat) (kn tk dt : Bool) : Prop where
  hb : s[0].toNat = b
  lt : b < 256
  k16 : (k : Int) < 16
  q16 : (q : Int) < 16
  q1 : Go.bits .and .u8 (b : Int) 15 = (k : Int)
  q2 : (b : Int) / 16 = q
  q3 : Go.bits .xor .i64 (q : Int) 15 = ((15 - q : Nat) : Int)
  hn : s.toList.isEmpty = false
  h0' : (0 : Int) < s.size
  K : ∀ w, Calls Try.prog 53 #[.int .i64 k] w fun e w' => e = .returned (.bool kn) ∧ w = w'
  T : ∀ w, Calls Try.prog 54 #[.int .i64 k] w fun e w' => e = .returned (.bool tk) ∧ w = w'
  D : ∀ w, Calls Try.prog 55 #[.int .i64 k] w fun e w' => e = .returned (.bool dt) ∧ w = w'
theorem headF (s : ByteArray) (h0 : 0 < s.size) : HeadF s h0 s[0].toNat (s[0].toNat % 16) (s[0].toNat / 16) (knownK (s[0].toNat % 16 : Nat)) (tokK (s[0].toNat % 16 : Nat)) (datK (s[0].toNat % 16 : Nat)) := by
  have hlt : s[0].toNat < 256 := s[0].toNat_lt
  exact ⟨rfl, hlt, by omega, by omega, u8_and15 _ hlt, by omega, xor15 _ (by omega), nonempty_list s h0, by omega, known_any _, token_any _, data_any _⟩
theorem and2047 (n : Nat) (h : n < 65536) : Go.bits .and .u16 (n : Int) 2047 = (n : Int) % 2048 := by
  have h1 := u16_and_nat n 2047 h (by decide)
  have := Nat.and_two_pow_sub_one_eq_mod n 11
  simp only [Nat.reducePow, Nat.reduceSub] at this
  rw [this] at h1
  simpa using h1
theorem and127 (n : Nat) (h : n < 65536) : Go.bits .and .u16 (n : Int) 127 = (n : Int) % 128 := by
  have h1 := u16_and_nat n 127 h (by decide)
  have := Nat.and_two_pow_sub_one_eq_mod n 7
  simp only [Nat.reducePow, Nat.reduceSub] at this
  rw [this] at h1
  simpa using h1
theorem and15 (n : Nat) (h : n < 65536) : Go.bits .and .u16 ((n : Int) / 128) 15 = (n : Int) / 128 % 16 := by
  have h1 := u16_and_nat (n / 128) 15 (by omega) (by decide)
  have := Nat.and_two_pow_sub_one_eq_mod (n / 128) 4
  simp only [Nat.reducePow, Nat.reduceSub] at this
  rw [this] at h1
  simpa using h1
theorem or256 (lo hi : Nat) (h1 : lo < 256) (h2 : hi < 256) : Go.bits .or .u16 (lo : Int) ((hi : Int) * 256) = ((lo + 256 * hi : Nat) : Int) := by
  have h := u16_or_nat lo (hi * 256) (by omega) (by omega)
  rw [or_add lo hi 8 (by omega)] at h
  rw [show lo + 256 * hi = lo + hi * 2 ^ 8 by omega, ← h]
  congr 1
set_option maxHeartbeats 400000 in
theorem pread_empty (w : World) :
    Calls Try.prog 15 #[.string ⟨#[]⟩] w fun e w' => e = .returned (.tuple #[noPkt, .int .i64 3]) ∧ Below w.heap.size w w' := by
  go_enter Try.func15, Try.ntmps15
  go_wp2_with fail
  refine bodyPost_ret (v := .tuple #[noPkt, .int .i64 3]) (by simp [results, Try.results15, go_sem, noPkt]) rfl ⟨rfl, ?_⟩
  go_grown
set_option maxHeartbeats 400000 in
theorem pread_unknown (s : ByteArray) (h0 : 0 < s.size) (hs : s.size ≤ maxLen) (b k q : Nat) (tk dt : Bool) (H : HeadF s h0 b k q false tk dt) (hqk : q + k = 15) (w : World) :
    Calls Try.prog 15 #[.string s] w fun e w' => e = .returned (.tuple #[noPkt, .int .i64 4]) ∧ Below w.heap.size w w' := by
  obtain ⟨he, hlt, hk16, hq16, q1, q2, q3, hn, h0', hK, hT, hD⟩ := H
  have HK := Lib.hid hK
  have HT := Lib.hid hT
  have HD := Lib.hid hD
  clear hK hT hD
  unfold maxLen at hs
  rw [show 15 - q = k by omega] at q3
  clear hqk
  go_enter Try.func15, Try.ntmps15
  go_wp2_with (first | (go_at_call 53; with_reducible refine (HK.out _).mono ?_; rintro r w2 ⟨rfl, rfl⟩) | (go_at_call 54; with_reducible refine (HT.out _).mono ?_; rintro r w2 ⟨rfl, rfl⟩) | (go_at_call 55; with_reducible refine (HD.out _).mono ?_; rintro r w2 ⟨rfl, rfl⟩) )
  refine bodyPost_ret (v := .tuple #[noPkt, .int .i64 4]) (by simp [results, Try.results15, go_sem, noPkt]) rfl ⟨rfl, ?_⟩
  go_grown
set_option maxHeartbeats 400000 in
theorem pread_odd (s : ByteArray) (h0 : 0 < s.size) (hs : s.size ≤ maxLen) (b k q : Nat) (kn tk dt : Bool) (H : HeadF s h0 b k q kn tk dt) (hqk : q + k ≠ 15) (w : World) :
    Calls Try.prog 15 #[.string s] w fun e w' => e = .returned (.tuple #[noPkt, .int .i64 4]) ∧ Below w.heap.size w w' := by
  obtain ⟨he, hlt, hk16, hq16, q1, q2, q3, hn, h0', hK, hT, hD⟩ := H
  have HK := Lib.hid hK
  have HT := Lib.hid hT
  have HD := Lib.hid hD
  clear hK hT hD
  unfold maxLen at hs
  have hne : (((15 - q : Nat) : Int) != (k : Int)) = true := by simp; omega
  clear hqk
  go_enter Try.func15, Try.ntmps15
  go_wp2_with (first | (go_at_call 53; with_reducible refine (HK.out _).mono ?_; rintro r w2 ⟨rfl, rfl⟩) | (go_at_call 54; with_reducible refine (HT.out _).mono ?_; rintro r w2 ⟨rfl, rfl⟩) | (go_at_call 55; with_reducible refine (HD.out _).mono ?_; rintro r w2 ⟨rfl, rfl⟩) )
  refine bodyPost_ret (v := .tuple #[noPkt, .int .i64 4]) (by simp [results, Try.results15, go_sem, noPkt]) rfl ⟨rfl, ?_⟩
  go_grown
set_option maxHeartbeats 400000 in
theorem pread_bare_long (s : ByteArray) (h0 : 0 < s.size) (hs : s.size ≤ maxLen) (b k q : Nat) (H : HeadF s h0 b k q true false false) (hqk : q + k = 15) (h5 : ((k : Int) == 5) = false) (hl : 1 < s.size) (w : World) :
    Calls Try.prog 15 #[.string s] w fun e w' => e = .returned (.tuple #[noPkt, .int .i64 4]) ∧ Below w.heap.size w w' := by
  obtain ⟨he, hlt, hk16, hq16, q1, q2, q3, hn, h0', hK, hT, hD⟩ := H
  have HK := Lib.hid hK
  have HT := Lib.hid hT
  have HD := Lib.hid hD
  clear hK hT hD
  unfold maxLen at hs
  rw [show 15 - q = k by omega] at q3
  clear hqk
  have hl' : (1 : Int) < s.size := by omega
  have hl2 : (1 : Int) ≤ s.size := by omega
  go_enter Try.func15, Try.ntmps15
  go_wp2_with (first | (go_at_call 53; with_reducible refine (HK.out _).mono ?_; rintro r w2 ⟨rfl, rfl⟩) | (go_at_call 54; with_reducible refine (HT.out _).mono ?_; rintro r w2 ⟨rfl, rfl⟩) | (go_at_call 55; with_reducible refine (HD.out _).mono ?_; rintro r w2 ⟨rfl, rfl⟩) )
  refine bodyPost_ret (v := .tuple #[noPkt, .int .i64 4]) (by simp [results, Try.results15, go_sem, noPkt]) rfl ⟨rfl, ?_⟩
  go_grown
set_option maxHeartbeats 400000 in
theorem pread_bare (s : ByteArray) (h0 : 0 < s.size) (hs : s.size ≤ maxLen) (b k q : Nat) (H : HeadF s h0 b k q true false false) (hqk : q + k = 15) (h5 : ((k : Int) == 5) = false) (hl : s.size = 1) (w : World) :
    Calls Try.prog 15 #[.string s] w fun e w' => e = .returned (.tuple #[.agg #[.int .i64 k, .int .i64 0, .int .i64 0, .int .i64 0, .string ⟨#[]⟩], .int .i64 0]) ∧ Below w.heap.size w w' := by
  obtain ⟨he, hlt, hk16, hq16, q1, q2, q3, hn, h0', hK, hT, hD⟩ := H
  have HK := Lib.hid hK
  have HT := Lib.hid hT
  have HD := Lib.hid hD
  clear hK hT hD
  unfold maxLen at hs
  rw [show 15 - q = k by omega] at q3
  clear hqk
  have hl2 : (1 : Int) ≤ s.size := by omega
  go_enter Try.func15, Try.ntmps15
  go_wp2_with (first | (go_at_call 53; with_reducible refine (HK.out _).mono ?_; rintro r w2 ⟨rfl, rfl⟩) | (go_at_call 54; with_reducible refine (HT.out _).mono ?_; rintro r w2 ⟨rfl, rfl⟩) | (go_at_call 55; with_reducible refine (HD.out _).mono ?_; rintro r w2 ⟨rfl, rfl⟩) )
  refine bodyPost_ret (v := .tuple #[.agg #[.int .i64 k, .int .i64 0, .int .i64 0, .int .i64 0, .string ⟨#[]⟩], .int .i64 0]) (by simp [results, Try.results15, go_sem, noPkt]) rfl ⟨rfl, ?_⟩
  go_grown
set_option maxHeartbeats 400000 in
theorem pread_tok_short (s : ByteArray) (h0 : 0 < s.size) (hs : s.size ≤ maxLen) (b k q : Nat) (H : HeadF s h0 b k q true true false) (hqk : q + k = 15) (hl : s.size < 3) (w : World) :
    Calls Try.prog 15 #[.string s] w fun e w' => e = .returned (.tuple #[noPkt, .int .i64 3]) ∧ Below w.heap.size w w' := by
  obtain ⟨he, hlt, hk16, hq16, q1, q2, q3, hn, h0', hK, hT, hD⟩ := H
  have HK := Lib.hid hK
  have HT := Lib.hid hT
  have HD := Lib.hid hD
  clear hK hT hD
  unfold maxLen at hs
  rw [show 15 - q = k by omega] at q3
  clear hqk
  have hl2 : (1 : Int) ≤ s.size := by omega
  have hl3 : (s.size : Int) - 1 < 2 := by omega
  go_enter Try.func15, Try.ntmps15
  go_wp2_with (first | (go_at_call 53; with_reducible refine (HK.out _).mono ?_; rintro r w2 ⟨rfl, rfl⟩) | (go_at_call 54; with_reducible refine (HT.out _).mono ?_; rintro r w2 ⟨rfl, rfl⟩) | (go_at_call 55; with_reducible refine (HD.out _).mono ?_; rintro r w2 ⟨rfl, rfl⟩) )
  refine bodyPost_ret (v := .tuple #[noPkt, .int .i64 3]) (by simp [results, Try.results15, go_sem, noPkt]) rfl ⟨rfl, ?_⟩
  go_grown
set_option maxHeartbeats 400000 in
theorem pread_sof_short (s : ByteArray) (h0 : 0 < s.size) (hs : s.size ≤ maxLen) (b k q : Nat) (H : HeadF s h0 b k q true false false) (hqk : q + k = 15) (hl : s.size < 3) (h5 : ((k : Int) == 5) = true) (w : World) :
    Calls Try.prog 15 #[.string s] w fun e w' => e = .returned (.tuple #[noPkt, .int .i64 3]) ∧ Below w.heap.size w w' := by
  obtain ⟨he, hlt, hk16, hq16, q1, q2, q3, hn, h0', hK, hT, hD⟩ := H
  have HK := Lib.hid hK
  have HT := Lib.hid hT
  have HD := Lib.hid hD
  clear hK hT hD
  unfold maxLen at hs
  rw [show 15 - q = k by omega] at q3
  clear hqk
  have hl2 : (1 : Int) ≤ s.size := by omega
  have hl3 : (s.size : Int) - 1 < 2 := by omega
  go_enter Try.func15, Try.ntmps15
  go_wp2_with (first | (go_at_call 53; with_reducible refine (HK.out _).mono ?_; rintro r w2 ⟨rfl, rfl⟩) | (go_at_call 54; with_reducible refine (HT.out _).mono ?_; rintro r w2 ⟨rfl, rfl⟩) | (go_at_call 55; with_reducible refine (HD.out _).mono ?_; rintro r w2 ⟨rfl, rfl⟩) )
  refine bodyPost_ret (v := .tuple #[noPkt, .int .i64 3]) (by simp [results, Try.results15, go_sem, noPkt]) rfl ⟨rfl, ?_⟩
  go_grown
set_option maxHeartbeats 400000 in
theorem pread_dat_short (s : ByteArray) (h0 : 0 < s.size) (hs : s.size ≤ maxLen) (b k q : Nat) (H : HeadF s h0 b k q true false true) (hqk : q + k = 15) (hl : s.size < 3) (h5 : ((k : Int) == 5) = false) (w : World) :
    Calls Try.prog 15 #[.string s] w fun e w' => e = .returned (.tuple #[noPkt, .int .i64 3]) ∧ Below w.heap.size w w' := by
  obtain ⟨he, hlt, hk16, hq16, q1, q2, q3, hn, h0', hK, hT, hD⟩ := H
  have HK := Lib.hid hK
  have HT := Lib.hid hT
  have HD := Lib.hid hD
  clear hK hT hD
  unfold maxLen at hs
  rw [show 15 - q = k by omega] at q3
  clear hqk
  have hl2 : (1 : Int) ≤ s.size := by omega
  have hl3 : (s.size : Int) - 1 < 2 := by omega
  go_enter Try.func15, Try.ntmps15
  go_wp2_with (first | (go_at_call 53; with_reducible refine (HK.out _).mono ?_; rintro r w2 ⟨rfl, rfl⟩) | (go_at_call 54; with_reducible refine (HT.out _).mono ?_; rintro r w2 ⟨rfl, rfl⟩) | (go_at_call 55; with_reducible refine (HD.out _).mono ?_; rintro r w2 ⟨rfl, rfl⟩) )
  refine bodyPost_ret (v := .tuple #[noPkt, .int .i64 3]) (by simp [results, Try.results15, go_sem, noPkt]) rfl ⟨rfl, ?_⟩
  go_grown
set_option maxHeartbeats 400000 in
theorem pread_tok_long (s : ByteArray) (h0 : 0 < s.size) (hs : s.size ≤ maxLen) (b k q : Nat) (H : HeadF s h0 b k q true true false) (hqk : q + k = 15) (hl : 3 < s.size) (w : World) :
    Calls Try.prog 15 #[.string s] w fun e w' => e = .returned (.tuple #[noPkt, .int .i64 4]) ∧ Below w.heap.size w w' := by
  obtain ⟨he, hlt, hk16, hq16, q1, q2, q3, hn, h0', hK, hT, hD⟩ := H
  have HK := Lib.hid hK
  have HT := Lib.hid hT
  have HD := Lib.hid hD
  clear hK hT hD
  unfold maxLen at hs
  rw [show 15 - q = k by omega] at q3
  clear hqk
  have hl2 : (1 : Int) ≤ s.size := by omega
  have hl3 : ¬ (s.size : Int) - 1 < 2 := by omega
  have hl4 : (2 : Int) < (s.size : Int) - 1 := by omega
  go_enter Try.func15, Try.ntmps15
  go_wp2_with (first | (go_at_call 53; with_reducible refine (HK.out _).mono ?_; rintro r w2 ⟨rfl, rfl⟩) | (go_at_call 54; with_reducible refine (HT.out _).mono ?_; rintro r w2 ⟨rfl, rfl⟩) | (go_at_call 55; with_reducible refine (HD.out _).mono ?_; rintro r w2 ⟨rfl, rfl⟩) )
  refine bodyPost_ret (v := .tuple #[noPkt, .int .i64 4]) (by simp [results, Try.results15, go_sem, noPkt]) rfl ⟨rfl, ?_⟩
  go_grown
set_option maxHeartbeats 400000 in
theorem pread_sof_long (s : ByteArray) (h0 : 0 < s.size) (hs : s.size ≤ maxLen) (b k q : Nat) (H : HeadF s h0 b k q true false false) (hqk : q + k = 15) (hl : 3 < s.size) (h5 : ((k : Int) == 5) = true) (w : World) :
    Calls Try.prog 15 #[.string s] w fun e w' => e = .returned (.tuple #[noPkt, .int .i64 4]) ∧ Below w.heap.size w w' := by
  obtain ⟨he, hlt, hk16, hq16, q1, q2, q3, hn, h0', hK, hT, hD⟩ := H
  have HK := Lib.hid hK
  have HT := Lib.hid hT
  have HD := Lib.hid hD
  clear hK hT hD
  unfold maxLen at hs
  rw [show 15 - q = k by omega] at q3
  clear hqk
  have hl2 : (1 : Int) ≤ s.size := by omega
  have hl3 : ¬ (s.size : Int) - 1 < 2 := by omega
  have hl4 : (2 : Int) < (s.size : Int) - 1 := by omega
  go_enter Try.func15, Try.ntmps15
  go_wp2_with (first | (go_at_call 53; with_reducible refine (HK.out _).mono ?_; rintro r w2 ⟨rfl, rfl⟩) | (go_at_call 54; with_reducible refine (HT.out _).mono ?_; rintro r w2 ⟨rfl, rfl⟩) | (go_at_call 55; with_reducible refine (HD.out _).mono ?_; rintro r w2 ⟨rfl, rfl⟩) )
  refine bodyPost_ret (v := .tuple #[noPkt, .int .i64 4]) (by simp [results, Try.results15, go_sem, noPkt]) rfl ⟨rfl, ?_⟩
  go_grown
set_option maxHeartbeats 400000 in
theorem pread_dat_long (s : ByteArray) (h0 : 0 < s.size) (hs : s.size ≤ maxLen) (b k q : Nat) (H : HeadF s h0 b k q true false true) (hqk : q + k = 15) (hl : 67 < s.size) (h5 : ((k : Int) == 5) = false) (w : World) :
    Calls Try.prog 15 #[.string s] w fun e w' => e = .returned (.tuple #[noPkt, .int .i64 4]) ∧ Below w.heap.size w w' := by
  obtain ⟨he, hlt, hk16, hq16, q1, q2, q3, hn, h0', hK, hT, hD⟩ := H
  have HK := Lib.hid hK
  have HT := Lib.hid hT
  have HD := Lib.hid hD
  clear hK hT hD
  unfold maxLen at hs
  rw [show 15 - q = k by omega] at q3
  clear hqk
  have hl2 : (1 : Int) ≤ s.size := by omega
  have hl3 : ¬ (s.size : Int) - 1 < 2 := by omega
  have hl4 : (66 : Int) < (s.size : Int) - 1 := by omega
  go_enter Try.func15, Try.ntmps15
  go_wp2_with (first | (go_at_call 53; with_reducible refine (HK.out _).mono ?_; rintro r w2 ⟨rfl, rfl⟩) | (go_at_call 54; with_reducible refine (HT.out _).mono ?_; rintro r w2 ⟨rfl, rfl⟩) | (go_at_call 55; with_reducible refine (HD.out _).mono ?_; rintro r w2 ⟨rfl, rfl⟩) )
  refine bodyPost_ret (v := .tuple #[noPkt, .int .i64 4]) (by simp [results, Try.results15, go_sem, noPkt]) rfl ⟨rfl, ?_⟩
  go_grown
set_option maxHeartbeats 1000000 in
theorem pread_tok_ok (s : ByteArray) (h0 : 0 < s.size) (b k q : Nat) (H : HeadF s h0 b k q true true false) (hqk : q + k = 15) (t : ByteArray) (ht : s.extract 1 s.size = t) (m : Nat) (hts : t.size = m + 2) (hm : m ≤ 64) (lo hi n : Nat) (hlo : t[m].toNat = lo) (hhi : t[m + 1].toNat = hi) (hnn : lo + 256 * hi = n) (hm0 : m = 0) (f : Nat) (hf : f < 32) (fe : Int) (h5v : ∀ w, Calls Try.prog 57 #[.int .u16 ((n : Int) % 2048)] w fun e w' => e = .returned (.tuple #[.int .u8 f, .int .i64 fe]) ∧ w = w') (h5 : ((k : Int) == 5) = false) (hc : (((n : Int) / 2048) != (f : Int)) = false) (w : World) :
    Calls Try.prog 15 #[.string s] w fun e w' => e = .returned (.tuple #[.agg #[.int .i64 k, .int .i64 ((n : Int) % 128), .int .i64 ((n : Int) / 128 % 16), .int .i64 0, .string ⟨#[]⟩], .int .i64 0]) ∧ Below w.heap.size w w' := by
  obtain ⟨he, hlt, hk16, hq16, q1, q2, q3, hn, h0', hK, hT, hD⟩ := H
  have HK := Lib.hid hK
  have HT := Lib.hid hT
  have HD := Lib.hid hD
  have hlo256 : lo < 256 := by rw [← hlo]; exact t[m].toNat_lt
  have hhi256 : hi < 256 := by rw [← hhi]; exact t[m + 1].toNat_lt
  have hor := or256 lo hi hlo256 hhi256
  rw [hnn] at hor
  have hnlt : n < 65536 := by omega
  have hl2 : (1 : Int) ≤ s.size := by omega
  have hts' : (t.size : Int) = (m : Int) + 2 := by omega
  rw [show 15 - q = k by omega] at q3
  clear hqk hK hT hD hnn
  have HF := Lib.hid h5v
  have hA := and2047 n hnlt
  have hB := and127 n hnlt
  have hC := and15 n hnlt
  clear h5v
  subst hm0
  go_enter Try.func15, Try.ntmps15
  go_wp2_with (first | (go_at_call 53; with_reducible refine (HK.out _).mono ?_; rintro r w2 ⟨rfl, rfl⟩) | (go_at_call 54; with_reducible refine (HT.out _).mono ?_; rintro r w2 ⟨rfl, rfl⟩) | (go_at_call 55; with_reducible refine (HD.out _).mono ?_; rintro r w2 ⟨rfl, rfl⟩) )
  go_quiet (fail)
  clear hor
  go_wp2_with (first | (go_at_call 57; with_reducible refine (HF.out _).mono ?_; rintro r w2 ⟨rfl, rfl⟩) | (go_at_call 55; with_reducible refine (HD.out _).mono ?_; rintro r w2 ⟨rfl, rfl⟩))
  refine bodyPost_ret (v := .tuple #[.agg #[.int .i64 k, .int .i64 ((n : Int) % 128), .int .i64 ((n : Int) / 128 % 16), .int .i64 0, .string ⟨#[]⟩], .int .i64 0]) (by simp [results, Try.results15, go_sem, noPkt]) rfl ⟨rfl, ?_⟩
  have hbq := below_drewN (((w.alloc (.cells #[.int .i64 0, .int .i64 0, .int .i64 0, .int .i64 0, .string ⟨#[]⟩] 23)).alloc (.cells #[.int .i64 k, .int .i64 0, .int .i64 0, .int .i64 0, .string ⟨#[]⟩] 23))) nq w.heap.size
  have hbz : Below w.heap.size w ((((w.alloc (.cells #[.int .i64 0, .int .i64 0, .int .i64 0, .int .i64 0, .string ⟨#[]⟩] 23)).alloc (.cells #[.int .i64 k, .int .i64 0, .int .i64 0, .int .i64 0, .string ⟨#[]⟩] 23))).drewN nq) := Below.trans (by go_grown) hbq
  go_grown
set_option maxHeartbeats 1000000 in
theorem pread_tok_no (s : ByteArray) (h0 : 0 < s.size) (b k q : Nat) (H : HeadF s h0 b k q true true false) (hqk : q + k = 15) (t : ByteArray) (ht : s.extract 1 s.size = t) (m : Nat) (hts : t.size = m + 2) (hm : m ≤ 64) (lo hi n : Nat) (hlo : t[m].toNat = lo) (hhi : t[m + 1].toNat = hi) (hnn : lo + 256 * hi = n) (hm0 : m = 0) (f : Nat) (hf : f < 32) (fe : Int) (h5v : ∀ w, Calls Try.prog 57 #[.int .u16 ((n : Int) % 2048)] w fun e w' => e = .returned (.tuple #[.int .u8 f, .int .i64 fe]) ∧ w = w') (hc : (((n : Int) / 2048) != (f : Int)) = true) (w : World) :
    Calls Try.prog 15 #[.string s] w fun e w' => e = .returned (.tuple #[noPkt, .int .i64 5]) ∧ Below w.heap.size w w' := by
  obtain ⟨he, hlt, hk16, hq16, q1, q2, q3, hn, h0', hK, hT, hD⟩ := H
  have HK := Lib.hid hK
  have HT := Lib.hid hT
  have HD := Lib.hid hD
  have hlo256 : lo < 256 := by rw [← hlo]; exact t[m].toNat_lt
  have hhi256 : hi < 256 := by rw [← hhi]; exact t[m + 1].toNat_lt
  have hor := or256 lo hi hlo256 hhi256
  rw [hnn] at hor
  have hnlt : n < 65536 := by omega
  have hl2 : (1 : Int) ≤ s.size := by omega
  have hts' : (t.size : Int) = (m : Int) + 2 := by omega
  rw [show 15 - q = k by omega] at q3
  clear hqk hK hT hD hnn
  have HF := Lib.hid h5v
  have hA := and2047 n hnlt
  have hB := and127 n hnlt
  have hC := and15 n hnlt
  clear h5v
  subst hm0
  go_enter Try.func15, Try.ntmps15
  go_wp2_with (first | (go_at_call 53; with_reducible refine (HK.out _).mono ?_; rintro r w2 ⟨rfl, rfl⟩) | (go_at_call 54; with_reducible refine (HT.out _).mono ?_; rintro r w2 ⟨rfl, rfl⟩) | (go_at_call 55; with_reducible refine (HD.out _).mono ?_; rintro r w2 ⟨rfl, rfl⟩) )
  go_quiet (fail)
  clear hor
  go_wp2_with (first | (go_at_call 57; with_reducible refine (HF.out _).mono ?_; rintro r w2 ⟨rfl, rfl⟩) | (go_at_call 55; with_reducible refine (HD.out _).mono ?_; rintro r w2 ⟨rfl, rfl⟩))
  refine bodyPost_ret (v := .tuple #[noPkt, .int .i64 5]) (by simp [results, Try.results15, go_sem, noPkt]) rfl ⟨rfl, ?_⟩
  have hbq := below_drewN (((w.alloc (.cells #[.int .i64 0, .int .i64 0, .int .i64 0, .int .i64 0, .string ⟨#[]⟩] 23)).alloc (.cells #[.int .i64 k, .int .i64 0, .int .i64 0, .int .i64 0, .string ⟨#[]⟩] 23))) nq w.heap.size
  have hbz : Below w.heap.size w ((((w.alloc (.cells #[.int .i64 0, .int .i64 0, .int .i64 0, .int .i64 0, .string ⟨#[]⟩] 23)).alloc (.cells #[.int .i64 k, .int .i64 0, .int .i64 0, .int .i64 0, .string ⟨#[]⟩] 23))).drewN nq) := Below.trans (by go_grown) hbq
  go_grown
set_option maxHeartbeats 1000000 in
theorem pread_sof_ok (s : ByteArray) (h0 : 0 < s.size) (b k q : Nat) (H : HeadF s h0 b k q true false false) (hqk : q + k = 15) (t : ByteArray) (ht : s.extract 1 s.size = t) (m : Nat) (hts : t.size = m + 2) (hm : m ≤ 64) (lo hi n : Nat) (hlo : t[m].toNat = lo) (hhi : t[m + 1].toNat = hi) (hnn : lo + 256 * hi = n) (hm0 : m = 0) (f : Nat) (hf : f < 32) (fe : Int) (h5v : ∀ w, Calls Try.prog 57 #[.int .u16 ((n : Int) % 2048)] w fun e w' => e = .returned (.tuple #[.int .u8 f, .int .i64 fe]) ∧ w = w') (h5 : ((k : Int) == 5) = true) (hc : (((n : Int) / 2048) != (f : Int)) = false) (w : World) :
    Calls Try.prog 15 #[.string s] w fun e w' => e = .returned (.tuple #[.agg #[.int .i64 k, .int .i64 0, .int .i64 0, .int .i64 ((n : Int) % 2048), .string ⟨#[]⟩], .int .i64 0]) ∧ Below w.heap.size w w' := by
  obtain ⟨he, hlt, hk16, hq16, q1, q2, q3, hn, h0', hK, hT, hD⟩ := H
  have HK := Lib.hid hK
  have HT := Lib.hid hT
  have HD := Lib.hid hD
  have hlo256 : lo < 256 := by rw [← hlo]; exact t[m].toNat_lt
  have hhi256 : hi < 256 := by rw [← hhi]; exact t[m + 1].toNat_lt
  have hor := or256 lo hi hlo256 hhi256
  rw [hnn] at hor
  have hnlt : n < 65536 := by omega
  have hl2 : (1 : Int) ≤ s.size := by omega
  have hts' : (t.size : Int) = (m : Int) + 2 := by omega
  rw [show 15 - q = k by omega] at q3
  clear hqk hK hT hD hnn
  have HF := Lib.hid h5v
  have hA := and2047 n hnlt
  have hB := and127 n hnlt
  have hC := and15 n hnlt
  clear h5v
  subst hm0
  go_enter Try.func15, Try.ntmps15
  go_wp2_with (first | (go_at_call 53; with_reducible refine (HK.out _).mono ?_; rintro r w2 ⟨rfl, rfl⟩) | (go_at_call 54; with_reducible refine (HT.out _).mono ?_; rintro r w2 ⟨rfl, rfl⟩) | (go_at_call 55; with_reducible refine (HD.out _).mono ?_; rintro r w2 ⟨rfl, rfl⟩) )
  go_quiet (fail)
  clear hor
  go_wp2_with (first | (go_at_call 57; with_reducible refine (HF.out _).mono ?_; rintro r w2 ⟨rfl, rfl⟩) | (go_at_call 55; with_reducible refine (HD.out _).mono ?_; rintro r w2 ⟨rfl, rfl⟩))
  refine bodyPost_ret (v := .tuple #[.agg #[.int .i64 k, .int .i64 0, .int .i64 0, .int .i64 ((n : Int) % 2048), .string ⟨#[]⟩], .int .i64 0]) (by simp [results, Try.results15, go_sem, noPkt]) rfl ⟨rfl, ?_⟩
  have hbq := below_drewN (((w.alloc (.cells #[.int .i64 0, .int .i64 0, .int .i64 0, .int .i64 0, .string ⟨#[]⟩] 23)).alloc (.cells #[.int .i64 k, .int .i64 0, .int .i64 0, .int .i64 0, .string ⟨#[]⟩] 23))) nq w.heap.size
  have hbz : Below w.heap.size w ((((w.alloc (.cells #[.int .i64 0, .int .i64 0, .int .i64 0, .int .i64 0, .string ⟨#[]⟩] 23)).alloc (.cells #[.int .i64 k, .int .i64 0, .int .i64 0, .int .i64 0, .string ⟨#[]⟩] 23))).drewN nq) := Below.trans (by go_grown) hbq
  go_grown
set_option maxHeartbeats 1000000 in
theorem pread_sof_no (s : ByteArray) (h0 : 0 < s.size) (b k q : Nat) (H : HeadF s h0 b k q true false false) (hqk : q + k = 15) (t : ByteArray) (ht : s.extract 1 s.size = t) (m : Nat) (hts : t.size = m + 2) (hm : m ≤ 64) (lo hi n : Nat) (hlo : t[m].toNat = lo) (hhi : t[m + 1].toNat = hi) (hnn : lo + 256 * hi = n) (hm0 : m = 0) (f : Nat) (hf : f < 32) (fe : Int) (h5v : ∀ w, Calls Try.prog 57 #[.int .u16 ((n : Int) % 2048)] w fun e w' => e = .returned (.tuple #[.int .u8 f, .int .i64 fe]) ∧ w = w') (h5 : ((k : Int) == 5) = true) (hc : (((n : Int) / 2048) != (f : Int)) = true) (w : World) :
    Calls Try.prog 15 #[.string s] w fun e w' => e = .returned (.tuple #[noPkt, .int .i64 5]) ∧ Below w.heap.size w w' := by
  obtain ⟨he, hlt, hk16, hq16, q1, q2, q3, hn, h0', hK, hT, hD⟩ := H
  have HK := Lib.hid hK
  have HT := Lib.hid hT
  have HD := Lib.hid hD
  have hlo256 : lo < 256 := by rw [← hlo]; exact t[m].toNat_lt
  have hhi256 : hi < 256 := by rw [← hhi]; exact t[m + 1].toNat_lt
  have hor := or256 lo hi hlo256 hhi256
  rw [hnn] at hor
  have hnlt : n < 65536 := by omega
  have hl2 : (1 : Int) ≤ s.size := by omega
  have hts' : (t.size : Int) = (m : Int) + 2 := by omega
  rw [show 15 - q = k by omega] at q3
  clear hqk hK hT hD hnn
  have HF := Lib.hid h5v
  have hA := and2047 n hnlt
  have hB := and127 n hnlt
  have hC := and15 n hnlt
  clear h5v
  subst hm0
  go_enter Try.func15, Try.ntmps15
  go_wp2_with (first | (go_at_call 53; with_reducible refine (HK.out _).mono ?_; rintro r w2 ⟨rfl, rfl⟩) | (go_at_call 54; with_reducible refine (HT.out _).mono ?_; rintro r w2 ⟨rfl, rfl⟩) | (go_at_call 55; with_reducible refine (HD.out _).mono ?_; rintro r w2 ⟨rfl, rfl⟩) )
  go_quiet (fail)
  clear hor
  go_wp2_with (first | (go_at_call 57; with_reducible refine (HF.out _).mono ?_; rintro r w2 ⟨rfl, rfl⟩) | (go_at_call 55; with_reducible refine (HD.out _).mono ?_; rintro r w2 ⟨rfl, rfl⟩))
  refine bodyPost_ret (v := .tuple #[noPkt, .int .i64 5]) (by simp [results, Try.results15, go_sem, noPkt]) rfl ⟨rfl, ?_⟩
  have hbq := below_drewN (((w.alloc (.cells #[.int .i64 0, .int .i64 0, .int .i64 0, .int .i64 0, .string ⟨#[]⟩] 23)).alloc (.cells #[.int .i64 k, .int .i64 0, .int .i64 0, .int .i64 0, .string ⟨#[]⟩] 23))) nq w.heap.size
  have hbz : Below w.heap.size w ((((w.alloc (.cells #[.int .i64 0, .int .i64 0, .int .i64 0, .int .i64 0, .string ⟨#[]⟩] 23)).alloc (.cells #[.int .i64 k, .int .i64 0, .int .i64 0, .int .i64 0, .string ⟨#[]⟩] 23))).drewN nq) := Below.trans (by go_grown) hbq
  go_grown
set_option maxHeartbeats 1000000 in
theorem pread_dat_ok (s : ByteArray) (h0 : 0 < s.size) (b k q : Nat) (H : HeadF s h0 b k q true false true) (hqk : q + k = 15) (t : ByteArray) (ht : s.extract 1 s.size = t) (m : Nat) (hts : t.size = m + 2) (hm : m ≤ 64) (lo hi n : Nat) (hlo : t[m].toNat = lo) (hhi : t[m + 1].toNat = hi) (hnn : lo + 256 * hi = n) (h5 : ((k : Int) == 5) = false) (d : ByteArray) (hd : t.extract 0 m = d) (c : Nat) (hs6 : ∀ w, Calls Try.prog 56 #[.string d] w fun e w' => e = .returned (.int .u16 c) ∧ w = w') (hc : ((n : Int) != (c : Int)) = false) (w : World) :
    Calls Try.prog 15 #[.string s] w fun e w' => e = .returned (.tuple #[.agg #[.int .i64 k, .int .i64 0, .int .i64 0, .int .i64 0, .string d], .int .i64 0]) ∧ Below w.heap.size w w' := by
  obtain ⟨he, hlt, hk16, hq16, q1, q2, q3, hn, h0', hK, hT, hD⟩ := H
  have HK := Lib.hid hK
  have HT := Lib.hid hT
  have HD := Lib.hid hD
  have hlo256 : lo < 256 := by rw [← hlo]; exact t[m].toNat_lt
  have hhi256 : hi < 256 := by rw [← hhi]; exact t[m + 1].toNat_lt
  have hor := or256 lo hi hlo256 hhi256
  rw [hnn] at hor
  have hnlt : n < 65536 := by omega
  have hl2 : (1 : Int) ≤ s.size := by omega
  have hts' : (t.size : Int) = (m : Int) + 2 := by omega
  rw [show 15 - q = k by omega] at q3
  clear hqk hK hT hD hnn
  have H6 := Lib.hid hs6
  clear hs6
  go_enter Try.func15, Try.ntmps15
  go_wp2_with (first | (go_at_call 53; with_reducible refine (HK.out _).mono ?_; rintro r w2 ⟨rfl, rfl⟩) | (go_at_call 54; with_reducible refine (HT.out _).mono ?_; rintro r w2 ⟨rfl, rfl⟩) | (go_at_call 55; with_reducible refine (HD.out _).mono ?_; rintro r w2 ⟨rfl, rfl⟩) )
  go_quiet (fail)
  clear hor
  go_wp2_with (first | (go_at_call 56; with_reducible refine (H6.out _).mono ?_; rintro r w2 ⟨rfl, rfl⟩) | (go_at_call 55; with_reducible refine (HD.out _).mono ?_; rintro r w2 ⟨rfl, rfl⟩))
  refine bodyPost_ret (v := .tuple #[.agg #[.int .i64 k, .int .i64 0, .int .i64 0, .int .i64 0, .string d], .int .i64 0]) (by simp [results, Try.results15, go_sem, noPkt]) rfl ⟨rfl, ?_⟩
  have hbq := below_drewN (((w.alloc (.cells #[.int .i64 0, .int .i64 0, .int .i64 0, .int .i64 0, .string ⟨#[]⟩] 23)).alloc (.cells #[.int .i64 k, .int .i64 0, .int .i64 0, .int .i64 0, .string ⟨#[]⟩] 23))) nq w.heap.size
  have hbz : Below w.heap.size w ((((w.alloc (.cells #[.int .i64 0, .int .i64 0, .int .i64 0, .int .i64 0, .string ⟨#[]⟩] 23)).alloc (.cells #[.int .i64 k, .int .i64 0, .int .i64 0, .int .i64 0, .string ⟨#[]⟩] 23))).drewN nq) := Below.trans (by go_grown) hbq
  go_grown
set_option maxHeartbeats 1000000 in
theorem pread_dat_no (s : ByteArray) (h0 : 0 < s.size) (b k q : Nat) (H : HeadF s h0 b k q true false true) (hqk : q + k = 15) (t : ByteArray) (ht : s.extract 1 s.size = t) (m : Nat) (hts : t.size = m + 2) (hm : m ≤ 64) (lo hi n : Nat) (hlo : t[m].toNat = lo) (hhi : t[m + 1].toNat = hi) (hnn : lo + 256 * hi = n) (h5 : ((k : Int) == 5) = false) (d : ByteArray) (hd : t.extract 0 m = d) (c : Nat) (hs6 : ∀ w, Calls Try.prog 56 #[.string d] w fun e w' => e = .returned (.int .u16 c) ∧ w = w') (hc : ((n : Int) != (c : Int)) = true) (w : World) :
    Calls Try.prog 15 #[.string s] w fun e w' => e = .returned (.tuple #[noPkt, .int .i64 5]) ∧ Below w.heap.size w w' := by
  obtain ⟨he, hlt, hk16, hq16, q1, q2, q3, hn, h0', hK, hT, hD⟩ := H
  have HK := Lib.hid hK
  have HT := Lib.hid hT
  have HD := Lib.hid hD
  have hlo256 : lo < 256 := by rw [← hlo]; exact t[m].toNat_lt
  have hhi256 : hi < 256 := by rw [← hhi]; exact t[m + 1].toNat_lt
  have hor := or256 lo hi hlo256 hhi256
  rw [hnn] at hor
  have hnlt : n < 65536 := by omega
  have hl2 : (1 : Int) ≤ s.size := by omega
  have hts' : (t.size : Int) = (m : Int) + 2 := by omega
  rw [show 15 - q = k by omega] at q3
  clear hqk hK hT hD hnn
  have H6 := Lib.hid hs6
  clear hs6
  go_enter Try.func15, Try.ntmps15
  go_wp2_with (first | (go_at_call 53; with_reducible refine (HK.out _).mono ?_; rintro r w2 ⟨rfl, rfl⟩) | (go_at_call 54; with_reducible refine (HT.out _).mono ?_; rintro r w2 ⟨rfl, rfl⟩) | (go_at_call 55; with_reducible refine (HD.out _).mono ?_; rintro r w2 ⟨rfl, rfl⟩) )
  go_quiet (fail)
  clear hor
  go_wp2_with (first | (go_at_call 56; with_reducible refine (H6.out _).mono ?_; rintro r w2 ⟨rfl, rfl⟩) | (go_at_call 55; with_reducible refine (HD.out _).mono ?_; rintro r w2 ⟨rfl, rfl⟩))
  refine bodyPost_ret (v := .tuple #[noPkt, .int .i64 5]) (by simp [results, Try.results15, go_sem, noPkt]) rfl ⟨rfl, ?_⟩
  have hbq := below_drewN (((w.alloc (.cells #[.int .i64 0, .int .i64 0, .int .i64 0, .int .i64 0, .string ⟨#[]⟩] 23)).alloc (.cells #[.int .i64 k, .int .i64 0, .int .i64 0, .int .i64 0, .string ⟨#[]⟩] 23))) nq w.heap.size
  have hbz : Below w.heap.size w ((((w.alloc (.cells #[.int .i64 0, .int .i64 0, .int .i64 0, .int .i64 0, .string ⟨#[]⟩] 23)).alloc (.cells #[.int .i64 k, .int .i64 0, .int .i64 0, .int .i64 0, .string ⟨#[]⟩] 23))).drewN nq) := Below.trans (by go_grown) hbq
  go_grown
end Go.Proofs.Ytbeilpecdimheaa
