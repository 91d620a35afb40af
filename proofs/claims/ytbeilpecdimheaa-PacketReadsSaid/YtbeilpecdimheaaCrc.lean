/- Contracts: turnedNum, Five and More of both packages, Sixteen. -/
import Derived.Test.YtbeilpecdimheaaLeft
import Derived.Test.YtbeilpecdimheaaFeed
namespace Go.Proofs.Ytbeilpecdimheaa
open Go.RowKit
set_option linter.unusedVariables false

/-- bits, all turned, as a number, the lowest first -/
def turnedL : List Bool → Nat
  | [] => 0
  | b :: bs => (if b then 0 else 1) + 2 * turnedL bs
theorem turnedL_snoc (l : List Bool) (b : Bool) : turnedL (l ++ [b]) = turnedL l + (if b then 0 else 2 ^ l.length) := by
  induction l with
  | nil => cases b <;> simp [turnedL]
  | cons c l ih => simp only [List.cons_append, turnedL, ih, List.length_cons, Nat.pow_succ]; cases b <;> simp <;> omega
theorem turnedL_lt (l : List Bool) : turnedL l < 2 ^ l.length := by
  induction l with
  | nil => simp [turnedL]
  | cons c l ih => simp only [turnedL, List.length_cons, Nat.pow_succ]; split <;> omega

set_option maxHeartbeats 400000 in
theorem turnedNum_any (vb : Value) (bs : List Bool) (w : World) (hb : Reads w 1 vb bs.length (bs.map Value.bool)) (hl : bs.length ≤ 61) :
    Calls Try.prog 90 #[vb] w fun e w' => e = .returned (.int .i64 (turnedL bs : Nat)) ∧ w = w' := by
  obtain ⟨ab, kb, rfl, -, hb1, hb2, hb3⟩ := hb.open
  unfold maxLen at hb2
  have Hb3 := Lib.hid hb3
  clear hb3
  go_enter Try.func90, Try.ntmps90
  go_wp2
  go_loop [3, 8] (fun v i => ∃ k : Nat, k ≤ bs.length ∧ i = .int .i64 k ∧ v = .int .i64 (turnedL (bs.take k) : Nat)) (fun _ i => bs.length - (intOf i).toNat)
  case atStart => exact ⟨0, Nat.zero_le _, rfl, rfl⟩
  case round =>
    obtain ⟨k, hk, rfl, rfl⟩ := hrel
    by_cases hlt : k < bs.length
    · obtain ⟨sb, so, rfl, hsb, hsx⟩ := Hb3.out (by omega)
      have hc1 := hsx k _ (mapB_get bs k hlt)
      clear hsx
      have hstep := turnedL_snoc (bs.take k) (bs.getD k false)
      rw [← take_snocB bs k hlt, List.length_take, Nat.min_eq_left (by omega)] at hstep
      have hlt1 := turnedL_lt (bs.take k)
      rw [List.length_take, Nat.min_eq_left (by omega)] at hlt1
      have hp1 : 2 ^ k ≤ 2 ^ 60 := Nat.pow_le_pow_right (by omega) (by omega)
      have HT := fun w0 => two_any k (by omega) w0
      generalize turnedL (bs.take k) = x at hlt1 hstep ⊢
      generalize 2 ^ k = p at hp1 hlt1 hstep HT
      have hp2 : p ≤ 1152921504606846976 := by omega
      have HT := Lib.hid HT
      cases hbit : bs.getD k false with
      | true =>
        rw [hbit] at hc1 hstep
        clear hbit
        have HS := Lib.hid hstep
        clear hstep
        go_wp2_with (go_at_call 75; refine (HT.out _).mono ?_; rintro e w' ⟨rfl, rfl⟩)
        go_round
        case rel => exact ⟨k + 1, by omega, by go_num, by rw [HS.out]; simp⟩
        case measure => simp [intOf]; omega
      | false =>
        rw [hbit] at hc1 hstep
        clear hbit
        have HS := Lib.hid hstep
        clear hstep
        go_wp2_with (go_at_call 75; refine (HT.out _).mono ?_; rintro e w' ⟨rfl, rfl⟩)
        go_round
        case rel => exact ⟨k + 1, by omega, by go_num, by rw [HS.out]; simp⟩
        case measure => simp [intOf]; omega
    · obtain rfl : k = bs.length := by omega
      rw [List.take_length]
      go_wp2_with fail
      go_ret
      exact ⟨rfl, rfl⟩

def fiveC (n : Nat) : Nat := if 2047 < n then 0 else feedN 20 n 31 11 ^^^ 31
def fiveE (n : Nat) : Int := if 2047 < n then 1 else 0
theorem feed8_five (n : Nat) (hn : n < 65536) (w : World) :
    Calls Try.prog 88 #[.int .u8 31, .int .u8 20, .int .u16 n, .int .i64 11] w fun e w' => e = .returned (.int .u8 (feedN 20 n 31 11 : Nat)) ∧ w = w' := by
  have h := feed8_any 31 20 n 11 (by decide) (by decide) hn (by decide) w
  simpa only [Int.cast_ofNat_Int] using h
theorem fiveP_any (n : Nat) (hn : n < 65536) (w : World) :
    Calls Try.prog 57 #[.int .u16 n] w fun e w' => e = .returned (.tuple #[.int .u8 (fiveC n : Nat), .int .i64 (fiveE n)]) ∧ w = w' := by
  by_cases h : 2047 < n
  · have e1 : fiveC n = 0 := if_pos h
    have e2 : fiveE n = 1 := if_pos h
    rw [e1, e2]
    clear e1 e2
    go_enter Try.func57, Try.ntmps57
    go_wp2
    go_ret2
    exact ⟨ret_ii rfl rfl, rfl⟩
  · have e1 : fiveC n = feedN 20 n 31 11 ^^^ 31 := if_neg h
    have e2 : fiveE n = 0 := if_neg h
    rw [e1, e2]
    clear e1 e2
    have hx := u8_xor_nat (feedN 20 n 31 11) 31 (feedN_lt (m := 8) (by decide) (by decide) 11) (by decide)
    have HF := Lib.hid (feed8_five n hn)
    generalize feedN 20 n 31 11 = x at hx HF ⊢
    have HX := Lib.hid hx
    clear hx
    go_enter Try.func57, Try.ntmps57
    go_wp2_with (go_at_call 88; refine (HF.out _).mono ?_; rintro e w' ⟨rfl, rfl⟩)
    go_ret2
    exact ⟨ret_ii HX.out rfl, rfl⟩

def crcByte (r : Nat) (b : UInt8) : Nat := feedN 40961 b.toNat r 8
def moreC (r : Nat) (l : List UInt8) : Nat := l.foldl crcByte r
theorem crcByte_lt (r : Nat) (b : UInt8) (h : r < 65536) : crcByte r b < 65536 := feedN_lt (m := 16) (c := 40961) (n := b.toNat) (r := r) h (by decide) 8
theorem moreC_snoc (l : List UInt8) (b : UInt8) (r : Nat) : moreC r (l ++ [b]) = crcByte (moreC r l) b := by
  unfold moreC
  rw [List.foldl_append]
  rfl
theorem moreC_lt (l : List UInt8) : ∀ r, r < 65536 → moreC r l < 65536 := by
  unfold moreC
  induction l with
  | nil => intro r h; exact h
  | cons c l ih =>
    intro r h
    rw [List.foldl_cons]
    exact ih _ (crcByte_lt r c h)
theorem take_snoc (s : ByteArray) (k : Nat) (h : k < s.size) : s.data.toList.take (k + 1) = s.data.toList.take k ++ [s[k]] := by
  rw [List.take_succ_eq_append_getElem (by simpa using h)]; rfl

theorem feed16_more (r : Nat) (b : UInt8) (hr : r < 65536) (w : World) :
    Calls Try.prog 97 #[.int .u16 r, .int .u16 40961, .int .u16 b.toNat, .int .i64 8] w fun e w' => e = .returned (.int .u16 (crcByte r b : Nat)) ∧ w = w' := by
  have h := feed16_any r 40961 b.toNat 8 hr (by decide) (Nat.lt_trans b.toNat_lt (by decide)) (by decide) w
  unfold crcByte
  simpa only [Int.cast_ofNat_Int] using h
theorem not16 (r : Nat) (hr : r < 65536) : Go.bits .xor .u16 IntKind.u16.max (r : Int) = ((65535 - r : Nat) : Int) := by
  have h := u16_xor_nat 65535 r (by decide) hr
  have e : (65535 ^^^ r) = 65535 - r := by
    have hb : ∀ q : Fin 65536, (65535 ^^^ q.val) = 65535 - q.val := by
      intro q
      have h2 := BitVec.toNat_not (x := BitVec.ofFin (w := 16) q)
      have h3 : (~~~(BitVec.ofFin (w := 16) q)) = (65535#16 ^^^ BitVec.ofFin (w := 16) q) := by
        rw [← BitVec.allOnes_xor]; rfl
      rw [h3] at h2
      simpa using h2
    exact hb ⟨r, hr⟩
  rw [e] at h
  exact h

set_option maxHeartbeats 400000 in
theorem moreP_any (sum : Nat) (hsum : sum < 65536) (s : ByteArray) (hs : s.size ≤ maxLen) (w : World) :
    Calls Try.prog 87 #[.int .u16 sum, .string s] w fun e w' => e = .returned (.int .u16 (65535 - moreC (65535 - sum) s.data.toList : Nat)) ∧ w = w' := by
  unfold maxLen at hs
  have hn0 := not16 sum hsum
  go_enter Try.func87, Try.ntmps87
  go_wp2
  clear hn0
  go_loop [5, 11] (fun v i => ∃ k : Nat, k ≤ s.size ∧ i = .int .i64 k ∧ v = .int .u16 (moreC (65535 - sum) (s.data.toList.take k) : Nat)) (fun _ i => s.size - (intOf i).toNat)
  case atStart => exact ⟨0, Nat.zero_le _, rfl, rfl⟩
  case round =>
    obtain ⟨k, hk, rfl, rfl⟩ := hrel
    have hr := moreC_lt (s.data.toList.take k) (65535 - sum) (by omega)
    by_cases hlt : k < s.size
    · have hstep := moreC_snoc (s.data.toList.take k) s[k] (65535 - sum)
      rw [← take_snoc s k hlt] at hstep
      generalize moreC (65535 - sum) (s.data.toList.take k) = r at hr hstep ⊢
      have HS := Lib.hid hstep
      clear hstep
      have hb : s[k].toNat < 256 := s[k].toNat_lt
      go_wp2_with (go_at_call 97; refine (feed16_more r s[k] hr _).mono ?_; rintro e w' ⟨rfl, rfl⟩)
      go_round
      case rel => exact ⟨k + 1, by omega, by go_num, by rw [HS.out]⟩
      case measure => simp [intOf]; omega
    · obtain rfl : k = s.size := by omega
      have ht : s.data.toList.take s.size = s.data.toList := List.take_of_length_le (by simp)
      rw [ht] at hr ⊢
      have hn1 := not16 _ hr
      go_wp2_with fail
      go_ret
      exact ⟨rfl, rfl⟩
theorem sixteen_any (s : ByteArray) (hs : s.size ≤ maxLen) (w : World) :
    Calls Try.prog 56 #[.string s] w fun e w' => e = .returned (.int .u16 (65535 - moreC 65535 s.data.toList : Nat)) ∧ w = w' := by
  have h0 := fun w0 => moreP_any 0 (by decide) s hs w0
  have H := Lib.hid h0
  clear h0
  go_enter Try.func56, Try.ntmps56
  go_wp2_with (go_at_call 87; refine (H.out _).mono ?_; rintro e w' ⟨rfl, rfl⟩)
  go_ret
  exact ⟨rfl, rfl⟩
end Go.Proofs.Ytbeilpecdimheaa
