/- Contracts: Five and More of package plugref. -/
import Derived.Test.YtbeilpecdimheaaCrc
namespace Go.Proofs.Ytbeilpecdimheaa
open Go.RowKit
set_option linter.unusedVariables false

def fiveR (n : Nat) : Nat := if 2048 ≤ n then 0 else turnedL (leftL (bitsL n 11) (bitsL 31 5) [false, false, true, false, true])
set_option maxRecDepth 100000
theorem leftL_length (bs ss ps : List Bool) : (leftL bs ss ps).length = ps.length := by
  unfold leftL
  rw [List.length_drop, leftGo_length, xorRun_length]
  simp

set_option maxHeartbeats 400000 in
theorem fiveR_any (n : Nat) (hn : n < 65536) (w : World) :
    Calls Try.prog 61 #[.int .u16 n] w fun e w' => e = .returned (.tuple #[.int .u8 (fiveR n : Nat), .int .i64 (fiveE n)]) ∧ Below w.heap.size w w' := by
  by_cases h : 2048 ≤ n
  · have e1 : fiveR n = 0 := if_pos h
    have e2 : fiveE n = 1 := if_pos (by omega)
    rw [e1, e2]
    clear e1 e2
    go_enter Try.func61, Try.ntmps61
    go_wp2
    go_ret2
    exact ⟨ret_ii rfl rfl, Below.refl _ _⟩
  · have e1 : fiveR n = turnedL (leftL (bitsL n 11) (bitsL 31 5) [false, false, true, false, true]) := if_neg h
    have e2 : fiveE n = 0 := if_neg (by omega)
    rw [e1, e2]
    clear e1 e2
    have hb1 := bitsOf_any n 11 (by omega) (by decide)
    have hb2 := bitsOf_any 31 5 (by decide) (by decide)
    simp only [Int.cast_ofNat_Int] at hb1 hb2
    have l1 : (bitsL n 11).length = 11 := bitsL_length _ _
    have l2 : (bitsL 31 5).length = 5 := bitsL_length _ _
    have HB1 := Lib.hid hb1
    have HB2 := Lib.hid hb2
    clear hb1 hb2
    generalize bitsL n 11 = bs at *
    generalize bitsL 31 5 = ss at *
    have L1 := Lib.hid l1
    have L2 := Lib.hid l2
    clear l1 l2
    go_enter Try.func61, Try.ntmps61
    go_wp2_with fail
    refine (HB1.out _).mono ?_
    rintro e w1 ⟨v1, rfl, ho1, hbel1⟩
    have hz1 := hbel1.size
    go_wp2_with fail
    refine (HB2.out _).mono ?_
    rintro e w2 ⟨v2, rfl, ho2, hbel2⟩
    have hz2 := hbel2.size
    go_wp2_with fail
    have hl := Reads.lit w2 4 1 5 ([false, false, true, false, true].map Value.bool) rfl (by decide)
    have hr1 := ((Reads.of_own ho1).below hbel2 (Nat.le_refl _)).alloc (.cells ([false, false, true, false, true].map Value.bool).toArray 4)
    have hr2 := (Reads.of_own ho2).alloc (.cells ([false, false, true, false, true].map Value.bool).toArray 4)
    refine (left_any _ _ _ bs ss [false, false, true, false, true] _ (by rw [L1.out]; exact hr1) (by rw [L2.out]; exact hr2) hl (by decide) (by rw [L2.out]; simp) (by rw [L1.out]; simp)).mono ?_
    rintro e w3 ⟨v3, rfl, hr3, hbel3⟩
    have l3 := leftL_length bs ss [false, false, true, false, true]
    generalize hR : leftL bs ss [false, false, true, false, true] = rs at *
    have L3 := Lib.hid l3
    have HR := Lib.hid hR
    clear l3 hl hr1 hr2 ho1 ho2 hR
    go_wp2_with fail
    refine (turnedNum_any _ rs _ (by rw [L3.out]; exact hr3) (by rw [L3.out]; simp)).mono ?_
    rintro e w4 ⟨rfl, rfl⟩
    have hlt : turnedL rs < 32 := by have := turnedL_lt rs; rw [L3.out] at this; exact this
    generalize hX : turnedL rs = x at *
    have HX := Lib.hid hX
    clear hX
    go_wp2_with fail
    go_ret2
    refine ⟨ret_ii (by rw [HR.out, HX.out]) rfl, ?_⟩
    have b2 : Below w.heap.size w (w2.alloc (.cells ([false, false, true, false, true].map Value.bool).toArray 4)) := (hbel1.trans (hbel2.mono hz1)).alloc (by omega) _
    exact b2.trans (hbel3.mono (by simp; omega))

def bitsS (l : List UInt8) : List Bool := l.flatMap fun b => bitsL b.toNat 8
theorem bitsS_snoc (l : List UInt8) (b : UInt8) : bitsS (l ++ [b]) = bitsS l ++ bitsL b.toNat 8 := by simp [bitsS]
theorem bitsS_length (l : List UInt8) : (bitsS l).length = 8 * l.length := by
  induction l with
  | nil => rfl
  | cons b l ih => simp only [bitsS, List.flatMap_cons, List.length_append, bitsL_length, List.length_cons] at ih ⊢; omega
def poly16 : List Bool := [true, false, false, false, false, false, false, false, false, false, false, false, false, true, false, true]
def moreR (sum : Nat) (l : List UInt8) : Nat := turnedL (leftL (bitsS l) (bitsL (65535 - sum) 16) poly16)
theorem bitsOf_byte (b : UInt8) (w : World) :
    Calls Try.prog 89 #[.int .i64 b.toNat, .int .i64 8] w fun e w' =>
      ∃ v, e = .returned v ∧ w'.ownsRow w.heap.size 4 1 v 8 ((bitsL b.toNat 8).map Value.bool) ∧ Below w.heap.size w w' := by
  have h := bitsOf_any b.toNat 8 (Nat.le_trans (Nat.le_of_lt b.toNat_lt) (by decide)) (by decide) w
  simpa only [Int.cast_ofNat_Int] using h

theorem make16 (w : World) : (Instr.makeSlice 115 (.int .i64 16) (.int .i64 16)).run Try.prog w = .ok (.slice (some ⟨w.heap.size, 0, none⟩) 16 16) (w.alloc (.cells #[.bool false, .bool false, .bool false, .bool false, .bool false, .bool false, .bool false, .bool false, .bool false, .bool false, .bool false, .bool false, .bool false, .bool false, .bool false, .bool false] 4)) := by kernel_rfl
set_option maxHeartbeats 400000 in
theorem moreR_any (sum : Nat) (hsum : sum < 65536) (s : ByteArray) (hs : s.size ≤ 1048576) (w : World) :
    Calls Try.prog 60 #[.int .u16 sum, .string s] w fun e w' => e = .returned (.int .u16 (moreR sum s.data.toList : Nat)) ∧ Below w.heap.size w w' := by
  go_enter Try.func60, Try.ntmps60
  go_wp2
  go_loopw [5, 10] (fun v i wr => ∃ k : Nat, k ≤ s.size ∧ i = .int .i64 k ∧ wr.ownsRow w.heap.size 4 1 v (8 * k) ((bitsS (s.data.toList.take k)).map Value.bool) ∧ Below w.heap.size w wr)
    (fun _ i _ => s.size - (intOf i).toNat)
  case atStart => exact ⟨0, Nat.zero_le _, rfl, World.ownsRow_nil _ _ _ _, Below.refl _ _⟩
  case round =>
    obtain ⟨k, hk, rfl, hown, hbel⟩ := hrel
    have hsz := hbel.size
    by_cases hlt : k < s.size
    · have hbyte : s[k].toNat < 256 := s[k].toNat_lt
      go_wp2_with fail
      refine (bitsOf_byte s[k] _).mono ?_
      rintro e w1 ⟨v1, rfl, ho1, hb1⟩
      have hz1 := hb1.size
      have hown1 := own_below hown hb1
      go_wp2_with (at_builtin; refine appR_bool rfl _ _ rfl w.heap.size _ (8 * k) _ rfl hown1 _ 8 _ rfl (Reads.of_own ho1) (by omega) (by omega) ?_; intro v2 w2 hown2 _ _ hb2)
      go_roundw
      case rel =>
        refine ⟨k + 1, by omega, by go_num, ?_, (hbel.trans (hb1.mono hsz)).trans hb2⟩
        rw [take_snoc s k hlt, bitsS_snoc, List.map_append]
        exact hown2
      case measure => simp [intOf]; omega
    · obtain rfl : k = s.size := by omega
      have ht : s.data.toList.take s.size = s.data.toList := List.take_of_length_le (by simp)
      rw [ht] at hown
      have hmk := make16
      have hs16 := bitsL_length (65535 - sum) 16
      have hb2 := bitsOf_any (65535 - sum) 16 (by omega) (by decide)
      rw [show ((65535 - sum : Nat) : Int) = 65535 - (sum : Int) from by omega] at hb2
      simp only [Int.cast_ofNat_Int] at hb2
      have hlen : (bitsS s.data.toList).length = 8 * s.size := by rw [bitsS_length]; simp
      have HB2 := Lib.hid hb2
      clear hb2
      have HR : Hid (moreR sum s.data.toList = turnedL (leftL (bitsS s.data.toList) (bitsL (65535 - sum) 16) poly16)) := rfl
      generalize bitsS s.data.toList = bs at *
      generalize bitsL (65535 - sum) 16 = ss at *
      have HL := Lib.hid hlen
      have HS := Lib.hid hs16
      clear hlen hs16
      go_wp2_with fail
      refine (HB2.out _).mono ?_
      rintro e w1 ⟨v1, rfl, ho1, hb1⟩
      have hz1 := hb1.size
      have hr0 := ((Reads.of_own hown).alloc (.cells (poly16.map Value.bool).toArray 4)).below hb1 (Nat.le_refl _)
      have hr2 := (Reads.lit wr 4 1 16 (poly16.map Value.bool) rfl (by decide)).below hb1 (Nat.le_refl _)
      go_wp2_with fail
      refine (left_any _ _ _ bs ss poly16 _ (by rw [HL.out]; exact hr0) (by rw [HS.out]; exact Reads.of_own ho1) hr2 (by decide) (by rw [HS.out]; exact Nat.le_trans (Nat.le_add_left 16 _) (Nat.le_refl _)) (by rw [HL.out]; show 8 * s.size + 16 ≤ _; omega)).mono ?_
      rintro e w3 ⟨v3, rfl, hr3, hbel3⟩
      have l3 := leftL_length bs ss poly16
      generalize hR : leftL bs ss poly16 = rs at *
      have L3 := Lib.hid l3
      have HR2 := Lib.hid hR
      clear l3 hr0 hr2 ho1 hown hR
      go_wp2_with fail
      refine (turnedNum_any _ rs _ (by rw [L3.out]; exact hr3) (by rw [L3.out]; decide)).mono ?_
      rintro e w4 ⟨rfl, rfl⟩
      have hlt2 : turnedL rs < 65536 := by have := turnedL_lt rs; rw [L3.out] at this; exact this
      generalize hX : turnedL rs = x at *
      have HX := Lib.hid hX
      clear hX
      go_wp2_with fail
      go_ret
      refine ⟨ret_i (by rw [HR.out]), ?_⟩
      have b2 : Below w.heap.size w (wr.alloc (.cells (poly16.map Value.bool).toArray 4)) := hbel.alloc hsz _
      have z2 : wr.heap.size ≤ (wr.alloc (.cells (poly16.map Value.bool).toArray 4)).heap.size := by simp
      exact (b2.trans (hb1.mono (Nat.le_trans hsz z2))).trans (hbel3.mono (Nat.le_trans hsz (Nat.le_trans z2 hz1)))
end Go.Proofs.Ytbeilpecdimheaa
