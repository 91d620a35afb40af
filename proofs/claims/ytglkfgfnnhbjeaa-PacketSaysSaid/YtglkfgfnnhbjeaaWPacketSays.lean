/- The walk of PacketSays. -/
import Derived.Test.YtglkfgfnnhbjeaaPacket5
namespace Go.Proofs.Ytglkfgfnnhbjeaa
open Go.RowKit
set_option linter.unusedVariables false
set_option maxRecDepth 100000

set_option maxHeartbeats 300000 in
theorem packetSays_walk (k : Int) (hk : (Lit.int .i64 k).wf = true) (a : Int) (ha : (Lit.int .i64 a).wf = true) (e : Int) (he : (Lit.int .i64 e).wf = true) (f : Int) (hf : (Lit.int .i64 f).wf = true) (d : ByteArray) (hd : d.size ≤ maxLen) (w : World) :
    Calls Try.prog 6 #[.agg #[.int .i64 k, .int .i64 a, .int .i64 e, .int .i64 f, .string d]] w fun r w' => r = .returned (.bool true) ∧ Below w.heap.size w w' := by
  replace hk := i64_of hk
  replace ha := i64_of ha
  replace he := i64_of he
  replace hf := i64_of hf
  have HP := Lib.hid (packetR_any k a e f d hk ha he hf hd)
  have HC := Lib.hid (checkP_any k a e f d hk ha he hf hd)
  by_cases hE : pktErr k a e f d.size = 0
  · obtain ⟨s, h1, h2⟩ := right_any k a e f d hE
    have HW := Lib.hid h1
    have HT := Lib.hid h2
    rw [hE] at HP HC
    clear h1 h2 hE hk ha he hf hd
    go_enter Try.func6, Try.ntmps6
    go_wp2_with fail
    refine (HP.out _).mono ?_
    rintro r w1 ⟨rfl, hb1⟩
    have hz1 : w.heap.size < w1.heap.size := by have := hb1.size; simp at this; omega
    have w10 : w1.cell? ⟨w.heap.size, 0, none⟩ = some (.int .i64 k) := (hb1.cell (by simp)).trans (by simp)
    have w11 : w1.cell? ⟨w.heap.size, 1, none⟩ = some (.int .i64 a) := (hb1.cell (by simp)).trans (by simp)
    have w12 : w1.cell? ⟨w.heap.size, 2, none⟩ = some (.int .i64 e) := (hb1.cell (by simp)).trans (by simp)
    have w13 : w1.cell? ⟨w.heap.size, 3, none⟩ = some (.int .i64 f) := (hb1.cell (by simp)).trans (by simp)
    have w14 : w1.cell? ⟨w.heap.size, 4, none⟩ = some (.string d) := (hb1.cell (by simp)).trans (by simp)
    have B1 : Below w.heap.size w w1 := ((Below.refl _ _).alloc (Nat.le_refl _) _).trans (hb1.mono (by simp))
    clear hb1
    go_wp2_with fail
    refine (HT.out _).mono ?_
    rintro r w2 ⟨rfl, hb2⟩
    have hz2 : w.heap.size < w2.heap.size := Nat.lt_of_lt_of_le hz1 hb2.size
    have w20 : w2.cell? ⟨w.heap.size, 0, none⟩ = some (.int .i64 k) := (hb2.cell hz1).trans w10
    have w21 : w2.cell? ⟨w.heap.size, 1, none⟩ = some (.int .i64 a) := (hb2.cell hz1).trans w11
    have w22 : w2.cell? ⟨w.heap.size, 2, none⟩ = some (.int .i64 e) := (hb2.cell hz1).trans w12
    have w23 : w2.cell? ⟨w.heap.size, 3, none⟩ = some (.int .i64 f) := (hb2.cell hz1).trans w13
    have w24 : w2.cell? ⟨w.heap.size, 4, none⟩ = some (.string d) := (hb2.cell hz1).trans w14
    have B2 : Below w.heap.size w w2 := B1.trans (hb2.mono (Nat.le_of_lt hz1))
    clear hb2 w10 w11 w12 w13 w14 hz1 B1
    go_wp2_with fail
    refine (HW.out _).mono ?_
    rintro r w3 ⟨rfl, hb3⟩
    have hz3 : w.heap.size < w3.heap.size := Nat.lt_of_lt_of_le hz2 hb3.size
    have w30 : w3.cell? ⟨w.heap.size, 0, none⟩ = some (.int .i64 k) := (hb3.cell hz2).trans w20
    have w31 : w3.cell? ⟨w.heap.size, 1, none⟩ = some (.int .i64 a) := (hb3.cell hz2).trans w21
    have w32 : w3.cell? ⟨w.heap.size, 2, none⟩ = some (.int .i64 e) := (hb3.cell hz2).trans w22
    have w33 : w3.cell? ⟨w.heap.size, 3, none⟩ = some (.int .i64 f) := (hb3.cell hz2).trans w23
    have w34 : w3.cell? ⟨w.heap.size, 4, none⟩ = some (.string d) := (hb3.cell hz2).trans w24
    have B3 : Below w.heap.size w w3 := B2.trans (hb3.mono (Nat.le_of_lt hz2))
    clear hb3 w20 w21 w22 w23 w24 hz2 B2
    go_wp2_with fail
    refine (HC.out _).mono ?_
    rintro r w4 ⟨rfl, hb4⟩
    have hz4 : w.heap.size < w4.heap.size := Nat.lt_of_lt_of_le hz3 hb4.size
    have w40 : w4.cell? ⟨w.heap.size, 0, none⟩ = some (.int .i64 k) := (hb4.cell hz3).trans w30
    have w41 : w4.cell? ⟨w.heap.size, 1, none⟩ = some (.int .i64 a) := (hb4.cell hz3).trans w31
    have w42 : w4.cell? ⟨w.heap.size, 2, none⟩ = some (.int .i64 e) := (hb4.cell hz3).trans w32
    have w43 : w4.cell? ⟨w.heap.size, 3, none⟩ = some (.int .i64 f) := (hb4.cell hz3).trans w33
    have w44 : w4.cell? ⟨w.heap.size, 4, none⟩ = some (.string d) := (hb4.cell hz3).trans w34
    have B4 : Below w.heap.size w w4 := B3.trans (hb4.mono (Nat.le_of_lt hz3))
    clear hb4 w30 w31 w32 w33 w34 hz3 B3
    go_wp2_with fail
    all_goals go_ret
    exact ⟨rfl, B4⟩
  · have HW := Lib.hid (writeP_err k a e f d hk ha he hf hd hE)
    generalize hX : pktErr k a e f d.size = x at *
    have HX := Lib.hid hX
    clear hX hk ha he hf hd
    have hx : (x == 0) = false := by simpa using hE
    go_enter Try.func6, Try.ntmps6
    go_wp2_with fail
    refine (HP.out _).mono ?_
    rintro r w1 ⟨rfl, hb1⟩
    have hz1 : w.heap.size < w1.heap.size := by have := hb1.size; simp at this; omega
    have w10 : w1.cell? ⟨w.heap.size, 0, none⟩ = some (.int .i64 k) := (hb1.cell (by simp)).trans (by simp)
    have w11 : w1.cell? ⟨w.heap.size, 1, none⟩ = some (.int .i64 a) := (hb1.cell (by simp)).trans (by simp)
    have w12 : w1.cell? ⟨w.heap.size, 2, none⟩ = some (.int .i64 e) := (hb1.cell (by simp)).trans (by simp)
    have w13 : w1.cell? ⟨w.heap.size, 3, none⟩ = some (.int .i64 f) := (hb1.cell (by simp)).trans (by simp)
    have w14 : w1.cell? ⟨w.heap.size, 4, none⟩ = some (.string d) := (hb1.cell (by simp)).trans (by simp)
    have B1 : Below w.heap.size w w1 := ((Below.refl _ _).alloc (Nat.le_refl _) _).trans (hb1.mono (by simp))
    clear hb1
    go_wp2_with fail
    refine (HW.out _).mono ?_
    rintro r w2 ⟨rfl, hb2⟩
    have hz2 : w.heap.size < w2.heap.size := Nat.lt_of_lt_of_le hz1 hb2.size
    have w20 : w2.cell? ⟨w.heap.size, 0, none⟩ = some (.int .i64 k) := (hb2.cell hz1).trans w10
    have w21 : w2.cell? ⟨w.heap.size, 1, none⟩ = some (.int .i64 a) := (hb2.cell hz1).trans w11
    have w22 : w2.cell? ⟨w.heap.size, 2, none⟩ = some (.int .i64 e) := (hb2.cell hz1).trans w12
    have w23 : w2.cell? ⟨w.heap.size, 3, none⟩ = some (.int .i64 f) := (hb2.cell hz1).trans w13
    have w24 : w2.cell? ⟨w.heap.size, 4, none⟩ = some (.string d) := (hb2.cell hz1).trans w14
    have B2 : Below w.heap.size w w2 := B1.trans (hb2.mono (Nat.le_of_lt hz1))
    clear hb2 w10 w11 w12 w13 w14 hz1 B1
    go_wp2_with fail
    refine (HC.out _).mono ?_
    rintro r w3 ⟨rfl, hb3⟩
    have hz3 : w.heap.size < w3.heap.size := Nat.lt_of_lt_of_le hz2 hb3.size
    have w30 : w3.cell? ⟨w.heap.size, 0, none⟩ = some (.int .i64 k) := (hb3.cell hz2).trans w20
    have w31 : w3.cell? ⟨w.heap.size, 1, none⟩ = some (.int .i64 a) := (hb3.cell hz2).trans w21
    have w32 : w3.cell? ⟨w.heap.size, 2, none⟩ = some (.int .i64 e) := (hb3.cell hz2).trans w22
    have w33 : w3.cell? ⟨w.heap.size, 3, none⟩ = some (.int .i64 f) := (hb3.cell hz2).trans w23
    have w34 : w3.cell? ⟨w.heap.size, 4, none⟩ = some (.string d) := (hb3.cell hz2).trans w24
    have B3 : Below w.heap.size w w3 := B2.trans (hb3.mono (Nat.le_of_lt hz2))
    clear hb3 w20 w21 w22 w23 w24 hz2 B2
    go_wp2_with fail
    all_goals go_ret
    exact ⟨rfl, B3⟩
end Go.Proofs.Ytglkfgfnnhbjeaa
