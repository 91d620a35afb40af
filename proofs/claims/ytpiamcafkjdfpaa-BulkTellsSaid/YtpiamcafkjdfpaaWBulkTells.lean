/- The walk of the law BulkTells. -/
import Derived.Test.YtpiamcafkjdfpaaRead2
namespace Go.Proofs.Ytpiamcafkjdfpaa
open Go.RowKit
set_option linter.unusedVariables false
set_option maxRecDepth 100000

theorem writeStatus_any (t r c : Int) (w : World) :
    Calls Try.prog 14 #[.agg #[.int .i64 t, .int .i64 r, .int .i64 c]] w fun e w' => e = .returned (.tuple #[.string (stT t r c), .int .i64 (stE t r c)]) ∧ Below w.heap.size w w' := by
  unfold stT stE
  cases hg : goodSt t r c with
  | false => simp only [Bool.false_eq_true, if_false]; exact writeStatus_no t r c hg w
  | true =>
    have h : (0 ≤ t ∧ t ≤ 4294967295) ∧ (0 ≤ r ∧ r ≤ 4294967295) ∧ (0 ≤ c ∧ c ≤ 2) := by simpa [goodSt] using hg
    obtain ⟨n, rfl⟩ : ∃ n : Nat, t = n := ⟨t.toNat, by omega⟩
    obtain ⟨m, rfl⟩ : ∃ m : Nat, r = m := ⟨r.toNat, by omega⟩
    obtain ⟨k, rfl⟩ : ∃ k : Nat, c = k := ⟨c.toNat, by omega⟩
    simp only [if_true, Int.toNat_natCast]
    exact writeStatus_yes n m k (by omega) (by omega) (by omega) w
theorem statusText_any (t r c : Int) (w : World) :
    Calls Try.prog 15 #[.agg #[.int .i64 t, .int .i64 r, .int .i64 c]] w fun e w' => e = .returned (.tuple #[.string (stT t r c), .int .i64 (stE t r c)]) ∧ Below w.heap.size w w' := by
  unfold stT stE
  cases hg : goodSt t r c with
  | false => simp only [Bool.false_eq_true, if_false]; exact statusText_no t r c hg w
  | true =>
    have h : (0 ≤ t ∧ t ≤ 4294967295) ∧ (0 ≤ r ∧ r ≤ 4294967295) ∧ (0 ≤ c ∧ c ≤ 2) := by simpa [goodSt] using hg
    obtain ⟨n, rfl⟩ : ∃ n : Nat, t = n := ⟨t.toNat, by omega⟩
    obtain ⟨m, rfl⟩ : ∃ m : Nat, r = m := ⟨r.toNat, by omega⟩
    obtain ⟨k, rfl⟩ : ∃ k : Nat, c = k := ⟨c.toNat, by omega⟩
    simp only [if_true, Int.toNat_natCast]
    exact statusText_yes n m k (by omega) (by omega) (by omega) w
theorem read_both (s : ByteArray) (hs : s.size ≤ maxLen) : ∃ x y z e : Int, (∀ w, Calls Try.prog 16 #[.string s] w fun r w' => r = .returned (.tuple #[.agg #[.int .i64 x, .int .i64 y, .int .i64 z], .int .i64 e]) ∧ Below w.heap.size w w') ∧
    (∀ w, Calls Try.prog 17 #[.string s] w fun r w' => r = .returned (.tuple #[.agg #[.int .i64 x, .int .i64 y, .int .i64 z], .int .i64 e]) ∧ Below w.heap.size w w') := by
  by_cases h : s.size < 13
  · exact ⟨0, 0, 0, 3, readP_short s h, readR_short s h⟩
  · have hp := readP_long s (by omega) hs
    have hr := readR_long s (by omega) hs
    unfold rdV at hp hr
    split at hp
    · rename_i hc
      rw [if_pos hc] at hr
      exact ⟨_, _, _, _, hp, hr⟩
    · rename_i hc
      rw [if_neg hc] at hr
      exact ⟨_, _, _, _, hp, hr⟩

set_option maxHeartbeats 1000000 in
theorem bulkTells_walk (t : Int) (_ : (Lit.int .i64 t).wf = true) (r : Int) (_ : (Lit.int .i64 r).wf = true) (c : Int) (_ : (Lit.int .i64 c).wf = true) (s : ByteArray) (hs : s.size ≤ maxLen) (w : World) :
    Calls Try.prog 3 #[.agg #[.int .i64 t, .int .i64 r, .int .i64 c], .string s] w fun e w' => e = .returned (.bool true) ∧ Below w.heap.size w w' := by
  obtain ⟨x, y, z, e, hp, hr⟩ := read_both s hs
  have HP := Lib.hid hp
  have HR := Lib.hid hr
  have HW := Lib.hid (writeStatus_any t r c)
  have HT := Lib.hid (statusText_any t r c)
  clear hp hr
  generalize stT t r c = a at *
  generalize stE t r c = b at *
  go_enter Try.func3, Try.ntmps3
  go_wp2_with fail
  refine (HW.out _).mono ?_
  rintro e1 w1 ⟨rfl, hb1⟩
  have hz1 : w.heap.size < w1.heap.size := by have := hb1.size; simp at this; omega
  have c0 : w1.cell? ⟨w.heap.size, 0, none⟩ = some (.int .i64 t) := (hb1.cell (by simp)).trans (by simp)
  have c1 : w1.cell? ⟨w.heap.size, 1, none⟩ = some (.int .i64 r) := (hb1.cell (by simp)).trans (by simp)
  have c2 : w1.cell? ⟨w.heap.size, 2, none⟩ = some (.int .i64 c) := (hb1.cell (by simp)).trans (by simp)
  have B1 : Below w.heap.size w w1 := ((Below.refl _ _).alloc (Nat.le_refl _) _).trans (hb1.mono (by simp))
  clear hb1
  go_wp2_with fail
  refine (HT.out _).mono ?_
  rintro e2 w2 ⟨rfl, hb2⟩
  have B2 : Below w.heap.size w w2 := B1.trans (hb2.mono B1.size)
  clear c0 c1 c2 B1 hb2 hz1
  go_wp2_with fail
  refine (HP.out _).mono ?_
  rintro e3 w3 ⟨rfl, hb3⟩
  have B3 : Below w.heap.size w w3 := B2.trans (hb3.mono B2.size)
  clear B2 hb3
  go_wp2_with fail
  refine (HR.out _).mono ?_
  rintro e4 w4 ⟨rfl, hb4⟩
  have hz4 : w3.heap.size < w4.heap.size := by have := hb4.size; simp at this; omega
  have d0 : w4.cell? ⟨w3.heap.size, 0, none⟩ = some (.int .i64 x) := (hb4.cell (by simp)).trans (by simp)
  have d1 : w4.cell? ⟨w3.heap.size, 1, none⟩ = some (.int .i64 y) := (hb4.cell (by simp)).trans (by simp)
  have d2 : w4.cell? ⟨w3.heap.size, 2, none⟩ = some (.int .i64 z) := (hb4.cell (by simp)).trans (by simp)
  have B4 : Below w.heap.size w w4 := (B3.alloc B3.size _).trans (hb4.mono (by have := B3.size; simp; omega))
  clear B3 hb4
  go_wp2_with fail
  go_ret
  exact ⟨rfl, B4.alloc B4.size _⟩
end Go.Proofs.Ytpiamcafkjdfpaa
