/- Contracts: slices.Equal at []Span, SameArena. -/
import Derived.Test.YtkhfbleldchnpaaSpans2
namespace Go.Proofs.Ytkhfbleldchnpaa
open Go.RowKit
set_option linter.unusedVariables false
set_option maxRecDepth 100000

theorem Reads.pairs_open {w : World} {v : Value} {l : List (Int × Int)} (h : Reads w 2 v l.length (pairs l)) : ∃ a cap, v = .slice a l.length cap ∧ l.length ≤ cap ∧ cap ≤ maxLen := by
  obtain ⟨a', cap', h2, h1, h3, h4, h5⟩ := h.open
  exact ⟨a', cap', h2, h3, h4⟩
theorem take_pair {α : Type} (l : List α) (k : Nat) (h : k < l.length) : l.take (k + 1) = l.take k ++ [l[k]] := List.take_succ_eq_append_getElem h
set_option maxHeartbeats 1000000 in
theorem eqSpans_any (va vb : Value) (xs ys : List (Int × Int)) (w : World) (ha : Reads w 2 va xs.length (pairs xs)) (hb : Reads w 2 vb ys.length (pairs ys)) :
    Calls Try.prog 67 #[va, vb] w fun e w' => e = .returned (.bool (decide (xs = ys))) ∧ Below w.heap.size w w' := by
  obtain ⟨aa, ka, rfl, ha1, ha2⟩ := ha.pairs_open
  obtain ⟨ab, kb, rfl, hb1, hb2⟩ := hb.pairs_open
  unfold maxLen at ha2 hb2
  have Ha3 := Lib.hid ha
  have Hb3 := Lib.hid hb
  clear ha hb
  by_cases hl : xs.length = ys.length
  · have hne : ((xs.length : Int) != (ys.length : Int)) = false := by simp [hl]
    have HL := Lib.hid hl
    clear hl
    go_enter Try.func67, Try.ntmps67
    go_wp2_with fail
    clear hne
    go_loopw [13] (fun i wr => ∃ k : Nat, k ≤ xs.length ∧ i = .int .i64 k ∧ xs.take k = ys.take k ∧ Below w.heap.size w wr)
      (fun i _ => xs.length - (intOf i).toNat)
    case atStart => exact ⟨0, Nat.zero_le _, rfl, rfl, Below.refl _ _⟩
    case round =>
      obtain ⟨k, hk, rfl, heq, hbel⟩ := hrel
      have HE := Lib.hid heq
      clear heq
      by_cases hlt : k < xs.length
      · have hlt2 : k < ys.length := by rw [← HL.out]; exact hlt
        obtain ⟨b1, o1, rfl, hb1, hx1, hx1'⟩ := Reads.pair Ha3.out k hlt
        obtain ⟨b2, o2, rfl, hb2, hx2, hx2'⟩ := Reads.pair Hb3.out k hlt2
        have hc1 := (hbel.cell (p := ⟨b1, o1 + k * 2, none⟩) hb1).trans hx1
        have hc1' := (hbel.cell (p := ⟨b1, o1 + k * 2 + 1, none⟩) hb1).trans hx1'
        have hc2 := (hbel.cell (p := ⟨b2, o2 + k * 2, none⟩) hb2).trans hx2
        have hc2' := (hbel.cell (p := ⟨b2, o2 + k * 2 + 1, none⟩) hb2).trans hx2'
        clear hx1 hx2 hx1' hx2'
        have hs1 := take_pair xs k hlt
        have hs2 := take_pair ys k hlt2
        generalize hX : xs[k] = x at hc1 hc1' hs1
        generalize hY : ys[k] = y at hc2 hc2' hs2
        have HS1 := Lib.hid hs1
        have HS2 := Lib.hid hs2
        clear hX hY hs1 hs2
        obtain ⟨x1, x2⟩ := x
        obtain ⟨y1, y2⟩ := y
        by_cases hxy : x1 = y1 ∧ x2 = y2
        · obtain ⟨rfl, rfl⟩ := hxy
          go_wp2_with fail
          go_quiet (fail)
          go_wp2_with fail
          go_roundw
          case rel => exact ⟨k + 1, by omega, by go_num, by rw [HS1.out, HS2.out, HE.out], hbel.trans (below_drewN _ _ _)⟩
          case measure => simp [intOf]; omega
        · have HXY := Lib.hid hxy
          have hd : decide (xs = ys) = false := by
            have h1 := HS1.out
            have h2 := HS2.out
            have h3 := HXY.out
            apply decide_eq_false
            intro e
            rw [e] at h1
            rw [h2] at h1
            have := List.append_inj_right' h1 rfl
            simp at this
            exact h3 ⟨this.1.symm, this.2.symm⟩
          have HD := Lib.hid hd
          clear hd
          clear HXY
          obtain hx | ⟨rfl, hx⟩ : x1 ≠ y1 ∨ (x1 = y1 ∧ x2 ≠ y2) := by omega
          all_goals
            go_wp2_with fail
            go_quiet (fail)
            go_wp2_with fail
            go_ret
            exact ⟨by rw [HD.out]; rfl, hbel.trans (below_drewN _ _ _)⟩
      · obtain rfl : k = xs.length := by omega
        have hd : decide (xs = ys) = true := by
          have h3 := HE.out
          rw [List.take_length, HL.out, List.take_length] at h3
          exact decide_eq_true h3
        have HD := Lib.hid hd
        clear hd
        go_wp2_with fail
        go_ret
        exact ⟨by rw [HD.out]; rfl, hbel⟩
  · have hne : ((xs.length : Int) != (ys.length : Int)) = true := by simp; omega
    have hd : decide (xs = ys) = false := decide_eq_false (fun e => hl (by rw [e]))
    rw [hd]
    clear hd
    go_enter Try.func67, Try.ntmps67
    go_wp2_with fail
    go_ret
    exact ⟨rfl, Below.refl _ _⟩
set_option maxHeartbeats 1000000 in
theorem sameArena_any (m n : Int) (va vb : Value) (xs ys : List (Int × Int)) (w : World) (ha : Reads w 2 va xs.length (pairs xs)) (hb : Reads w 2 vb ys.length (pairs ys)) :
    Calls Try.prog 28 #[.agg #[.int .i64 m, va], .agg #[.int .i64 n, vb]] w fun e w' => e = .returned (.bool (decide (m = n) && decide (xs = ys))) ∧ Below w.heap.size w w' := by
  have hE := eqSpans_any va vb xs ys ((w.alloc (.cells #[.int .i64 m, va] 46)).alloc (.cells #[.int .i64 n, vb] 46)) ((ha.alloc _).alloc _) ((hb.alloc _).alloc _)
  have HE := Lib.hid hE
  clear hE
  obtain ⟨aa, ka, rfl, ha1, ha2⟩ := ha.pairs_open
  obtain ⟨ab, kb, rfl, hb1, hb2⟩ := hb.pairs_open
  clear ha hb
  by_cases h : m = n
  · subst h
    go_enter Try.func28, Try.ntmps28
    go_wp2_with fail
    refine HE.out.mono ?_
    rintro r w2 ⟨rfl, hb⟩
    go_wp2_with fail
    go_ret
    exact ⟨by simp, (((Below.refl _ _).alloc (Nat.le_refl _) _).alloc (by simp) _).trans (hb.mono (by simp; omega))⟩
  · have hd : (m == n) = false := by simpa using h
    rw [show (decide (m = n) && decide (xs = ys)) = false by simp [h]]
    go_enter Try.func28, Try.ntmps28
    go_wp2_with fail
    go_ret
    exact ⟨rfl, ((Below.refl _ _).alloc (Nat.le_refl _) _).alloc (by simp) _⟩
end Go.Proofs.Ytkhfbleldchnpaa
