/- Contract of slices.Equal at []int. -/
import Derived.Test.YtglkfgfnnhbjeaaKit
import Derived.Deep.QuietTactic
import Derived.BigQuiet
namespace Go.Proofs.Ytglkfgfnnhbjeaa
open Go.RowKit
set_option linter.unusedVariables false

theorem mapI_get (l : List Int) (k : Nat) (h : k < l.length) : (l.map (Value.int .i64))[k]? = some (.int .i64 (l.getD k 0)) := by
  simp [List.getD, h]
theorem take_snocI (l : List Int) (k : Nat) (h : k < l.length) : l.take (k + 1) = l.take k ++ [l.getD k 0] := by
  rw [List.take_succ_eq_append_getElem h]; simp [List.getD, h]
theorem below_drewN (w : World) (n B : Nat) : Below B w (w.drewN n) := ⟨rfl, rfl, rfl, Nat.le_refl _, fun _ _ => rfl⟩

set_option maxHeartbeats 400000 in
theorem eqInts_any (va vb : Value) (xs ys : List Int) (w : World) (ha : Reads w 1 va xs.length (xs.map (Value.int .i64))) (hb : Reads w 1 vb ys.length (ys.map (Value.int .i64))) :
    Calls Try.prog 8 #[va, vb] w fun e w' => e = .returned (.bool (decide (xs = ys))) ∧ Below w.heap.size w w' := by
  obtain ⟨aa, ka, rfl, -, ha1, ha2, ha3⟩ := ha.open
  obtain ⟨ab, kb, rfl, -, hb1, hb2, hb3⟩ := hb.open
  unfold maxLen at ha2 hb2
  have Ha3 := Lib.hid ha3
  have Hb3 := Lib.hid hb3
  clear ha3 hb3 ha hb
  by_cases hl : xs.length = ys.length
  · have hne : ((xs.length : Int) != (ys.length : Int)) = false := by simp [hl]
    have HL := Lib.hid hl
    clear hl
    go_enter Try.func8, Try.ntmps8
    go_wp2_with fail
    clear hne
    go_loopw [13] (fun i wr => ∃ k : Nat, k ≤ xs.length ∧ i = .int .i64 k ∧ xs.take k = ys.take k ∧ Below w.heap.size w wr)
      (fun i _ => xs.length - (intOf i).toNat)
    case atStart => exact ⟨0, Nat.zero_le _, rfl, rfl, Below.refl _ _⟩
    case round =>
      obtain ⟨k, hk, rfl, heq, hbel⟩ := hrel
      have HE := Lib.hid heq
      clear heq
      by_cases hlt : k < xs.length
      · have hlt2 : k < ys.length := by rw [← HL.out]; exact hlt
        obtain ⟨b1, o1, rfl, hb1, hx1⟩ := Ha3.out (by omega)
        obtain ⟨b2, o2, rfl, hb2, hx2⟩ := Hb3.out (by omega)
        have hc1 := (hbel.cell (p := ⟨b1, o1 + k, none⟩) hb1).trans (hx1 k _ (mapI_get xs k hlt))
        have hc2 := (hbel.cell (p := ⟨b2, o2 + k, none⟩) hb2).trans (hx2 k _ (mapI_get ys k hlt2))
        clear hx1 hx2
        have hs1 := take_snocI xs k hlt
        have hs2 := take_snocI ys k hlt2
        generalize hX : xs.getD k 0 = x at hc1 hs1
        generalize hY : ys.getD k 0 = y at hc2 hs2
        have HS1 := Lib.hid hs1
        have HS2 := Lib.hid hs2
        clear hX hY hs1 hs2
        by_cases hxy : x = y
        · have ht : (x != y) = false := by simp [hxy]
          have HXY := Lib.hid hxy
          clear hxy
          go_wp2_with fail
          go_quiet (fail)
          go_wp2_with fail
          go_roundw
          case rel => exact ⟨k + 1, by omega, by go_num, by rw [HS1.out, HS2.out, HE.out, HXY.out], hbel.trans (below_drewN _ _ _)⟩
          case measure => simp [intOf]; omega
        · have ht : (x != y) = true := by simp [hxy]
          have HXY := Lib.hid hxy
          clear hxy
          have hd : decide (xs = ys) = false := by
            have h1 := HS1.out
            have h2 := HS2.out
            have h3 := HXY.out
            apply decide_eq_false
            intro e
            rw [e] at h1
            rw [h2] at h1
            have := List.append_inj_right' h1 rfl
            simp at this
            exact h3 this.symm
          have HD := Lib.hid hd
          clear hd
          go_wp2_with fail
          go_quiet (fail)
          go_wp2_with fail
          go_ret
          exact ⟨by rw [HD.out]; rfl, hbel.trans (below_drewN _ _ _)⟩
      · obtain rfl : k = xs.length := by omega
        have hd : decide (xs = ys) = true := by
          have h3 := HE.out
          rw [List.take_length, HL.out, List.take_length] at h3
          exact decide_eq_true h3
        have HD := Lib.hid hd
        clear hd
        go_wp2_with fail
        go_ret
        exact ⟨by rw [HD.out]; rfl, hbel⟩
  · have hne : ((xs.length : Int) != (ys.length : Int)) = true := by simp; omega
    have hd : decide (xs = ys) = false := decide_eq_false (fun e => hl (by rw [e]))
    rw [hd]
    clear hd
    go_enter Try.func8, Try.ntmps8
    go_wp2_with fail
    go_ret
    exact ⟨rfl, Below.refl _ _⟩
theorem eqInts_same (va vb : Value) (xs : List Int) (w : World) (ha : Reads w 1 va xs.length (xs.map (Value.int .i64))) (hb : Reads w 1 vb xs.length (xs.map (Value.int .i64))) :
    Calls Try.prog 8 #[va, vb] w fun e w' => e = .returned (.bool true) ∧ Below w.heap.size w w' := by
  have h := eqInts_any va vb xs xs w ha hb
  simpa using h
end Go.Proofs.Ytglkfgfnnhbjeaa
