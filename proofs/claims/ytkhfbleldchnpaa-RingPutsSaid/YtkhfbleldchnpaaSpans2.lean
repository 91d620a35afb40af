/- Arena (plugref): the same error as Check's. -/
import Derived.Test.YtkhfbleldchnpaaSpans
namespace Go.Proofs.Ytkhfbleldchnpaa
open Go.RowKit
set_option linter.unusedVariables false
set_option maxRecDepth 100000

/-- where the last span ends -/
def endAt (l : List (Int × Int)) : Nat → Int
  | 0 => 0
  | k + 1 => (l.getD k (0, 0)).1 + (l.getD k (0, 0)).2
set_option maxHeartbeats 2000000 in
theorem arenaR_any (size : Int) (hs : I64 size) (a : Option Addr) (cap : Nat) (l : List (Int × Int)) (hl : ∀ p ∈ l, I64 p.1 ∧ I64 p.2) (w : World) (hr : Reads w 2 (.slice a l.length cap) l.length (pairs l)) :
    Calls Try.prog 26 #[.agg #[.int .i64 size, .slice a l.length cap]] w fun r w' => r = .returned (.int .i64 (arErr size l)) ∧ Below w.heap.size w w' := by
  unfold I64 at hs
  have hcm : l.length ≤ cap ∧ cap ≤ maxLen := by
    obtain ⟨a', cap', h2, h1, h3, h4, h5⟩ := hr.open
    simp only [Value.slice.injEq] at h2
    obtain ⟨rfl, -, rfl⟩ := h2
    exact ⟨h3, h4⟩
  unfold maxLen at hcm
  have hlen : l.length ≤ 9223372036854775807 := by omega
  have HR := Lib.hid hr
  have HB := Lib.hid between_any
  clear hr hcm
  by_cases h1 : size < 1 ∨ 65536 < size
  · have e : arErr size l = 1 := if_pos h1
    rw [e]
    clear e
    have hd : (decide (1 ≤ size) && decide (size ≤ 65536)) = false := by simp; omega
    go_enter Try.func26, Try.ntmps26
    go_wp2_with (go_at_call 19; with_reducible refine (HB.out _ _ _ _).mono ?_; rw [hd]; rintro r w2 ⟨rfl, rfl⟩)
    go_ret
    exact ⟨rfl, (Below.refl _ _).alloc (Nat.le_refl _) _⟩
  · have hd : (decide (1 ≤ size) && decide (size ≤ 65536)) = true := by simp; omega
    by_cases h2 : 64 < l.length
    · have e : arErr size l = 2 := by unfold arErr; rw [if_neg h1, if_pos h2]
      rw [e]
      clear e
      go_enter Try.func26, Try.ntmps26
      go_wp2_with (go_at_call 19; with_reducible refine (HB.out _ _ _ _).mono ?_; rw [hd]; rintro r w2 ⟨rfl, rfl⟩)
      go_ret
      exact ⟨rfl, (Below.refl _ _).alloc (Nat.le_refl _) _⟩
    · have e : arErr size l = if spOk size 0 l then 0 else 4 := by unfold arErr; rw [if_neg h1, if_neg h2]
      have HE := Lib.hid e
      clear e
      go_enter Try.func26, Try.ntmps26
      go_wp2_with (go_at_call 19; with_reducible refine (HB.out _ _ _ _).mono ?_; rw [hd]; rintro r w2 ⟨rfl, rfl⟩)
      go_loopw [16] (fun i wr => ∃ k : Nat, k ≤ l.length ∧ i = .int .i64 k ∧ (0 ≤ endAt l k ∧ endAt l k ≤ 65536) ∧ Hid (spOk size 0 l = spOk size (endAt l k) (l.drop k)) ∧ Below (w.heap.size + 1) (w.alloc (.cells #[.int .i64 size, .slice a l.length cap] 46)) wr)
        (fun i _ => l.length - (intOf i).toNat)
      case atStart => exact ⟨0, Nat.zero_le _, rfl, by simp [endAt], Lib.hid rfl, Below.refl _ _⟩
      case round =>
        obtain ⟨k, hk, rfl, hx, HS, hbel⟩ := hrel
        have hsz : w.heap.size < wr.heap.size := by have := hbel.size; simp at this; omega
        have c0 : wr.cell? ⟨w.heap.size, 0, none⟩ = some (.int .i64 size) := (hbel.cell (by simp)).trans (by simp)
        have c1 : wr.cell? ⟨w.heap.size, 1, none⟩ = some (.slice a l.length cap) := (hbel.cell (by simp)).trans (by simp)
        by_cases hlt : k < l.length
        · obtain ⟨b, off, rfl, hb, hc1, hc2⟩ := Reads.pair HR.out k hlt
          have hbz : b < wr.heap.size := by omega
          have d1 : wr.cell? ⟨b, off + k * 2, none⟩ = some (.int .i64 l[k].1) := (hbel.cell (p := ⟨b, off + k * 2, none⟩) (by simp; omega)).trans ((World.cell?_alloc_lt _ _ _ hb).trans hc1)
          have d2 : wr.cell? ⟨b, off + k * 2 + 1, none⟩ = some (.int .i64 l[k].2) := (hbel.cell (p := ⟨b, off + k * 2 + 1, none⟩) (by simp; omega)).trans ((World.cell?_alloc_lt _ _ _ hb).trans hc2)
          clear hc1 hc2
          have hp := hl l[k] (List.getElem_mem hlt)
          unfold I64 at hp
          have HD := Lib.hid (drop_get l k hlt)
          have hn : endAt l (k + 1) = l[k].1 + l[k].2 := by simp [endAt, List.getD_eq_getElem?_getD, List.getElem?_eq_getElem hlt]
          have HN := Lib.hid hn
          clear hn
          cases k with
          | zero =>
            clear hl
            simp only [endAt] at HS hx
            simp only [Nat.zero_mul, Nat.add_zero] at d1 d2
            generalize l[0] = p at *
            obtain ⟨y, z⟩ := p
            obtain hg | ⟨hg, hf⟩ | hg : ((0 ≤ y ∧ y ≤ size - 1) ∧ (1 ≤ z ∧ z ≤ size - y)) ∨ ((0 ≤ y ∧ y ≤ size - 1) ∧ ¬ (1 ≤ z ∧ z ≤ size - y)) ∨ ¬ (0 ≤ y ∧ y ≤ size - 1) := by omega
            · have b1 : (decide (0 ≤ y) && decide (y ≤ size - 1)) = true := by simp; omega
              have b2 : (decide (1 ≤ z) && decide (z ≤ size - y)) = true := by simp; omega
              go_wp2_with (go_at_call 19; with_reducible refine (HB.out _ _ _ _).mono ?_; (first | rw [b1] | rw [b2]); rintro r w2 ⟨rfl, rfl⟩)
              go_quiet (fail)
              go_wp2_with fail
              go_roundw
              case rel =>
                refine ⟨1, by omega, by go_num, by rw [HN.out]; show 0 ≤ y + z ∧ y + z ≤ 65536; omega, Lib.hid ?_, (hbel.alloc (by omega) _).trans (below_drewN _ _ _)⟩
                rw [HN.out, HS.out, HD.out, spOk_yes _ (by omega)]
              case measure => simp [intOf]; omega
            · have b1 : (decide (0 ≤ y) && decide (y ≤ size - 1)) = true := by simp; omega
              have b2 : (decide (1 ≤ z) && decide (z ≤ size - y)) = false := by simp; omega
              go_wp2_with (go_at_call 19; with_reducible refine (HB.out _ _ _ _).mono ?_; (first | rw [b1] | rw [b2]); rintro r w2 ⟨rfl, rfl⟩)
              go_ret
              refine ⟨ret_i ?_, (((Below.refl _ _).alloc (Nat.le_refl _) _).trans (hbel.mono (by omega))).alloc (by omega) _⟩
              rw [HE.out, HS.out, HD.out, spOk_no _ (by omega)]
              rfl
            · have b1 : (decide (0 ≤ y) && decide (y ≤ size - 1)) = false := by simp; omega
              have b2 := b1
              go_wp2_with (go_at_call 19; with_reducible refine (HB.out _ _ _ _).mono ?_; (first | rw [b1] | rw [b2]); rintro r w2 ⟨rfl, rfl⟩)
              go_ret
              refine ⟨ret_i ?_, (((Below.refl _ _).alloc (Nat.le_refl _) _).trans (hbel.mono (by omega))).alloc (by omega) _⟩
              rw [HE.out, HS.out, HD.out, spOk_no _ (by omega)]
              rfl
          | succ j =>
            have hj : j < l.length := by omega
            obtain ⟨b', off', he, hb', hc1, hc2⟩ := Reads.pair HR.out j hj
            simp only [Option.some.injEq, Addr.mk.injEq, and_true] at he
            obtain ⟨rfl, rfl⟩ := he
            have g1 : wr.cell? ⟨b, off + j * 2, none⟩ = some (.int .i64 l[j].1) := (hbel.cell (p := ⟨b, off + j * 2, none⟩) (by simp; omega)).trans ((World.cell?_alloc_lt _ _ _ hb).trans hc1)
            have g2 : wr.cell? ⟨b, off + j * 2 + 1, none⟩ = some (.int .i64 l[j].2) := (hbel.cell (p := ⟨b, off + j * 2 + 1, none⟩) (by simp; omega)).trans ((World.cell?_alloc_lt _ _ _ hb).trans hc2)
            clear hc1 hc2 hb'
            have hp2 := hl l[j] (List.getElem_mem hj)
            unfold I64 at hp2
            have he2 : endAt l (j + 1) = l[j].1 + l[j].2 := by simp [endAt, List.getD_eq_getElem?_getD, List.getElem?_eq_getElem hj]
            have hx2 := hx
            rw [he2] at hx2
            have HE2 := Lib.hid he2
            clear he2 hx hl
            generalize l[j] = q at *
            obtain ⟨u, v⟩ := q
            generalize l[j + 1] = p at *
            obtain ⟨y, z⟩ := p
            obtain hg | ⟨hg, hf⟩ | hg : ((0 ≤ y ∧ y ≤ size - 1) ∧ (1 ≤ z ∧ z ≤ size - y)) ∨ ((0 ≤ y ∧ y ≤ size - 1) ∧ ¬ (1 ≤ z ∧ z ≤ size - y)) ∨ ¬ (0 ≤ y ∧ y ≤ size - 1) := by omega
            · have b1 : (decide (0 ≤ y) && decide (y ≤ size - 1)) = true := by simp; omega
              have b2 : (decide (1 ≤ z) && decide (z ≤ size - y)) = true := by simp; omega
              by_cases hq : u + v ≤ y
              · go_wp2_with (go_at_call 19; with_reducible refine (HB.out _ _ _ _).mono ?_; (first | rw [b1] | rw [b2]); rintro r w2 ⟨rfl, rfl⟩)
                go_quiet (fail)
                go_wp2_with fail
                go_roundw
                case rel =>
                  refine ⟨j + 1 + 1, by omega, by go_num, by rw [HN.out]; show 0 ≤ y + z ∧ y + z ≤ 65536; omega, Lib.hid ?_, (hbel.alloc (by omega) _).trans (below_drewN _ _ _)⟩
                  rw [HN.out, HS.out, HE2.out, HD.out, spOk_yes _ (by omega)]
                case measure => simp [intOf]; omega
              · go_wp2_with (go_at_call 19; with_reducible refine (HB.out _ _ _ _).mono ?_; (first | rw [b1] | rw [b2]); rintro r w2 ⟨rfl, rfl⟩)
                go_quiet (fail)
                go_wp2_with fail
                go_ret
                refine ⟨ret_i ?_, ((((Below.refl _ _).alloc (Nat.le_refl _) _).trans (hbel.mono (by omega))).alloc (by omega) _).trans (below_drewN _ _ _)⟩
                rw [HE.out, HS.out, HE2.out, HD.out, spOk_no _ (by omega)]
                rfl
            · have b1 : (decide (0 ≤ y) && decide (y ≤ size - 1)) = true := by simp; omega
              have b2 : (decide (1 ≤ z) && decide (z ≤ size - y)) = false := by simp; omega
              go_wp2_with (go_at_call 19; with_reducible refine (HB.out _ _ _ _).mono ?_; (first | rw [b1] | rw [b2]); rintro r w2 ⟨rfl, rfl⟩)
              go_ret
              refine ⟨ret_i ?_, (((Below.refl _ _).alloc (Nat.le_refl _) _).trans (hbel.mono (by omega))).alloc (by omega) _⟩
              rw [HE.out, HS.out, HE2.out, HD.out, spOk_no _ (by omega)]
              rfl
            · have b1 : (decide (0 ≤ y) && decide (y ≤ size - 1)) = false := by simp; omega
              have b2 := b1
              go_wp2_with (go_at_call 19; with_reducible refine (HB.out _ _ _ _).mono ?_; (first | rw [b1] | rw [b2]); rintro r w2 ⟨rfl, rfl⟩)
              go_ret
              refine ⟨ret_i ?_, (((Below.refl _ _).alloc (Nat.le_refl _) _).trans (hbel.mono (by omega))).alloc (by omega) _⟩
              rw [HE.out, HS.out, HE2.out, HD.out, spOk_no _ (by omega)]
              rfl
        · obtain rfl : k = l.length := by omega
          go_wp2_with fail
          go_ret
          refine ⟨ret_i ?_, (((Below.refl _ _).alloc (Nat.le_refl _) _).trans (hbel.mono (by omega)))⟩
          rw [HE.out, HS.out, List.drop_length]
          rfl
end Go.Proofs.Ytkhfbleldchnpaa
