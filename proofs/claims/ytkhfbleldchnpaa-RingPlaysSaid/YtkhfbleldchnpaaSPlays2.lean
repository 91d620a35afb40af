/- The law RingPlays, in plain Lean (second part). -/
import Derived.Test.YtkhfbleldchnpaaSPlays
namespace Go.Proofs.Ytkhfbleldchnpaa
open Go Go.RowKit
open Classical
set_option linter.unusedVariables false

theorem cpy (n : Nat) (c : Cells) (hl : c.length ≤ 1000) (a b d e f : Int) : F77 n c a b d e f = some (a, b, d, e, f, c) := by
  unfold F77 F95
  rw [List.nil_append, decide_eq_true (show ([] : Cells).length + c.length ≤ 17179869184 by simp; omega)]; rfl
section
variable {P : Nat} {all : List Int} {c : Cells}
theorem putP (n : Nat) (hn : 100 < n) (hP : 2 ≤ P) (hP2 : P ≤ 63) (h : RingSt P all c) (got seen : Nat) (h1 : seen ≤ got) (h2 : got ≤ all.length) (h3 : all.length ≤ seen + (P - 1)) (w : Int) :
    F34 n c (markP P all.length).1 (markP P all.length).2 (markP P got).1 (markP P got).2 ((seen % P : Nat) : Int) w =
      if all.length < seen + (P - 1) then some ((markP P (all.length + 1)).1, (markP P (all.length + 1)).2, (markP P got).1, (markP P got).2, ((seen % P : Nat) : Int), 0, (if all.length % P + 1 = P then (c.set (all.length % P) (w, bitK P all.length, false)).set P (0, bitK P all.length, true) else c.set (all.length % P) (w, bitK P all.length, false)))
      else some (0, 0, 0, 0, 0, 11, []) := by
  have hl := h.1
  have hm := Nat.mod_lt all.length (show 0 < P by omega)
  unfold F34
  rw [g36 n hn, good_ring hP hP2 h, hl, adv n P all.length hP hP2, cpy n c (by omega)]
  simp only [Option.bind_some, bne_self_eq_false, cond_false]
  have full : (all.length + 1) % P = seen % P ↔ all.length = seen + (P - 1) := by
    constructor
    · intro e
      have := mod_shift seen (all.length + 1) P (by omega) e.symm (by omega)
      omega
    · intro e
      rw [e, show seen + (P - 1) + 1 = seen + P by omega, Nat.add_mod_right]
  by_cases q : all.length < seen + (P - 1)
  · rw [if_pos q]
    have e1 : ((markP P (all.length + 1)).1 == ((seen % P : Nat) : Int)) = false := by
      rw [beq_eq_false_iff_ne]
      show ((((all.length + 1) % P : Nat)) : Int) ≠ _
      intro e
      have := full.1 (by omega)
      omega
    rw [e1]
    have e2 : (markP P all.length).1 = ((all.length % P : Nat) : Int) := rfl
    have e3 : (markP P all.length).2 = bitK P all.length := rfl
    have eP : ∀ v, (c.set (all.length % P) v).getD (all.length % P) (0, (0, false)) = v := fun v => by
      have := cset c (all.length % P) (all.length % P) v (by omega)
      rwa [if_pos rfl] at this
    have eL : ∀ v, (c.set (all.length % P) v).getD P (0, (0, false)) = (0, ((all.length / P % 2 : Nat) : Int), true) := fun v => by
      have := cset c (all.length % P) P v (by omega)
      rw [if_neg (by omega), h.2.2] at this
      exact this
    have eO : (c.getD (all.length % P) (0, (0, false))).2.2 = false := by
      by_cases q2 : all.length % P < all.length
      · obtain ⟨k, _, _, _, e⟩ := (h.2.1 _ hm).1 q2
        have e' : c.getD (all.length % P) (0, (0, false)) = _ := e
        rw [e']
      · have e' : c.getD (all.length % P) (0, (0, false)) = _ := (h.2.1 _ hm).2 (by omega)
        rw [e']
    have eW : (IntKind.wrap .i64 (((P + 1 : Nat) : Int) - 1)).toNat = P := by rw [w64 (by omega) (by omega)]; omega
    have eV : IntKind.wrap .i64 (((P + 1 : Nat) : Int) - 2) = ((P - 1 : Nat) : Int) := by rw [w64 (by omega) (by omega)]; omega
    simp only [e2, e3, cond_false, Int.toNat_natCast, List.length_set, hl, eP, List.set_set, eO, eV]
    rw [inb_true (show (0 : Int) ≤ (all.length % P : Nat) by omega) (show ((all.length % P : Nat) : Int) < (P + 1 : Nat) by omega)]
    simp only [cond_true]
    by_cases q2 : all.length % P + 1 = P
    · rw [if_pos q2, show (((all.length % P : Nat) : Int) == ((P - 1 : Nat) : Int)) = true by rw [beq_iff_eq]; omega]
      have eW2 : IntKind.wrap .i64 (((P + 1 : Nat) : Int) - 1) = (P : Int) := by rw [w64 (by omega) (by omega)]; omega
      simp only [eW2, Int.toNat_natCast, eL, cond_true]
      rw [inb_true (show (0 : Int) ≤ P by omega) (show (P : Int) < (P + 1 : Nat) by omega)]
      rfl
    · rw [if_neg q2, show (((all.length % P : Nat) : Int) == ((P - 1 : Nat) : Int)) = false by rw [beq_eq_false_iff_ne]; omega]
      rfl
  · rw [if_neg q]
    have e1 : ((markP P (all.length + 1)).1 == ((seen % P : Nat) : Int)) = true := by
      rw [beq_iff_eq]
      show ((((all.length + 1) % P : Nat)) : Int) = _
      have := full.2 (by omega)
      omega
    rw [e1]; rfl
theorem getP (n : Nat) (hn : 100 < n) (hP : 2 ≤ P) (hP2 : P ≤ 63) (h : RingSt P all c) (got seen : Nat) (h1 : seen ≤ got) (h2 : got ≤ all.length) (h3 : all.length ≤ seen + (P - 1)) :
    F39 n c (markP P all.length).1 (markP P all.length).2 (markP P got).1 (markP P got).2 ((seen % P : Nat) : Int) =
      if got < all.length then some ((markP P all.length).1, (markP P all.length).2, (markP P (got + 1)).1, (markP P (got + 1)).2, ((seen % P : Nat) : Int), all.getD got 0, true, 0, c)
      else some ((markP P all.length).1, (markP P all.length).2, (markP P got).1, (markP P got).2, ((seen % P : Nat) : Int), 0, false, 0, c) := by
  have hl := h.1
  have hm := Nat.mod_lt got (show 0 < P by omega)
  unfold F39
  rw [g36 n hn, good_ring hP hP2 h, cpy n c (by omega)]
  simp only [Option.bind_some, bne_self_eq_false, cond_false]
  rw [hl, adv n P got hP hP2]
  have e2 : (markP P got).1 = ((got % P : Nat) : Int) := rfl
  have e3 : (markP P got).2 = bitK P got := rfl
  simp only [e2, e3, Int.toNat_natCast, Option.bind_some]
  rw [inb_true (show (0 : Int) ≤ (got % P : Nat) by omega) (show ((got % P : Nat) : Int) < (P + 1 : Nat) by omega)]
  simp only [cond_true]
  by_cases q : got < all.length
  · rw [if_pos q]
    obtain ⟨k, a1, a2, a3, e⟩ := (h.2.1 _ hm).1 (by
      by_cases q2 : got < P
      · rw [Nat.mod_eq_of_lt q2]; exact q
      · omega)
    obtain rfl : k = got := same_res k got P a3 (by omega) (by omega)
    have e' : c.getD (k % P) (0, (0, false)) = _ := e
    rw [e']
    simp only [bne_self_eq_false, cond_false]
  · rw [if_neg q]
    obtain rfl : got = all.length := by omega
    have nb : (c.getD (all.length % P) (0, (0, false))).2.1 ≠ bitK P all.length := by
      by_cases q2 : all.length % P < all.length
      · obtain ⟨k, a1, a2, a3, e⟩ := (h.2.1 _ hm).1 q2
        have e' : c.getD (all.length % P) (0, (0, false)) = _ := e
        rw [e']
        have hk : all.length = k + P := by
          have := mod_shift k all.length P (by omega) a3 a1
          omega
        show bitK P k ≠ bitK P all.length
        unfold bitK
        rw [hk, Nat.add_div_right _ (by omega)]
        omega
      · have e' : c.getD (all.length % P) (0, (0, false)) = _ := (h.2.1 _ hm).2 (by omega)
        rw [e']
        have : all.length < P := by
          have := Nat.mod_le all.length P
          omega
        show (0 : Int) ≠ bitK P all.length
        unfold bitK
        rw [Nat.div_eq_of_lt this]; decide
    rw [show ((c.getD (all.length % P) (0, (0, false))).2.1 != bitK P all.length) = true by rw [bne_iff_ne]; exact nb]
    rfl
theorem learnP (n : Nat) (hn : 100 < n) (hP : 2 ≤ P) (hP2 : P ≤ 63) (h : RingSt P all c) (got seen : Nat) :
    F40 n c (markP P all.length).1 (markP P all.length).2 (markP P got).1 (markP P got).2 ((seen % P : Nat) : Int) = some ((markP P all.length).1, (markP P all.length).2, (markP P got).1, (markP P got).2, ((got % P : Nat) : Int), 0, c) := by
  have hl := h.1
  unfold F40
  rw [g36 n hn, good_ring hP hP2 h, cpy n c (by omega)]
  rfl
end
theorem f81 (n P k : Nat) (hP : 0 < P) (hP2 : P ≤ 63) (hk : k ≤ 5000) : F81 n (k : Int) (P : Int) = some (markP P k) := by
  unfold F81 markP bitK
  have h1 : k / P ≤ k := Nat.div_le_self _ _
  rw [show ((P : Int) != 0) = true by rw [bne_iff_ne]; omega, Int.tmod_eq_emod_of_nonneg (by omega), Int.tdiv_eq_ediv_of_nonneg (by omega)]
  have e1 : (k : Int) / (P : Int) = ((k / P : Nat) : Int) := by simp
  rw [e1]
  generalize k / P = q at *
  rw [w64 (n := (q : Int)) (by omega) (by omega), w64 (by omega) (by omega), Int.tmod_eq_emod_of_nonneg (by omega)]
  have e2 : (k : Int) % (P : Int) = ((k % P : Nat) : Int) := by simp
  have e3 : ((q : Int) + 1) % 2 = (((q + 1) % 2 : Nat) : Int) := by simp
  rw [e2, e3]; rfl
end Go.Proofs.Ytkhfbleldchnpaa
