/- The law ReportItems, in plain Lean (second part: items are read). -/
import Derived.Test.YtgcdohclbkmmdaaSItems
namespace Go.Proofs.Ytgcdohclbkmmdaa
open Go Go.RowKit
set_option linter.unusedVariables false

def il (b : UInt8) : Nat := if b.toNat % 4 = 3 then 4 else b.toNat % 4
theorem il_or (b : UInt8) : il b = 0 ∨ il b = 1 ∨ il b = 2 ∨ il b = 4 := by
  unfold il
  by_cases h : b.toNat % 4 = 3
  · rw [if_pos h]; omega
  · rw [if_neg h]; omega
theorem itemLong (n : Nat) (b : UInt8) : F92 n ((b.toNat : Nat) : Int) = some ((il b : Nat) : Int) := by
  unfold F92
  have e : ((b.toNat : Nat) : Int).tmod 4 = ((b.toNat % 4 : Nat) : Int) := by rw [Int.tmod_eq_emod_of_nonneg (by omega)]; simp
  rw [e, inb_true (by omega) (by simp; omega), Int.toNat_natCast]
  have h : b.toNat % 4 = 0 ∨ b.toNat % 4 = 1 ∨ b.toNat % 4 = 2 ∨ b.toNat % 4 = 3 := by omega
  unfold il
  rcases h with h | h | h | h <;> rw [h] <;> rfl
theorem kindB (b : UInt8) : IntKind.wrap .i64 (shrI .u8 ((b.toNat : Nat) : Int) 2) = ((b.toNat : Nat) : Int) / 4 := by
  have h := b.toNat_lt
  have e := shr_div .u8 ((b.toNat : Nat) : Int) 2 (by decide)
  rw [show ((2 : Nat) : Int) = 2 from rfl] at e
  rw [e, show (2 : Int) ^ 2 = 4 by decide, w64 (by omega) (by omega)]
theorem word (n : Nat) (hn : 100 < n) (K : (List UInt8) × (List (Int × Int)) → Option (Int × (List (Int × Int)))) (s : List UInt8) (m0 : List (Int × Int)) (k : Nat) (hk : k = 0 ∨ k = 1 ∨ k = 2 ∨ k = 4) (hs : k + 1 ≤ s.length) (hl : s.length ≤ 512) (hm : m0.length ≤ 1000) :
    loopF (F41_l14 n K s m0 (k : Int)) n (0, (k : Int)) = K (s.drop (k + 1), m0 ++ [(((s.getD 0 0).toNat : Int) / 4, sgn ((s.take (k + 1)).drop 1))]) := by
  refine loopF_eq (F41_l14 n K s m0 (k : Int)) (fun _ => K (s.drop (k + 1), m0 ++ [(((s.getD 0 0).toNat : Int) / 4, sgn ((s.take (k + 1)).drop 1))])) (fun d => ∃ j : Nat, d = ((leV ((s.take (k + 1)).drop (j + 1)) : Int), (j : Int)) ∧ j ≤ k) (fun d => d.2.toNat) ?_ n _ ⟨k, ?_, Nat.le_refl k⟩ (by simp; omega)
  · rintro kk d ⟨j, rfl, hj⟩ ih
    have hlen : (s.take (k + 1)).length = k + 1 := by rw [List.length_take]; omega
    simp only [F41_l14, Int.toNat_natCast]
    by_cases h : 0 < j
    · have hb := (s.getD j 0).toNat_lt
      have hv := leV_lt ((s.take (k + 1)).drop (j + 1))
      rw [List.length_drop, hlen] at hv
      have h4 : 256 ^ (k + 1 - (j + 1)) ≤ 256 ^ 3 := Nat.pow_le_pow_right (by omega) (by omega)
      have e1 : (s.take (k + 1)).drop j = s.getD j 0 :: (s.take (k + 1)).drop (j + 1) := by
        rw [List.drop_eq_getElem_cons (by omega)]
        congr 1
        rw [List.getElem_take, List.getD_eq_getElem?_getD, List.getElem?_eq_getElem (by omega : j < s.length)]; rfl
      have e2 : leV ((s.take (k + 1)).drop j) = (s.getD j 0).toNat + 256 * leV ((s.take (k + 1)).drop (j + 1)) := by rw [e1]; rfl
      have hsh := shl' (leV ((s.take (k + 1)).drop (j + 1)) : Int) 8 256 (by decide) (by decide)
      rw [show ((8 : Nat) : Int) = 8 from rfl] at hsh
      rw [decide_eq_true (show (j : Int) > 0 by omega), inb_true (show (0 : Int) ≤ j by omega) (show (j : Int) < (s.length : Nat) by omega), w64 (n := (j : Int) - 1) (by omega) (by omega), hsh]
      simp only [cond_true]
      generalize hV : leV ((s.take (k + 1)).drop (j + 1)) = v at *
      generalize hB : (s.getD j 0).toNat = b at *
      have e3 : IntKind.wrap .u64 ((v : Int) * 256) = ((v * 2 ^ 8 : Nat) : Int) := by rw [u64w]; omega
      have e4 : IntKind.wrap .u64 ((b : Nat) : Int) = ((b : Nat) : Int) := by rw [u64w]; omega
      rw [e3, e4, bOrU _ _ (by omega) (by omega), Nat.or_comm, nat_or_add b v 8 (by omega)]
      refine ih _ ⟨j - 1, ?_, by omega⟩ (by simp only [Int.toNat_natCast]; omega)
      rw [show j - 1 + 1 = j by omega, e2]
      refine Prod.ext ?_ ?_
      · show ((b + v * 2 ^ 8 : Nat) : Int) = ((b + 256 * v : Nat) : Int)
        omega
      · show (j : Int) - 1 = ((j - 1 : Nat) : Int)
        omega
    · obtain rfl : j = 0 := by omega
      rw [decide_eq_false (show ¬ ((0 : Nat) : Int) > 0 by omega)]
      have e5 : IntKind.wrap .i64 ((k : Int) + 1) = ((k + 1 : Nat) : Int) := by rw [w64 (by omega) (by omega)]; omega
      have hn0 : 0 ≤ IntKind.wrap .u64 (IntKind.wrap .i64 (64 - IntKind.wrap .i64 (8 * (k : Int)))) := by rw [u64w]; omega
      have e6 := signP k hk ((s.take (k + 1)).drop 1) (by rw [List.length_drop, hlen]; omega)
      unfold shN at e6
      rw [decide_eq_true hn0, e6, kindB, e5, show subB s.length (some ((k + 1 : Nat) : Int)) none = true by simp [subB]; omega, decide_eq_true (show m0.length + [((((s.getD 0 0).toNat : Nat) : Int) / 4, sgn ((s.take (k + 1)).drop 1))].length ≤ 17179869184 by simp; omega), Int.toNat_natCast]
      rfl
  · have hlen : (s.take (k + 1)).length = k + 1 := by rw [List.length_take]; omega
    rw [List.drop_eq_nil_of_le (by omega)]; rfl
theorem readItems (n : Nat) (hn : 1000 < n) (s : List UInt8) : ∃ r, F41 n s = some r ∧ F42 n s = some r ∧ r.2.length ≤ 1000 := by
  unfold F41 F42
  by_cases hl : 512 < s.length
  · rw [decide_eq_true (show ((s.length : Nat) : Int) > 512 by omega)]
    exact ⟨_, rfl, rfl, by simp⟩
  rw [decide_eq_false (show ¬ ((s.length : Nat) : Int) > 512 by omega)]
  simp only [cond_false]
  obtain ⟨r, r', h1, h2, rfl, h3⟩ := loopF_rel (F41_l12 n) (F42_l2 n s)
    (fun d d' => ∃ (x : Nat) (m0 : List (Int × Int)), d = (s.drop x, m0) ∧ d' = ((x : Int), m0) ∧ x ≤ s.length ∧ m0.length ≤ 200)
    (fun r r' => r = r' ∧ r.2.length ≤ 1000) (fun d => d.1.length) (by
    rintro kk kk' d d' ⟨x, m0, rfl, rfl, hx, hm⟩ ih
    simp only [F41_l12, F42_l2, Int.toNat_natCast]
    by_cases h : x < s.length
    · have hd : s.drop x = s.getD x 0 :: s.drop (x + 1) := by
        rw [List.drop_eq_getElem_cons h, List.getD_eq_getElem?_getD, List.getElem?_eq_getElem h]; rfl
      have hne : ((s.drop x) == []) = false := by rw [hd]; rfl
      have h0 : (s.drop x).getD 0 0 = s.getD x 0 := by rw [hd]; rfl
      have hlen : (s.drop x).length = s.length - x := List.length_drop
      generalize hb : s.getD x 0 = b at *
      have hbt := b.toNat_lt
      rw [decide_eq_true (show (x : Int) < ((s.length : Nat) : Int) by omega), inb_true (show (0 : Int) ≤ x by omega) (show (x : Int) < (s.length : Nat) by omega), hne, inb_true (show (0 : Int) ≤ 0 by omega) (show (0 : Int) < ((s.drop x).length : Nat) by omega), itemLong n b, h0, and3]
      rw [w64 (n := ((b.toNat % 4 : Nat) : Int)) (by omega) (by omega)]
      have hj : (bif ((b.toNat % 4 : Nat) : Int) == 3 then F41_j13 n kk (s.drop x) m0 4 else F41_j13 n kk (s.drop x) m0 ((b.toNat % 4 : Nat) : Int)) = F41_j13 n kk (s.drop x) m0 ((il b : Nat) : Int) := by
        unfold il
        by_cases q : b.toNat % 4 = 3
        · rw [q]; rfl
        · rw [if_neg q, show (((b.toNat % 4 : Nat) : Int) == 3) = false by rw [beq_eq_false_iff_ne]; omega]; rfl
      simp only [Bool.not_false, cond_true, Option.bind_some]
      rw [hj]
      have hil := il_or b
      generalize il b = k at *
      simp only [F41_j13]
      rw [hlen, w64 (n := (k : Int) + 1) (by omega) (by omega), w64 (n := (x : Int) + (k : Int)) (by omega) (by omega)]
      by_cases q : s.length - x < k + 1
      · rw [decide_eq_true (show ((s.length - x : Nat) : Int) < (k : Int) + 1 by omega), decide_eq_true (show (x : Int) + (k : Int) ≥ ((s.length : Nat) : Int) by omega)]
        exact ⟨_, _, rfl, rfl, rfl, by simp⟩
      rw [decide_eq_false (show ¬ ((s.length - x : Nat) : Int) < (k : Int) + 1 by omega), decide_eq_false (show ¬ (x : Int) + (k : Int) ≥ ((s.length : Nat) : Int) by omega)]
      simp only [cond_false]
      by_cases q2 : m0.length = 200
      · rw [show (((m0.length : Nat) : Int) == 200) = true by rw [beq_iff_eq]; omega, decide_eq_true (show ((m0.length : Nat) : Int) ≥ 200 by omega)]
        exact ⟨_, _, rfl, rfl, rfl, by simp⟩
      rw [show (((m0.length : Nat) : Int) == 200) = false by rw [beq_eq_false_iff_ne]; omega, decide_eq_false (show ¬ ((m0.length : Nat) : Int) ≥ 200 by omega), word n (by omega) kk (s.drop x) m0 k hil (by omega) (by omega) (by omega)]
      have hseg : (s.take (x + 1 + k)).drop (x + 1) = ((s.drop x).take (k + 1)).drop 1 := by
        rw [List.drop_take, List.drop_take, List.drop_drop, show x + 1 + k - (x + 1) = k by omega, show k + 1 - 1 = k by omega]
      have hsl : ((s.take (x + 1 + k)).drop (x + 1)).length ≤ 4 := by rw [List.length_drop, List.length_take]; omega
      rw [w64 (n := (x : Int) + 1) (by omega) (by omega), w64 (n := (x : Int) + 1 + (k : Int)) (by omega) (by omega), w64 (n := 1 + (k : Int)) (by omega) (by omega), w64 (n := (x : Int) + (1 + (k : Int))) (by omega) (by omega), show ((x : Int) + 1 + (k : Int)).toNat = x + 1 + k by omega, show ((x : Int) + 1).toNat = x + 1 by omega, signNum n (by omega) _ hsl, hseg, show subB s.length (some ((x : Int) + 1)) (some ((x : Int) + 1 + (k : Int))) = true by simp [subB]; omega]
      have e4 : IntKind.wrap .i64 ((IntKind.wrap .i64 ((b.toNat : Nat) : Int)).tdiv 4) = ((b.toNat : Nat) : Int) / 4 := by
        rw [w64 (n := ((b.toNat : Nat) : Int)) (by omega) (by omega), Int.tdiv_eq_ediv_of_nonneg (by omega), w64 (by omega) (by omega)]
      rw [e4, h0]
      simp only [cond_false, cond_true, Option.bind_some]
      rw [decide_eq_true (show m0.length + [(((b.toNat : Nat) : Int) / 4, sgn (((s.drop x).take (k + 1)).drop 1))].length ≤ 17179869184 by simp; omega)]
      refine ih _ _ ⟨x + (k + 1), m0 ++ [(((b.toNat : Nat) : Int) / 4, sgn (((s.drop x).take (k + 1)).drop 1))], ?_, ?_, by omega, by simp; omega⟩ ?_
      · rw [List.drop_drop]
      · refine Prod.ext ?_ rfl
        show (x : Int) + (1 + (k : Int)) = ((x + (k + 1) : Nat) : Int)
        omega
      · show ((s.drop x).drop (k + 1)).length < (s.drop x).length
        rw [List.length_drop]; omega
    · obtain rfl : x = s.length := by omega
      rw [decide_eq_false (by omega), List.drop_length]
      exact ⟨_, _, rfl, rfl, rfl, by show m0.length ≤ 1000; omega⟩) n n (s, []) (0, []) ⟨0, [], rfl, rfl, by omega, by simp⟩ (by show s.length < n; omega) (by show s.length < n; omega)
  exact ⟨r, h1, h2, h3⟩
end Go.Proofs.Ytgcdohclbkmmdaa
