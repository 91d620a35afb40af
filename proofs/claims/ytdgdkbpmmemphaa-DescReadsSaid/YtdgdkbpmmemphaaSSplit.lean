/- The law DescSplits, in plain Lean. -/
import Derived.Test.YtdgdkbpmmemphaaFdr
import Derived.Test.YtdgdkbpmmemphaaAm23
namespace Go.Proofs.Ytdgdkbpmmemphaa
open Go Go.RowKit
set_option linter.unusedVariables false

/-- the length that a piece tells -/
def hd (s : List UInt8) : Nat := (s.getD 0 0).toNat
def spl : Nat → List UInt8 → Int × List (List UInt8)
  | 0, _ => (0, [])
  | f + 1, s =>
    if s = [] then (0, [])
    else if hd s < 2 then (4, [])
    else if s.length < hd s then (3, [])
    else if (spl f (s.drop (hd s))).1 = 0 then (0, s.take (hd s) :: (spl f (s.drop (hd s))).2) else ((spl f (s.drop (hd s))).1, [])
theorem spl_nil (f : Nat) : spl f [] = (0, []) := by cases f <;> rfl
theorem hd_lt (s : List UInt8) : hd s < 256 := (s.getD 0 0).toNat_lt
theorem spl_len : ∀ (f : Nat) (s : List UInt8), (spl f s).2.length ≤ s.length
  | 0, s => Nat.zero_le _
  | f + 1, s => by
    unfold spl
    split
    · exact Nat.zero_le _
    · split
      · exact Nat.zero_le _
      · split
        · exact Nat.zero_le _
        · split
          · have := spl_len f (s.drop (hd s))
            simp only [List.length_cons]
            rw [List.length_drop] at this
            omega
          · exact Nat.zero_le _
theorem f26_loop (n : Nat) : ∀ (f : Nat) (s : List UInt8) (acc : List (List UInt8)) (m : Nat), s.length ≤ f → s.length ≤ 512 → acc.length + s.length ≤ 512 → f < m →
    loopF (F30_l2 n) m (s, acc) = some (if (spl f s).1 = 0 then (0, acc ++ (spl f s).2) else ((spl f s).1, []))
  | f, s, acc, 0, _, _, _, hm => by omega
  | f, s, acc, m + 1, hf, h5, ha, hm => by
    by_cases hs : s = []
    · subst hs
      rw [spl_nil]
      simp [loopF, F30_l2]
    · have hl : 0 < s.length := List.length_pos_iff.2 hs
      cases f with
      | zero => omega
      | succ f =>
        have hh := hd_lt s
        have hw : IntKind.wrap .i64 ((((s.getD 0 0).toNat : Nat) : Int)) = (hd s : Int) := w64 (by unfold hd at hh; omega) (by unfold hd at hh; omega)
        have e0 : (s == ([] : List UInt8)) = false := by simpa using hs
        simp only [loopF, F30_l2, hw, e0, Bool.not_false, cond_true]
        rw [inb_true (by omega) (by omega)]
        simp only [cond_true]
        unfold spl
        rw [if_neg hs]
        by_cases h1 : hd s < 2
        · rw [decide_eq_true (by omega : (hd s : Int) < 2), if_pos h1]; rfl
        · rw [decide_eq_false (by omega : ¬ (hd s : Int) < 2), if_neg h1]
          by_cases h2 : s.length < hd s
          · rw [decide_eq_true (by omega : (hd s : Int) > (s.length : Nat)), if_pos h2]; rfl
          · rw [decide_eq_false (by omega : ¬ (hd s : Int) > (s.length : Nat)), if_neg h2]
            have k1 : subB s.length none (some (hd s : Int)) = true := by simp [subB]; omega
            have k2 : subB s.length (some (hd s : Int)) none = true := by simp [subB]; omega
            have k3 : acc.length + [s.take ((hd s : Int)).toNat].length ≤ 8796093022208 := by simp; omega
            rw [k1, k2, decide_eq_true k3]
            simp only [cond_true, cond_false, Int.toNat_natCast]
            rw [f26_loop n f (s.drop (hd s)) (acc ++ [s.take (hd s)]) m (by rw [List.length_drop]; omega) (by rw [List.length_drop]; omega) (by rw [List.length_drop]; simp; omega) (by omega)]
            by_cases h3 : (spl f (s.drop (hd s))).1 = 0
            · simp [h3]
            · simp [h3]
/-- where the pieces begin -/
def sts : Nat → Nat → List UInt8 → List Int
  | 0, _, _ => []
  | f + 1, p, s => if s = [] then [] else (p : Int) :: sts f (p + hd s) (s.drop (hd s))
theorem sts_len : ∀ (f p : Nat) (s : List UInt8), (spl f s).1 = 0 → (sts f p s).length ≤ s.length
  | 0, p, s, _ => Nat.zero_le _
  | f + 1, p, s, h => by
    unfold sts
    split
    · exact Nat.zero_le _
    · rename_i hs
      unfold spl at h
      rw [if_neg hs] at h
      split at h
      · cases h
      · split at h
        · cases h
        · split at h
          · rename_i h3
            have := sts_len f (p + hd s) (s.drop (hd s)) h3
            rw [List.length_drop] at this
            simp only [List.length_cons]
            omega
          · rename_i h3; exact absurd h h3
theorem f27_two (n : Nat) (s : List UInt8) (hs5 : s.length ≤ 512) : ∀ (f p : Nat) (M0 : List Int) (acc : List (List UInt8)) (m : Nat), s.length - p ≤ f → p ≤ s.length → (spl f (s.drop p)).1 = 0 → M0.length + (s.length - p) ≤ 512 → acc.length = M0.length → f < m →
    loopF (F33_l25 n s (M0 ++ sts f p (s.drop p))) m ((M0.length : Int), acc) = some (0, acc ++ (spl f (s.drop p)).2)
  | f, p, M0, acc, 0, _, _, _, _, _, hm => by omega
  | f, p, M0, acc, m + 1, hf, hp, h0, hM, hacc, hm => by
    by_cases hr : s.drop p = []
    · rw [hr, spl_nil]
      have e : sts f p [] = [] := by cases f <;> simp [sts]
      rw [e, List.append_nil]
      simp [loopF, F33_l25]
    · have hlt : p < s.length := by
        rcases Nat.lt_or_ge p s.length with h | h
        · exact h
        · exact absurd (List.drop_eq_nil_of_le h) hr
      cases f with
      | zero => omega
      | succ f =>
        have hh := hd_lt (s.drop p)
        have hrl : (s.drop p).length = s.length - p := List.length_drop ..
        have hdd : (s.drop p).drop (hd (s.drop p)) = s.drop (p + hd (s.drop p)) := by rw [List.drop_drop]
        have hst : sts (f + 1) p (s.drop p) = (p : Int) :: sts f (p + hd (s.drop p)) (s.drop (p + hd (s.drop p))) := by
          rw [sts, if_neg hr, hdd]
        rw [hst]
        unfold spl at h0 ⊢
        rw [if_neg hr] at h0 ⊢
        split at h0
        · cases h0
        rename_i h1
        split at h0
        · cases h0
        rename_i h2
        rw [hdd] at h0
        split at h0
        case isFalse => rename_i h3; exact absurd h0 h3
        rename_i h3
        rw [if_neg h1, if_neg h2, hdd, if_pos h3]
        generalize hk : hd (s.drop p) = k at *
        have hlen := sts_len f (p + k) (s.drop (p + k)) h3
        rw [List.length_drop] at hlen
        generalize hT : sts f (p + k) (s.drop (p + k)) = T at *
        have hMl : (M0 ++ (p : Int) :: T).length = M0.length + 1 + T.length := by simp; omega
        have hx : ((M0.length : Int)) < (((M0 ++ (p : Int) :: T).length : Nat) : Int) := by rw [hMl]; omega
        have hw : IntKind.wrap .i64 ((M0.length : Int) + 1) = (M0.length : Int) + 1 := w64 (by omega) (by omega)
        have hg : (M0 ++ (p : Int) :: T).getD (M0.length : Int).toNat 0 = (p : Int) := by
          simp [List.getD_eq_getElem?_getD]
        have hrec := f27_two n s hs5 f (p + k) (M0 ++ [(p : Int)]) (acc ++ [(s.drop p).take k]) m (by omega) (by omega) h3 (by simp; omega) (by simp [hacc]) (by omega)
        rw [hT] at hrec
        have e1 : M0 ++ [(p : Int)] ++ T = M0 ++ (p : Int) :: T := by simp
        have e2 : (((M0 ++ [(p : Int)]).length : Nat) : Int) = (M0.length : Int) + 1 := by simp
        rw [e1, e2] at hrec
        have hj : F33_j26 n (loopF (F33_l25 n s (M0 ++ (p : Int) :: T)) m) s (M0 ++ (p : Int) :: T) (M0.length : Int) acc ((p + k : Nat) : Int) = some (0, acc ++ (s.drop p).take k :: (spl f (s.drop (p + k))).2) := by
          simp only [F33_j26, hg, hw]
          have k1 : subB s.length (some (p : Int)) (some ((p + k : Nat) : Int)) = true := by simp [subB]; omega
          have e3 : ((s.take ((p + k : Nat) : Int).toNat).drop (p : Int).toNat) = (s.drop p).take k := by
            rw [Int.toNat_natCast, Int.toNat_natCast, List.drop_take]
            congr 1; omega
          have k3 : acc.length + [(s.drop p).take k].length ≤ 8796093022208 := by simp; omega
          rw [k1, e3, decide_eq_true k3]
          simp only [cond_true]
          rw [hrec]
          simp
        simp only [loopF, F33_l25, hw]
        rw [decide_eq_true hx, inb_true (by omega) hx]
        simp only [cond_true]
        by_cases hT0 : T = []
        · subst hT0
          have hend : p + k = s.length := by
            cases f with
            | zero => omega
            | succ f =>
              unfold sts at hT
              split at hT
              · rename_i h4
                have := List.drop_eq_nil_iff.1 h4
                omega
              · cases hT
          rw [decide_eq_false (by rw [hMl]; simp), ← hend]
          exact hj
        · have hTl : 0 < T.length := List.length_pos_iff.2 hT0
          have hx2 : ((M0.length : Int)) + 1 < (((M0 ++ (p : Int) :: T).length : Nat) : Int) := by rw [hMl]; omega
          rw [decide_eq_true hx2, inb_true (by omega) hx2]
          simp only [cond_true]
          have hgT : (M0 ++ (p : Int) :: T).getD ((M0.length : Int) + 1).toNat 0 = ((p + k : Nat) : Int) := by
            have e5 : ((M0.length : Int) + 1).toNat = M0.length + 1 := by omega
            rw [e5]
            cases f with
            | zero => simp [sts] at hT; exact absurd hT hT0
            | succ f =>
              unfold sts at hT
              split at hT
              · exact absurd hT.symm hT0
              · subst hT
                simp [List.getD_eq_getElem?_getD]
          rw [hgT]
          exact hj
theorem f27_one (n : Nat) (s : List UInt8) (hs5 : s.length ≤ 512) (hn : 513 < n) : ∀ (f p : Nat) (M0 : List Int) (m : Nat), s.length - p ≤ f → p ≤ s.length → M0.length ≤ p → f < m → f ≤ 512 →
    loopF (F33_l22 n s) m ((p : Int), M0) = if (spl f (s.drop p)).1 = 0 then loopF (F33_l25 n s (M0 ++ sts f p (s.drop p))) n ((0 : Int), []) else some ((spl f (s.drop p)).1, [])
  | f, p, M0, 0, _, _, _, hm, _ => by omega
  | f, p, M0, m + 1, hf, hp, hM, hm, hf5 => by
    by_cases hr : s.drop p = []
    · have hpl : s.length ≤ p := List.drop_eq_nil_iff.1 hr
      rw [hr, spl_nil]
      have e : sts f p [] = [] := by cases f <;> simp [sts]
      rw [e, List.append_nil]
      simp only [loopF, F33_l22]
      rw [decide_eq_false (by omega : ¬ (p : Int) < (s.length : Nat))]
      rfl
    · have hlt : p < s.length := by
        rcases Nat.lt_or_ge p s.length with h | h
        · exact h
        · exact absurd (List.drop_eq_nil_of_le h) hr
      cases f with
      | zero => omega
      | succ f =>
        have hh := hd_lt (s.drop p)
        have hrl : (s.drop p).length = s.length - p := List.length_drop ..
        have hdd : (s.drop p).drop (hd (s.drop p)) = s.drop (p + hd (s.drop p)) := by rw [List.drop_drop]
        have hhd : (((s.getD (p : Int).toNat 0).toNat : Nat) : Int) = (hd (s.drop p) : Int) := by
          unfold hd
          simp [List.getD_eq_getElem?_getD]
        simp only [loopF, F33_l22]
        rw [decide_eq_true (by omega : (p : Int) < (s.length : Nat)), inb_true (by omega) (by omega), hhd]
        unfold spl sts
        rw [if_neg hr, if_neg hr, hdd]
        generalize hk : hd (s.drop p) = k at *
        rw [w64 (n := (k : Int)) (by omega) (by omega), w64 (n := ((s.length : Nat) : Int) - (p : Int)) (by omega) (by omega)]
        simp only [cond_true]
        by_cases h1 : k < 2
        · rw [decide_eq_true (by omega : (k : Int) < 2), if_pos h1]; rfl
        · rw [decide_eq_false (by omega : ¬ (k : Int) < 2), if_neg h1]
          by_cases h2 : (s.drop p).length < k
          · rw [decide_eq_true (by omega : ((s.length : Nat) : Int) - (p : Int) < (k : Int)), if_pos h2]; rfl
          · rw [decide_eq_false (by omega : ¬ ((s.length : Nat) : Int) - (p : Int) < (k : Int)), if_neg h2]
            have k3 : M0.length + [(p : Int)].length ≤ 17592186044416 := by simp; omega
            rw [decide_eq_true k3, w64 (n := (p : Int) + (k : Int)) (by omega) (by omega)]
            simp only [cond_true, cond_false]
            have e6 : (p : Int) + (k : Int) = ((p + k : Nat) : Int) := by omega
            rw [e6, f27_one n s hs5 hn f (p + k) (M0 ++ [(p : Int)]) m (by omega) (by omega) (by simp; omega) (by omega) (by omega)]
            by_cases h3 : (spl f (s.drop (p + k))).1 = 0
            · simp [h3]
            · simp [h3]
end Go.Proofs.Ytdgdkbpmmemphaa
