/- The law RouteMeets, in plain Lean. -/
import Derived.Test.YtgcdohclbkmmdaaFr
import Derived.Test.YtgcdohclbkmmdaaAm23
namespace Go.Proofs.Ytgcdohclbkmmdaa
open Go Go.RowKit
set_option linter.unusedVariables false

/-- how much two lists have in common at their beginnings -/
def cpl : List Int → List Int → Nat
  | x :: a, y :: b => if x = y then cpl a b + 1 else 0
  | _, _ => 0
theorem cpl_le1 : ∀ a b, cpl a b ≤ a.length
  | [], b => by simp [cpl]
  | x :: a, [] => by simp [cpl]
  | x :: a, y :: b => by
    simp only [cpl, List.length_cons]
    split
    · have := cpl_le1 a b; omega
    · omega
theorem cpl_le2 : ∀ a b, cpl a b ≤ b.length
  | [], b => by simp [cpl]
  | x :: a, [] => by simp [cpl]
  | x :: a, y :: b => by
    simp only [cpl, List.length_cons]
    split
    · have := cpl_le2 a b; omega
    · omega
theorem cpl_in : ∀ (a b : List Int) (k : Nat), k < cpl a b → a.getD k 0 = b.getD k 0
  | [], b, k, h => by simp [cpl] at h
  | x :: a, [], k, h => by simp [cpl] at h
  | x :: a, y :: b, k, h => by
    simp only [cpl] at h
    split at h
    · rename_i e
      subst e
      cases k with
      | zero => rfl
      | succ k => simpa using cpl_in a b k (by omega)
    · omega
theorem cpl_end : ∀ (a b : List Int), cpl a b < a.length → cpl a b < b.length → a.getD (cpl a b) 0 ≠ b.getD (cpl a b) 0
  | [], b, h, _ => by simp at h
  | x :: a, [], _, h => by simp at h
  | x :: a, y :: b, h1, h2 => by
    simp only [cpl, List.length_cons] at h1 h2 ⊢
    split
    · rename_i e
      rw [if_pos e] at h1 h2
      simpa using cpl_end a b (by omega) (by omega)
    · rename_i e
      simpa using e
theorem take_cpl : ∀ (a b : List Int) (k : Nat), k ≤ a.length → k ≤ b.length → (a.take k = b.take k ↔ k ≤ cpl a b)
  | a, b, 0, _, _ => by simp
  | [], b, k + 1, h, _ => by simp at h
  | x :: a, [], k + 1, _, h => by simp at h
  | x :: a, y :: b, k + 1, h1, h2 => by
    simp only [List.take_succ_cons, List.cons.injEq, cpl]
    have := take_cpl a b k (by simpa using h1) (by simpa using h2)
    split
    · rename_i e; simp [e, this]
    · rename_i e; simp [e]
theorem cpl_comm : ∀ a b, cpl a b = cpl b a
  | [], [] => rfl
  | [], y :: b => rfl
  | x :: a, [] => rfl
  | x :: a, y :: b => by
    simp only [cpl]
    rw [cpl_comm a b]
    by_cases h : x = y
    · rw [if_pos h, if_pos h.symm]
    · rw [if_neg h, if_neg (fun e => h e.symm)]
theorem rf78 (n : Nat) (a b : List Int) (ha : a.length ≤ 1000) (hn : 1001 < n) : F78 n a b = some (cpl a b : Int) := by
  have h1 := cpl_le1 a b
  have h2 := cpl_le2 a b
  unfold F78
  obtain ⟨r, e, rfl⟩ := loopF_post (F78_l2 n a b) (fun x => ∃ k : Nat, x = (k : Int) ∧ k ≤ cpl a b) (fun _ r => r = (cpl a b : Int)) (fun x => a.length - x.toNat) (by
    rintro kk x ⟨k, rfl, hk⟩ ih
    simp only [F78_l2, Int.toNat_natCast]
    by_cases hka : k < a.length
    · rw [decide_eq_true (show (k : Int) < (a.length : Int) by omega)]
      by_cases hkb : k < b.length
      · rw [decide_eq_true (show (k : Int) < (b.length : Int) by omega), inb_true (show (0 : Int) ≤ k by omega) (show (k : Int) < a.length by omega), inb_true (show (0 : Int) ≤ k by omega) (show (k : Int) < b.length by omega)]
        simp only [cond_true]
        by_cases hkc : k < cpl a b
        · rw [cpl_in a b k hkc, BEq.rfl, w64 (n := (k : Int) + 1) (by omega) (by omega)]
          exact ih ((k : Int) + 1) ⟨k + 1, by omega, by omega⟩ (by simp only [Int.toNat_natCast]; omega)
        · obtain rfl : k = cpl a b := by omega
          have := cpl_end a b hka hkb
          rw [show (a.getD (cpl a b) 0 == b.getD (cpl a b) 0) = false by simpa using this]
          exact ⟨_, rfl, rfl⟩
      · rw [decide_eq_false (show ¬ (k : Int) < (b.length : Int) by omega)]
        exact ⟨_, rfl, by omega⟩
    · rw [decide_eq_false (show ¬ (k : Int) < (a.length : Int) by omega)]
      exact ⟨_, rfl, by omega⟩) n 0 ⟨0, rfl, by omega⟩ (by omega)
  exact e
/-- slices.Equal of numbers -/
theorem getD_ext {a b : List Int} (hl : a.length = b.length) (h : ∀ k, k < a.length → a.getD k 0 = b.getD k 0) : a = b := by
  apply List.ext_getElem hl
  intro i h1 h2
  have := h i h1
  simpa [List.getD_eq_getElem?_getD, List.getElem?_eq_getElem h1, List.getElem?_eq_getElem h2] using this
theorem rf25 (n : Nat) (a b : List Int) (ha : a.length ≤ 1000) (hn : 1001 < n) : F25 n a b = some (decide (a = b)) := by
  unfold F25
  by_cases hl : a.length = b.length
  · rw [show (((a.length : Nat) : Int) != ((b.length : Nat) : Int)) = false by simp [hl]]
    simp only [cond_false]
    obtain ⟨r, e, h⟩ := loopF_post (F25_l2 n a b) (fun x => ∃ k : Nat, x = (k : Int) ∧ k ≤ a.length ∧ ∀ j, j < k → a.getD j 0 = b.getD j 0) (fun _ r => r = decide (a = b)) (fun x => a.length - x.toNat) (by
      rintro kk x ⟨k, rfl, hk, hall⟩ ih
      simp only [F25_l2, Int.toNat_natCast]
      by_cases hka : k < a.length
      · rw [decide_eq_true (show (k : Int) < (a.length : Int) by omega), inb_true (show (0 : Int) ≤ k by omega) (show (k : Int) < a.length by omega), inb_true (show (0 : Int) ≤ k by omega) (show (k : Int) < b.length by omega)]
        simp only [cond_true]
        by_cases hq : a.getD k 0 = b.getD k 0
        · rw [hq, bne_self_eq_false, w64 (n := (k : Int) + 1) (by omega) (by omega)]
          exact ih ((k : Int) + 1) ⟨k + 1, by omega, by omega, fun j hj => by
            rcases Nat.lt_succ_iff_lt_or_eq.1 hj with h | h
            · exact hall j h
            · rw [h]; exact hq⟩ (by simp only [Int.toNat_natCast]; omega)
        · rw [show (a.getD k 0 != b.getD k 0) = true by simpa using hq]
          refine ⟨_, rfl, ?_⟩
          rw [decide_eq_false]
          intro e; exact hq (by rw [e])
      · rw [decide_eq_false (show ¬ (k : Int) < (a.length : Int) by omega)]
        refine ⟨_, rfl, ?_⟩
        rw [decide_eq_true (getD_ext hl (fun j hj => hall j (by omega)))]) n 0 ⟨0, rfl, by omega, fun j hj => by omega⟩ (by simp; omega)
    rw [e, h]
  · rw [show (((a.length : Nat) : Int) != ((b.length : Nat) : Int)) = true by simpa using fun e : ((a.length : Nat) : Int) = (b.length : Nat) => hl (by omega), decide_eq_false (fun e => hl (by rw [e]))]
    rfl
theorem rf22 (n : Nat) (a b : List Int) (ha : a.length ≤ 1000) (hb : b.length ≤ 1000) (hn : 1001 < n) : F22 n a b = some (a.take (cpl a b)) := by
  have h1 := cpl_le1 a b
  have h2 := cpl_le2 a b
  unfold F22
  obtain ⟨r, e, rfl⟩ := loopF_post (F22_l2 n a b) (fun x => ∃ k : Nat, x = (k : Int) ∧ cpl a b ≤ k ∧ k ≤ a.length ∧ k ≤ b.length) (fun _ r => r = a.take (cpl a b)) (fun x => x.toNat) (by
    rintro kk x ⟨k, rfl, hk, hka, hkb⟩ ih
    simp only [F22_l2, Int.toNat_natCast]
    by_cases h0 : 0 < k
    · have s1 : subB a.length none (some (k : Int)) = true := by simp [subB]; omega
      have s2 : subB b.length none (some (k : Int)) = true := by simp [subB]; omega
      rw [decide_eq_true (show (k : Int) > 0 by omega), s1, s2, rf25 n _ _ (by rw [List.length_take]; omega) hn]
      simp only [cond_true, Option.bind_some]
      by_cases hc : k = cpl a b
      · subst hc
        rw [decide_eq_true ((take_cpl a b _ hka hkb).2 (Nat.le_refl _))]
        exact ⟨_, rfl, rfl⟩
      · rw [decide_eq_false (fun e => hc (Nat.le_antisymm ((take_cpl a b k hka hkb).1 e) hk)), w64 (n := (k : Int) - 1) (by omega) (by omega)]
        exact ih ((k : Int) - 1) ⟨k - 1, by omega, by omega, by omega, by omega⟩ (by simp only [Int.toNat_natCast]; omega)
    · rw [decide_eq_false (show ¬ (k : Int) > 0 by omega)]
      refine ⟨_, rfl, ?_⟩
      rw [show cpl a b = 0 by omega]; rfl) n (if ((b.length : Nat) : Int) < ((a.length : Nat) : Int) then ((b.length : Nat) : Int) else ((a.length : Nat) : Int)) (by
        split
        · exact ⟨b.length, rfl, h2, by omega, by omega⟩
        · exact ⟨a.length, rfl, h1, by omega, by omega⟩) (by split <;> omega)
  exact e
/-- which list comes first -/
def bef : List Int → List Int → Bool
  | _, [] => false
  | [], _ :: _ => true
  | x :: a, y :: b => if x < y then true else if x = y then bef a b else false
def ord : List Int → List Int → Int
  | [], [] => 0
  | [], _ :: _ => -1
  | _ :: _, [] => 1
  | x :: a, y :: b => if x < y then -1 else if x > y then 1 else ord a b
theorem ord_bef : ∀ a b, ord a b = if bef a b then -1 else if bef b a then 1 else 0
  | [], [] => rfl
  | [], _ :: _ => rfl
  | _ :: _, [] => rfl
  | x :: a, y :: b => by
    simp only [ord, bef]
    rw [ord_bef a b]
    by_cases h1 : x < y
    · simp [h1]
    · by_cases h2 : x = y
      · subst h2; simp
      · have h3 : y < x := by omega
        have h4 : ¬ y = x := fun e => h2 e.symm
        simp [h1, h2, h3]
theorem rf23 : ∀ (a b : List Int) (n : Nat), a.length < n → F23 n a b = some (bef a b)
  | a, b, 0, h => by omega
  | a, [], n + 1, h => by cases a <;> simp [F23, bef]
  | [], y :: b, n + 1, h => by
    have e : (((y :: b).length : Nat) : Int) ≠ 0 := by simp; omega
    simp [F23, bef]
    rw [show (((b.length : Int) + 1) == 0) = false by simp; omega]; rfl
  | x :: a, y :: b, n + 1, h => by
    have i1 : inb 0 (x :: a).length = true := inb_true (by omega) (by simp only [List.length_cons]; omega)
    have i2 : inb 0 (y :: b).length = true := inb_true (by omega) (by simp only [List.length_cons]; omega)
    have s1 : subB (x :: a).length (some 1) none = true := by simp [subB]; omega
    have s2 : subB (y :: b).length (some 1) none = true := by simp [subB]; omega
    have l1 : ((((x :: a).length : Nat) : Int) == 0) = false := by rw [beq_eq_false_iff_ne]; simp only [List.length_cons]; omega
    have l2 : ((((y :: b).length : Nat) : Int) == 0) = false := by rw [beq_eq_false_iff_ne]; simp only [List.length_cons]; omega
    rw [F23, i1, i2, s1, s2, l1, l2]
    simp only [cond_false, cond_true, List.getD_cons_zero, List.drop_succ_cons, List.drop_zero, bef]
    rw [rf23 a b n (by simpa using h)]
    by_cases h1 : x < y
    · simp [h1]
    · by_cases h2 : x = y
      · subst h2; simp
      · simp [h1, h2, show (x == y) = false by simpa using h2]
def cmpI (x y : Int) : Int := if x < y then -1 else if x > y then 1 else 0
theorem rf80 (n : Nat) (x y : Int) : F80 n x y = some (cmpI x y) := by
  unfold F80 F113 cmpI
  simp only [bne_self_eq_false, Option.bind_some, cond_false]
  by_cases h1 : x < y
  · simp [h1]
  · by_cases h2 : x > y
    · simp [h1, h2]
    · simp [h1, h2]
theorem ord_cpl : ∀ (a b : List Int), ord a b = if cpl a b < a.length ∧ cpl a b < b.length then cmpI (a.getD (cpl a b) 0) (b.getD (cpl a b) 0) else cmpI a.length b.length
  | [], [] => rfl
  | [], y :: b => by simp only [ord, cpl, cmpI, List.length_nil, List.length_cons]; rw [if_neg (by omega), if_pos (by omega)]
  | x :: a, [] => by simp only [ord, cpl, cmpI, List.length_nil, List.length_cons]; rw [if_neg (by omega), if_neg (by omega), if_pos (by omega)]
  | x :: a, y :: b => by
    simp only [ord]
    by_cases h2 : x = y
    · subst h2
      have e : cpl (x :: a) (x :: b) = cpl a b + 1 := by simp [cpl]
      rw [ord_cpl a b, e]
      simp only [Int.lt_irrefl, if_false, gt_iff_lt, if_true, List.length_cons, List.getD_cons_succ, Nat.add_lt_add_iff_right]
      split
      · rfl
      · unfold cmpI
        simp only [Int.natCast_add, Int.natCast_one, gt_iff_lt, Int.add_lt_add_iff_right]
    · have e : cpl (x :: a) (y :: b) = 0 := if_neg h2
      rw [e, if_pos (show 0 < (x :: a).length ∧ 0 < (y :: b).length by simp)]
      simp only [List.getD_cons_zero, cmpI]
      by_cases h1 : x < y
      · rw [if_pos h1, if_pos h1]
      · rw [if_neg h1, if_neg h1, if_pos (show x > y by omega), if_pos (show x > y by omega)]
theorem rf28 (n : Nat) (a b : List Int) (ha : a.length ≤ 1000) (hn : 1001 < n) : F28 n a b = some (ord a b) := by
  unfold F28
  rw [rf78 n a b ha hn, ord_cpl]
  simp only [Option.bind_some, Int.toNat_natCast, rf80]
  by_cases h1 : cpl a b < a.length
  · rw [decide_eq_true (show ((cpl a b : Nat) : Int) < (a.length : Int) by omega)]
    by_cases h2 : cpl a b < b.length
    · rw [decide_eq_true (show ((cpl a b : Nat) : Int) < (b.length : Int) by omega), inb_true (show (0 : Int) ≤ cpl a b by omega) (show ((cpl a b : Nat) : Int) < a.length by omega), inb_true (show (0 : Int) ≤ cpl a b by omega) (show ((cpl a b : Nat) : Int) < b.length by omega), if_pos ⟨h1, h2⟩]
      rfl
    · rw [decide_eq_false (show ¬ ((cpl a b : Nat) : Int) < (b.length : Int) by omega), if_neg (by omega)]
      rfl
  · rw [decide_eq_false (show ¬ ((cpl a b : Nat) : Int) < (a.length : Int) by omega), if_neg (by omega)]
    rfl
theorem rj2 (n : Nat) (a b : List Int) (ha : a.length ≤ 1000) (hb : b.length ≤ 1000) (hn : 1001 < n) (want : Int) (hw : want = ord a b) : F5_j2 n a b (a.take (cpl a b)) want = some true := by
  have h1 := cpl_le1 a b
  have h2 := cpl_le2 a b
  have hl : (a.take (cpl a b)).length = cpl a b := by rw [List.length_take]; omega
  have s1 : subB a.length none (some ((cpl a b : Nat) : Int)) = true := by simp [subB]; omega
  unfold F5_j2 F24 F26 F27 F79
  rw [rf78 n a b ha hn, rf28 n a b ha hn, hl]
  simp only [Option.bind_some, BEq.rfl, cond_true, Int.toNat_natCast, List.length_nil, List.nil_append, s1]
  rw [decide_eq_true (show 0 + (a.take (cpl a b)).length ≤ 17179869184 by omega)]
  simp only [cond_true, Option.bind_some]
  rw [rf25 n _ _ (by omega) hn, decide_eq_true rfl]
  simp only [cond_true, Option.bind_some]
  rw [w64 (n := ((a.length : Nat) : Int) + (b.length : Nat)) (by omega) (by omega), w64 (n := 2 * ((cpl a b : Nat) : Int)) (by omega) (by omega), w64 (n := ((a.length : Nat) : Int) - (cpl a b : Nat)) (by omega) (by omega),
    w64 (n := ((a.length : Nat) : Int) - (cpl a b : Nat) + (b.length : Nat)) (by omega) (by omega), w64 (by omega) (by omega), w64 (by omega) (by omega)]
  rw [show (((a.length : Nat) : Int) + ((b.length : Nat) : Int) - 2 * ((cpl a b : Nat) : Int) == ((a.length : Nat) : Int) - ((cpl a b : Nat) : Int) + ((b.length : Nat) : Int) - ((cpl a b : Nat) : Int)) = true by simp; omega]
  simp [hw]
theorem routeMeets_says (a : List Int) (g0 : Sh.good (.sl (.int .i64)) a) (b : List Int) (g1 : Sh.good (.sl (.int .i64)) b) : ∃ n, F5 n a b = some true := by
  refine ⟨2000, ?_⟩
  unfold F5
  by_cases ha : a.length ≤ 1000
  · rw [decide_eq_false (show ¬ ((a.length : Nat) : Int) > 1000 by omega)]
    by_cases hb : b.length ≤ 1000
    · rw [decide_eq_false (show ¬ ((b.length : Nat) : Int) > 1000 by omega), rf22 2000 a b ha hb (by omega), rf23 a b 2000 (by omega), rf23 b a 2000 (by omega)]
      simp only [cond_false, Option.bind_some]
      have ho := ord_bef a b
      cases h1 : bef a b
      · rw [h1] at ho
        cases h2 : bef b a
        · rw [h2] at ho
          exact rj2 2000 a b ha hb (by omega) 0 (by simpa using ho.symm)
        · rw [h2] at ho
          exact rj2 2000 a b ha hb (by omega) 1 (by simpa using ho.symm)
      · rw [h1] at ho
        exact rj2 2000 a b ha hb (by omega) (-1) (by simpa using ho.symm)
    · rw [decide_eq_true (show ((b.length : Nat) : Int) > 1000 by omega)]
      rfl
  · rw [decide_eq_true (show ((a.length : Nat) : Int) > 1000 by omega)]
    rfl
end Go.Proofs.Ytgcdohclbkmmdaa
