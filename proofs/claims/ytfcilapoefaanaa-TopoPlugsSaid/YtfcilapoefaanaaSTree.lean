/- Trees of places: checked and searched; in plain Lean. -/
import Derived.Test.YtfcilapoefaanaaFtp
import Derived.Test.YtfcilapoefaanaaAm26
namespace Go.Proofs.Ytfcilapoefaanaa
open Go Go.RowKit
set_option linter.unusedVariables false

/-- how much two lists have in common at their beginnings -/
def cpl : List Int → List Int → Nat
  | x :: a, y :: b => if x = y then cpl a b + 1 else 0
  | _, _ => 0
theorem cpl_le1 : ∀ a b, cpl a b ≤ a.length
  | [], b => by simp [cpl]
  | x :: a, [] => by simp [cpl]
  | x :: a, y :: b => by
    simp only [cpl, List.length_cons]
    split
    · have := cpl_le1 a b; omega
    · omega
theorem cpl_le2 : ∀ a b, cpl a b ≤ b.length
  | [], b => by simp [cpl]
  | x :: a, [] => by simp [cpl]
  | x :: a, y :: b => by
    simp only [cpl, List.length_cons]
    split
    · have := cpl_le2 a b; omega
    · omega
theorem cpl_in : ∀ (a b : List Int) (k : Nat), k < cpl a b → a.getD k 0 = b.getD k 0
  | [], b, k, h => by simp [cpl] at h
  | x :: a, [], k, h => by simp [cpl] at h
  | x :: a, y :: b, k, h => by
    simp only [cpl] at h
    split at h
    · rename_i e
      subst e
      cases k with
      | zero => rfl
      | succ k => simpa using cpl_in a b k (by omega)
    · omega
theorem cpl_end : ∀ (a b : List Int), cpl a b < a.length → cpl a b < b.length → a.getD (cpl a b) 0 ≠ b.getD (cpl a b) 0
  | [], b, h, _ => by simp at h
  | x :: a, [], _, h => by simp at h
  | x :: a, y :: b, h1, h2 => by
    simp only [cpl, List.length_cons] at h1 h2 ⊢
    split
    · rename_i e
      rw [if_pos e] at h1 h2
      simpa using cpl_end a b (by omega) (by omega)
    · rename_i e
      simpa using e
theorem take_cpl : ∀ (a b : List Int) (k : Nat), k ≤ a.length → k ≤ b.length → (a.take k = b.take k ↔ k ≤ cpl a b)
  | a, b, 0, _, _ => by simp
  | [], b, k + 1, h, _ => by simp at h
  | x :: a, [], k + 1, _, h => by simp at h
  | x :: a, y :: b, k + 1, h1, h2 => by
    simp only [List.take_succ_cons, List.cons.injEq, cpl]
    have := take_cpl a b k (by simpa using h1) (by simpa using h2)
    split
    · rename_i e; simp [e, this]
    · rename_i e; simp [e]
theorem cpl_comm : ∀ a b, cpl a b = cpl b a
  | [], [] => rfl
  | [], y :: b => rfl
  | x :: a, [] => rfl
  | x :: a, y :: b => by
    simp only [cpl]
    rw [cpl_comm a b]
    by_cases h : x = y
    · rw [if_pos h, if_pos h.symm]
    · rw [if_neg h, if_neg (fun e => h e.symm)]
theorem rf78 (n : Nat) (a b : List Int) (ha : a.length ≤ 4611686018427387904) (hn : a.length + 1 < n) : F62 n a b = some (cpl a b : Int) := by
  have h1 := cpl_le1 a b
  have h2 := cpl_le2 a b
  unfold F62
  obtain ⟨r, e, rfl⟩ := loopF_post (F62_l2 n a b) (fun x => ∃ k : Nat, x = (k : Int) ∧ k ≤ cpl a b) (fun _ r => r = (cpl a b : Int)) (fun x => a.length - x.toNat) (by
    rintro kk x ⟨k, rfl, hk⟩ ih
    simp only [F62_l2, Int.toNat_natCast]
    by_cases hka : k < a.length
    · rw [decide_eq_true (show (k : Int) < (a.length : Int) by omega)]
      by_cases hkb : k < b.length
      · rw [decide_eq_true (show (k : Int) < (b.length : Int) by omega), inb_true (show (0 : Int) ≤ k by omega) (show (k : Int) < a.length by omega), inb_true (show (0 : Int) ≤ k by omega) (show (k : Int) < b.length by omega)]
        simp only [cond_true]
        by_cases hkc : k < cpl a b
        · rw [cpl_in a b k hkc, BEq.rfl, w64 (n := (k : Int) + 1) (by omega) (by omega)]
          exact ih ((k : Int) + 1) ⟨k + 1, by omega, by omega⟩ (by simp only [Int.toNat_natCast]; omega)
        · obtain rfl : k = cpl a b := by omega
          have := cpl_end a b hka hkb
          rw [show (a.getD (cpl a b) 0 == b.getD (cpl a b) 0) = false by simpa using this]
          exact ⟨_, rfl, rfl⟩
      · rw [decide_eq_false (show ¬ (k : Int) < (b.length : Int) by omega)]
        exact ⟨_, rfl, by omega⟩
    · rw [decide_eq_false (show ¬ (k : Int) < (a.length : Int) by omega)]
      exact ⟨_, rfl, by omega⟩) n 0 ⟨0, rfl, by omega⟩ (by omega)
  exact e
/-- slices.Equal of numbers -/
theorem getD_ext {a b : List Int} (hl : a.length = b.length) (h : ∀ k, k < a.length → a.getD k 0 = b.getD k 0) : a = b := by
  apply List.ext_getElem hl
  intro i h1 h2
  have := h i h1
  simpa [List.getD_eq_getElem?_getD, List.getElem?_eq_getElem h1, List.getElem?_eq_getElem h2] using this
theorem rf25 (n : Nat) (a b : List Int) (ha : a.length ≤ 4611686018427387904) (hn : a.length + 1 < n) : F58 n a b = some (decide (a = b)) := by
  unfold F58
  by_cases hl : a.length = b.length
  · rw [show (((a.length : Nat) : Int) != ((b.length : Nat) : Int)) = false by simp [hl]]
    simp only [cond_false]
    obtain ⟨r, e, h⟩ := loopF_post (F58_l2 n a b) (fun x => ∃ k : Nat, x = (k : Int) ∧ k ≤ a.length ∧ ∀ j, j < k → a.getD j 0 = b.getD j 0) (fun _ r => r = decide (a = b)) (fun x => a.length - x.toNat) (by
      rintro kk x ⟨k, rfl, hk, hall⟩ ih
      simp only [F58_l2, Int.toNat_natCast]
      by_cases hka : k < a.length
      · rw [decide_eq_true (show (k : Int) < (a.length : Int) by omega), inb_true (show (0 : Int) ≤ k by omega) (show (k : Int) < a.length by omega), inb_true (show (0 : Int) ≤ k by omega) (show (k : Int) < b.length by omega)]
        simp only [cond_true]
        by_cases hq : a.getD k 0 = b.getD k 0
        · rw [hq, bne_self_eq_false, w64 (n := (k : Int) + 1) (by omega) (by omega)]
          exact ih ((k : Int) + 1) ⟨k + 1, by omega, by omega, fun j hj => by
            rcases Nat.lt_succ_iff_lt_or_eq.1 hj with h | h
            · exact hall j h
            · rw [h]; exact hq⟩ (by simp only [Int.toNat_natCast]; omega)
        · rw [show (a.getD k 0 != b.getD k 0) = true by simpa using hq]
          refine ⟨_, rfl, ?_⟩
          rw [decide_eq_false]
          intro e; exact hq (by rw [e])
      · rw [decide_eq_false (show ¬ (k : Int) < (a.length : Int) by omega)]
        refine ⟨_, rfl, ?_⟩
        rw [decide_eq_true (getD_ext hl (fun j hj => hall j (by omega)))]) n 0 ⟨0, rfl, by omega, fun j hj => by omega⟩ (by simp; omega)
    rw [e, h]
  · rw [show (((a.length : Nat) : Int) != ((b.length : Nat) : Int)) = true by simpa using fun e : ((a.length : Nat) : Int) = (b.length : Nat) => hl (by omega), decide_eq_false (fun e => hl (by rw [e]))]
    rfl
/-- which list comes first -/
def bef : List Int → List Int → Bool
  | _, [] => false
  | [], _ :: _ => true
  | x :: a, y :: b => if x < y then true else if x = y then bef a b else false
def ord : List Int → List Int → Int
  | [], [] => 0
  | [], _ :: _ => -1
  | _ :: _, [] => 1
  | x :: a, y :: b => if x < y then -1 else if x > y then 1 else ord a b
theorem ord_bef : ∀ a b, ord a b = if bef a b then -1 else if bef b a then 1 else 0
  | [], [] => rfl
  | [], _ :: _ => rfl
  | _ :: _, [] => rfl
  | x :: a, y :: b => by
    simp only [ord, bef]
    rw [ord_bef a b]
    by_cases h1 : x < y
    · simp [h1]
    · by_cases h2 : x = y
      · subst h2; simp
      · have h3 : y < x := by omega
        have h4 : ¬ y = x := fun e => h2 e.symm
        simp [h1, h2, h3]
theorem rf23 : ∀ (a b : List Int) (n : Nat), a.length < n → F40 n a b = some (bef a b)
  | a, b, 0, h => by omega
  | a, [], n + 1, h => by cases a <;> simp [F40, bef]
  | [], y :: b, n + 1, h => by
    have e : (((y :: b).length : Nat) : Int) ≠ 0 := by simp; omega
    simp [F40, bef]
    rw [show (((b.length : Int) + 1) == 0) = false by simp; omega]; rfl
  | x :: a, y :: b, n + 1, h => by
    have i1 : inb 0 (x :: a).length = true := inb_true (by omega) (by simp only [List.length_cons]; omega)
    have i2 : inb 0 (y :: b).length = true := inb_true (by omega) (by simp only [List.length_cons]; omega)
    have s1 : subB (x :: a).length (some 1) none = true := by simp [subB]; omega
    have s2 : subB (y :: b).length (some 1) none = true := by simp [subB]; omega
    have l1 : ((((x :: a).length : Nat) : Int) == 0) = false := by rw [beq_eq_false_iff_ne]; simp only [List.length_cons]; omega
    have l2 : ((((y :: b).length : Nat) : Int) == 0) = false := by rw [beq_eq_false_iff_ne]; simp only [List.length_cons]; omega
    rw [F40, i1, i2, s1, s2, l1, l2]
    simp only [cond_false, cond_true, List.getD_cons_zero, List.drop_succ_cons, List.drop_zero, bef]
    rw [rf23 a b n (by simpa using h)]
    by_cases h1 : x < y
    · simp [h1]
    · by_cases h2 : x = y
      · subst h2; simp
      · simp [h1, h2, show (x == y) = false by simpa using h2]
def cmpI (x y : Int) : Int := if x < y then -1 else if x > y then 1 else 0
theorem rf80 (n : Nat) (x y : Int) : F63 n x y = some (cmpI x y) := by
  unfold F63 F86 cmpI
  simp only [bne_self_eq_false, Option.bind_some, cond_false]
  by_cases h1 : x < y
  · simp [h1]
  · by_cases h2 : x > y
    · simp [h1, h2]
    · simp [h1, h2]
theorem ord_cpl : ∀ (a b : List Int), ord a b = if cpl a b < a.length ∧ cpl a b < b.length then cmpI (a.getD (cpl a b) 0) (b.getD (cpl a b) 0) else cmpI a.length b.length
  | [], [] => rfl
  | [], y :: b => by simp only [ord, cpl, cmpI, List.length_nil, List.length_cons]; rw [if_neg (by omega), if_pos (by omega)]
  | x :: a, [] => by simp only [ord, cpl, cmpI, List.length_nil, List.length_cons]; rw [if_neg (by omega), if_neg (by omega), if_pos (by omega)]
  | x :: a, y :: b => by
    simp only [ord]
    by_cases h2 : x = y
    · subst h2
      have e : cpl (x :: a) (x :: b) = cpl a b + 1 := by simp [cpl]
      rw [ord_cpl a b, e]
      simp only [Int.lt_irrefl, if_false, gt_iff_lt, List.length_cons, List.getD_cons_succ, Nat.add_lt_add_iff_right]
      split
      · rfl
      · unfold cmpI
        simp only [Int.natCast_add, Int.natCast_one, gt_iff_lt, Int.add_lt_add_iff_right]
    · have e : cpl (x :: a) (y :: b) = 0 := if_neg h2
      rw [e, if_pos (show 0 < (x :: a).length ∧ 0 < (y :: b).length by simp)]
      simp only [List.getD_cons_zero, cmpI]
      by_cases h1 : x < y
      · rw [if_pos h1, if_pos h1]
      · rw [if_neg h1, if_neg h1, if_pos (show x > y by omega), if_pos (show x > y by omega)]
theorem rf28 (n : Nat) (a b : List Int) (ha : a.length ≤ 4611686018427387904) (hn : a.length + 1 < n) : F31 n a b = some (ord a b) := by
  unfold F31
  rw [rf78 n a b ha hn, ord_cpl]
  simp only [Option.bind_some, Int.toNat_natCast, rf80]
  by_cases h1 : cpl a b < a.length
  · rw [decide_eq_true (show ((cpl a b : Nat) : Int) < (a.length : Int) by omega)]
    by_cases h2 : cpl a b < b.length
    · rw [decide_eq_true (show ((cpl a b : Nat) : Int) < (b.length : Int) by omega), inb_true (show (0 : Int) ≤ cpl a b by omega) (show ((cpl a b : Nat) : Int) < a.length by omega), inb_true (show (0 : Int) ≤ cpl a b by omega) (show ((cpl a b : Nat) : Int) < b.length by omega), if_pos ⟨h1, h2⟩]
      rfl
    · rw [decide_eq_false (show ¬ ((cpl a b : Nat) : Int) < (b.length : Int) by omega), if_neg (by omega)]
      rfl
  · rw [decide_eq_false (show ¬ ((cpl a b : Nat) : Int) < (a.length : Int) by omega), if_neg (by omega)]
    rfl
def okP (l : List Int) : Prop := ∀ j, j < l.length → 1 ≤ l.getD j 0 ∧ l.getD j 0 ≤ 15
instance (l : List Int) : Decidable (okP l) := inferInstanceAs (Decidable (∀ j, j < l.length → 1 ≤ l.getD j 0 ∧ l.getD j 0 ≤ 15))
def pathE (l : List Int) : Int := if l.length = 0 then 1 else if 6 < l.length then 2 else if okP l then 0 else 1
theorem rp35 (n : Nat) (l : List Int) (hn : 10 < n) : F55 n l = some (pathE l) := by
  unfold F55 pathE
  by_cases h0 : l.length = 0
  · rw [if_pos h0, show (((l.length : Nat) : Int) == 0) = true by simp [h0]]; rfl
  rw [if_neg h0, show (((l.length : Nat) : Int) == 0) = false by simpa using h0]
  by_cases h6 : 6 < l.length
  · rw [if_pos h6, decide_eq_true (show ((l.length : Nat) : Int) > 6 by omega)]; rfl
  rw [if_neg h6, decide_eq_false (show ¬ ((l.length : Nat) : Int) > 6 by omega)]
  simp only [cond_false]
  obtain ⟨r, e, h⟩ := loopF_post (F55_l2 n l) (fun x => ∃ k : Nat, x = (k : Int) ∧ k ≤ l.length ∧ ∀ j, j < k → 1 ≤ l.getD j 0 ∧ l.getD j 0 ≤ 15) (fun _ r => r = if okP l then 0 else 1) (fun x => l.length - x.toNat) (by
    rintro kk x ⟨k, rfl, hk, hall⟩ ih
    simp only [F55_l2, Int.toNat_natCast]
    by_cases hka : k < l.length
    · rw [decide_eq_true (show (k : Int) < (l.length : Int) by omega), inb_true (show (0 : Int) ≤ k by omega) (show (k : Int) < l.length by omega)]
      simp only [cond_true]
      by_cases h1 : l.getD k 0 < 1
      · rw [decide_eq_true h1]
        exact ⟨_, rfl, by rw [if_neg (fun h => by have := h k hka; omega)]⟩
      · rw [decide_eq_false h1]
        by_cases h2 : l.getD k 0 > 15
        · rw [decide_eq_true h2]
          exact ⟨_, rfl, by rw [if_neg (fun h => by have := h k hka; omega)]⟩
        · rw [decide_eq_false h2, w64 (n := (k : Int) + 1) (by omega) (by omega)]
          exact ih ((k : Int) + 1) ⟨k + 1, by omega, by omega, fun j hj => by
            rcases Nat.lt_succ_iff_lt_or_eq.1 hj with h | h
            · exact hall j h
            · rw [h]; omega⟩ (by simp only [Int.toNat_natCast]; omega)
    · rw [decide_eq_false (show ¬ (k : Int) < (l.length : Int) by omega)]
      exact ⟨_, rfl, by rw [if_pos (show okP l from fun j hj => hall j (by omega))]⟩) n 0 ⟨0, rfl, by omega, fun j hj => by omega⟩ (by simp; omega)
  rw [e, h]
theorem rp86 (n : Nat) (l : List Int) (hn : 10 < n) (h0 : l.length ≠ 0) (h6 : l.length ≤ 6) : ∃ m, F88 n l = some m ∧ (m < 1 ↔ ∃ j, j < l.length ∧ l.getD j 0 < 1) := by
  unfold F88 F88_j3
  rw [decide_eq_false (show ¬ ((l.length : Nat) : Int) < 1 by omega), inb_true (by omega) (show (0 : Int) < l.length by omega)]
  simp only [cond_false, cond_true]
  exact loopF_post (F88_l4 n l) (fun d => ∃ k : Nat, d.2 = (k : Int) ∧ k ≤ l.length ∧ (d.1 < 1 ↔ ∃ j, j < k ∧ l.getD j 0 < 1)) (fun _ m => m < 1 ↔ ∃ j, j < l.length ∧ l.getD j 0 < 1) (fun d => l.length - d.2.toNat) (by
    rintro kk ⟨m, x⟩ ⟨k, e, hk, hm⟩ ih
    simp only at e hm
    subst e
    simp only [F88_l4, Int.toNat_natCast]
    by_cases hka : k < l.length
    · rw [decide_eq_true (show (k : Int) < (l.length : Int) by omega), inb_true (show (0 : Int) ≤ k by omega) (show (k : Int) < l.length by omega), w64 (n := (k : Int) + 1) (by omega) (by omega)]
      simp only [cond_true]
      refine ih (_, (k : Int) + 1) ⟨k + 1, by simp, by omega, ?_⟩ (by simp only [Int.toNat_natCast]; omega)
      simp only
      constructor
      · intro h
        split at h
        · exact ⟨k, by omega, h⟩
        · obtain ⟨j, hj, hl⟩ := hm.1 h
          exact ⟨j, by omega, hl⟩
      · rintro ⟨j, hj, hl⟩
        rcases Nat.lt_succ_iff_lt_or_eq.1 hj with h | h
        · have := hm.2 ⟨j, h, hl⟩
          split <;> omega
        · subst h
          split <;> omega
    · rw [decide_eq_false (show ¬ (k : Int) < (l.length : Int) by omega)]
      refine ⟨m, rfl, ?_⟩
      rw [hm, show k = l.length by omega]) n (l.getD 0 0, 1) ⟨1, rfl, by omega, by
        constructor
        · intro h; exact ⟨0, by omega, h⟩
        · rintro ⟨j, hj, hl⟩
          rw [show j = 0 by omega] at hl; exact hl⟩ (by simp; omega)
theorem rp87 (n : Nat) (l : List Int) (hn : 10 < n) (h0 : l.length ≠ 0) (h6 : l.length ≤ 6) : ∃ m, F89 n l = some m ∧ (m > 15 ↔ ∃ j, j < l.length ∧ l.getD j 0 > 15) := by
  unfold F89 F89_j3
  rw [decide_eq_false (show ¬ ((l.length : Nat) : Int) < 1 by omega), inb_true (by omega) (show (0 : Int) < l.length by omega)]
  simp only [cond_false, cond_true]
  exact loopF_post (F89_l4 n l) (fun d => ∃ k : Nat, d.2 = (k : Int) ∧ k ≤ l.length ∧ (d.1 > 15 ↔ ∃ j, j < k ∧ l.getD j 0 > 15)) (fun _ m => m > 15 ↔ ∃ j, j < l.length ∧ l.getD j 0 > 15) (fun d => l.length - d.2.toNat) (by
    rintro kk ⟨m, x⟩ ⟨k, e, hk, hm⟩ ih
    simp only at e hm
    subst e
    simp only [F89_l4, Int.toNat_natCast]
    by_cases hka : k < l.length
    · rw [decide_eq_true (show (k : Int) < (l.length : Int) by omega), inb_true (show (0 : Int) ≤ k by omega) (show (k : Int) < l.length by omega), w64 (n := (k : Int) + 1) (by omega) (by omega)]
      simp only [cond_true]
      refine ih (_, (k : Int) + 1) ⟨k + 1, by simp, by omega, ?_⟩ (by simp only [Int.toNat_natCast]; omega)
      simp only
      constructor
      · intro h
        split at h
        · exact ⟨k, by omega, h⟩
        · obtain ⟨j, hj, hl⟩ := hm.1 h
          exact ⟨j, by omega, hl⟩
      · rintro ⟨j, hj, hl⟩
        rcases Nat.lt_succ_iff_lt_or_eq.1 hj with h | h
        · have := hm.2 ⟨j, h, hl⟩
          split <;> omega
        · subst h
          split <;> omega
    · rw [decide_eq_false (show ¬ (k : Int) < (l.length : Int) by omega)]
      refine ⟨m, rfl, ?_⟩
      rw [hm, show k = l.length by omega]) n (l.getD 0 0, 1) ⟨1, rfl, by omega, by
        constructor
        · intro h; exact ⟨0, by omega, h⟩
        · rintro ⟨j, hj, hl⟩
          rw [show j = 0 by omega] at hl; exact hl⟩ (by simp; omega)
theorem rp36 (n : Nat) (l : List Int) (hn : 10 < n) : F67 n l = some (pathE l) := by
  unfold F67 pathE
  by_cases h6 : 6 < l.length
  · rw [decide_eq_true (show ((l.length : Nat) : Int) > 6 by omega), if_neg (by omega), if_pos h6]; rfl
  rw [decide_eq_false (show ¬ ((l.length : Nat) : Int) > 6 by omega), if_neg h6]
  by_cases h0 : l.length = 0
  · rw [if_pos h0, show (((l.length : Nat) : Int) == 0) = true by simp [h0]]; rfl
  rw [if_neg h0, show (((l.length : Nat) : Int) == 0) = false by simpa using h0]
  obtain ⟨m, e1, h1⟩ := rp86 n l hn h0 (by omega)
  obtain ⟨M, e2, h2⟩ := rp87 n l hn h0 (by omega)
  rw [e1, e2]
  simp only [cond_false, Option.bind_some]
  by_cases hm : m < 1
  · rw [decide_eq_true hm]
    obtain ⟨j, hj, hl⟩ := h1.1 hm
    rw [if_neg (fun h => by have := h j hj; omega)]; rfl
  · rw [decide_eq_false hm]
    by_cases hM : M > 15
    · rw [decide_eq_true hM]
      obtain ⟨j, hj, hl⟩ := h2.1 hM
      rw [if_neg (fun h => by have := h j hj; omega)]; rfl
    · rw [decide_eq_false hM, if_pos]
      · rfl
      · intro j hj
        refine ⟨?_, ?_⟩
        · have : ¬ l.getD j 0 < 1 := fun h => hm (h1.2 ⟨j, hj, h⟩)
          omega
        · have : ¬ l.getD j 0 > 15 := fun h => hM (h2.2 ⟨j, hj, h⟩)
          omega
/-- the number of a path -/
abbrev Nd := (List Int) × Int × Int × Int
abbrev dN : Nd := (([] : List Int), ((0 : Int), ((0 : Int), (0 : Int))))
def nodeOk (p : Nd) : Prop := pathE p.1 = 0 ∧ (1 ≤ p.2.1 ∧ p.2.1 ≤ 3) ∧ (p.2.1 = 1 → (1 ≤ p.2.2.1 ∧ p.2.2.1 ≤ 15) ∧ p.1.length ≤ 5) ∧ (p.2.1 ≠ 1 → p.2.2.1 = 0)
instance (p : Nd) : Decidable (nodeOk p) := by unfold nodeOk; exact inferInstance
theorem pathE0 {l : List Int} (h : pathE l = 0) : 1 ≤ l.length ∧ l.length ≤ 6 := by
  unfold pathE at h
  split at h
  · cases h
  · split at h
    · cases h
    · omega
theorem betC (n : Nat) (v lo hi : Int) : F21 n v lo hi = some (decide (lo ≤ v ∧ v ≤ hi)) := by
  unfold F21
  by_cases h : lo ≤ v
  · rw [decide_eq_true h]
    simp only [cond_true, Option.some.injEq]
    rw [Bool.eq_iff_iff, decide_eq_true_iff, decide_eq_true_iff]
    exact ⟨fun e => ⟨h, e⟩, fun e => e.2⟩
  · rw [decide_eq_false h, decide_eq_false (show ¬ (lo ≤ v ∧ v ≤ hi) from fun hh => h hh.1)]; rfl
theorem nodeP (n : Nat) (p : Nd) (hn : 10 < n) : F27 n p.1 p.2.1 p.2.2.1 p.2.2.2 = some (decide (nodeOk p)) := by
  obtain ⟨a, k, q, s⟩ := p
  simp only
  have jt : F27_j2 n a k q true = some false := rfl
  unfold F27
  rw [rp35 n a hn]
  simp only [Option.bind_some]
  by_cases h0 : pathE a = 0
  · rw [show (pathE a != 0) = false by simp [h0]]
    simp only [cond_false]
    by_cases h1 : k < 1
    · rw [decide_eq_true h1, decide_eq_false (fun h : nodeOk (a, k, q, s) => by have := h.2.1; simp only at this; omega)]; exact jt
    · rw [decide_eq_false h1]
      by_cases h2 : k > 3
      · rw [decide_eq_true h2, decide_eq_false (fun h : nodeOk (a, k, q, s) => by have := h.2.1; simp only at this; omega)]; exact jt
      · rw [decide_eq_false h2]
        simp only [cond_false, F27_j2]
        by_cases h3 : k = 1
        · rw [show (k == 1) = true by simp [h3]]
          simp only [cond_true]
          by_cases h4 : q ≥ 1
          · rw [decide_eq_true h4]
            by_cases h5 : q ≤ 15
            · rw [decide_eq_true h5]
              simp only [cond_true, Option.some.injEq]
              rw [Bool.eq_iff_iff, decide_eq_true_iff, decide_eq_true_iff]
              exact ⟨fun h => ⟨h0, ⟨by simp only; omega, by simp only; omega⟩, fun _ => ⟨⟨h4, h5⟩, by simp only; omega⟩, fun h => absurd h3 h⟩, fun h => by have := (h.2.2.1 h3).2; simp only at this; omega⟩
            · rw [decide_eq_false h5, decide_eq_false (fun h : nodeOk (a, k, q, s) => by have := (h.2.2.1 h3).1; simp only at this; omega)]; rfl
          · rw [decide_eq_false h4, decide_eq_false (fun h : nodeOk (a, k, q, s) => by have := (h.2.2.1 h3).1; simp only at this; omega)]; rfl
        · rw [show (k == 1) = false by simp [h3]]
          simp only [cond_false, Option.some.injEq]
          rw [Bool.eq_iff_iff, decide_eq_true_iff, beq_iff_eq]
          exact ⟨fun h => ⟨h0, ⟨by simp only; omega, by simp only; omega⟩, fun h => absurd h h3, fun _ => h⟩, fun h => h.2.2.2 h3⟩
  · rw [show (pathE a != 0) = true by simpa using h0, decide_eq_false (fun h : nodeOk (a, k, q, s) => h0 h.1)]
    exact jt
theorem nodeR (n : Nat) (p : Nd) (hn : 10 < n) : F35 n p.1 p.2.1 p.2.2.1 p.2.2.2 = some (decide (nodeOk p)) := by
  obtain ⟨a, k, q, s⟩ := p
  simp only
  unfold F35
  rw [rp36 n a hn]
  simp only [Option.bind_some, betC]
  by_cases h0 : pathE a = 0
  · rw [show (pathE a != 0) = false by simp [h0]]
    simp only [cond_false]
    by_cases h1 : 1 ≤ k ∧ k ≤ 3
    · rw [decide_eq_true h1]
      simp only [Bool.not_true, cond_false]
      by_cases h3 : k = 1
      · rw [show (k == 1) = true by simp [h3]]
        simp only [cond_true]
        by_cases h4 : 1 ≤ q ∧ q ≤ 15
        · rw [decide_eq_true h4]
          simp only [cond_true, Option.some.injEq]
          rw [Bool.eq_iff_iff, decide_eq_true_iff, decide_eq_true_iff]
          exact ⟨fun h => ⟨h0, h1, fun _ => ⟨h4, by simp only; omega⟩, fun h => absurd h3 h⟩, fun h => by have := (h.2.2.1 h3).2; simp only at this; omega⟩
        · rw [decide_eq_false h4, decide_eq_false (fun h : nodeOk (a, k, q, s) => h4 (h.2.2.1 h3).1)]; rfl
      · rw [show (k == 1) = false by simp [h3]]
        simp only [cond_false, Option.some.injEq]
        rw [Bool.eq_iff_iff, decide_eq_true_iff, beq_iff_eq]
        exact ⟨fun h => ⟨h0, h1, fun h => absurd h h3, fun _ => h⟩, fun h => h.2.2.2 h3⟩
    · rw [decide_eq_false h1, decide_eq_false (fun h : nodeOk (a, k, q, s) => h1 h.2.1)]; rfl
  · rw [show (pathE a != 0) = true by simpa using h0, decide_eq_false (fun h : nodeOk (a, k, q, s) => h0 h.1)]
    rfl
theorem drop_getD {α : Type} (d : α) : ∀ (l : List α) (k : Nat), k < l.length → l.drop k = l.getD k d :: l.drop (k + 1)
  | [], k, h => by simp at h
  | x :: l, 0, h => rfl
  | x :: l, k + 1, h => by simpa using drop_getD d l k (by simpa using h)
theorem take_getD {α : Type} (d : α) : ∀ (l : List α) (k : Nat), k < l.length → l.take (k + 1) = l.take k ++ [l.getD k d]
  | [], k, h => by simp at h
  | x :: l, 0, h => by simp
  | x :: l, k + 1, h => by
    have := take_getD d l k (by simpa using h)
    rw [List.take_succ_cons, this]; simp
def allV (tree : List Nd) : Prop := ∀ j, j < tree.length → nodeOk (tree.getD j dN)
def hubAt (p : Nd) (h : Nd) : Bool := decide (h.2.1 = 1 ∧ h.1 = p.1.take (p.1.length - 1))
def fitAt (p : Nd) (h : Nd) : Bool := hubAt p h && decide (p.1.getD (p.1.length - 1) 0 ≤ h.2.2.1)
def fitV (tree : List Nd) (p : Nd) : Bool := if p.1.length = 1 then decide (p.1.getD 0 0 ≤ 4) else tree.any (fitAt p)
theorem fitP (n : Nat) (tree : List Nd) (p : Nd) (hn : 100 < n) (hv : allV tree) (hl : tree.length ≤ 40) (hp : pathE p.1 = 0) : F29 n tree p.1 p.2.1 p.2.2.1 p.2.2.2 = some (fitV tree p) := by
  obtain ⟨a, k, q, s⟩ := p
  obtain ⟨g1, g2⟩ := pathE0 hp
  simp only at g1 g2 hp ⊢
  have wl : IntKind.wrap .i64 (((a.length : Nat) : Int) - 1) = ((a.length : Nat) : Int) - 1 := w64 (by omega) (by omega)
  have wt : (((a.length : Nat) : Int) - 1).toNat = a.length - 1 := by omega
  unfold F29 fitV
  rw [wl, inb_true (show 0 ≤ ((a.length : Nat) : Int) - 1 by omega) (show ((a.length : Nat) : Int) - 1 < (a.length : Nat) by omega), wt]
  simp only [cond_true]
  by_cases h1 : a.length = 1
  · rw [if_pos h1, show (((a.length : Nat) : Int) - 1 == 0) = true by rw [h1]; rfl, h1]; rfl
  · rw [if_neg h1, show (((a.length : Nat) : Int) - 1 == 0) = false by rw [beq_eq_false_iff_ne]; omega]
    simp only [cond_false]
    obtain ⟨r, e, h⟩ := loopF_post (F29_l8 n tree a k q s) (fun x => ∃ k' : Nat, x = (k' : Int) ∧ k' ≤ tree.length ∧ tree.any (fitAt (a, k, q, s)) = (tree.drop k').any (fitAt (a, k, q, s))) (fun _ r => r = tree.any (fitAt (a, k, q, s))) (fun x => tree.length - x.toNat) (by
      rintro kk x ⟨j, rfl, hj, hall⟩ ih
      simp only [F29_l8, Int.toNat_natCast]
      by_cases hjl : j < tree.length
      · rw [decide_eq_true (show (j : Int) < (tree.length : Int) by omega), inb_true (show (0 : Int) ≤ j by omega) (show (j : Int) < tree.length by omega)]
        simp only [cond_true]
        rw [drop_getD dN tree j hjl, List.any_cons] at hall
        generalize hnd : tree.getD j dN = nd at *
        have hnv : nodeOk nd := by rw [← hnd]; exact hv j hjl
        have hnl := pathE0 hnv.1
        have sub : subB a.length none (some (((a.length : Nat) : Int) - 1)) = true := by simp [subB]; omega
        have e1 : F60 n nd.1 nd.2.1 nd.2.2.1 nd.2.2.2 (a.getD (a.length - 1) 0) a k q s (((a.length : Nat) : Int) - 1) = some (fitAt (a, k, q, s) nd) := by
          unfold F60 fitAt hubAt
          rw [sub, wt, rf25 n nd.1 _ (by omega) (by omega)]
          simp only [Option.bind_some, cond_true]
          by_cases c1 : nd.2.1 = 1
          · rw [show (nd.2.1 == 1) = true by simp [c1]]
            simp only [cond_true]
            by_cases c2 : nd.2.2.1 ≥ a.getD (a.length - 1) 0
            · rw [decide_eq_true c2]
              simp [c1]
            · rw [decide_eq_false c2]
              simp
          · rw [show (nd.2.1 == 1) = false by simp [c1]]
            simp [c1]
        rw [wl, wt, e1]
        simp only [Option.bind_some]
        cases hf : fitAt (a, k, q, s) nd
        · simp only [cond_false]
          rw [w64 (n := (j : Int) + 1) (by omega) (by omega)]
          refine ih ((j : Int) + 1) ⟨j + 1, by omega, by omega, ?_⟩ (by simp only [Int.toNat_natCast]; omega)
          rw [hall, hf, Bool.false_or]
        · refine ⟨_, rfl, ?_⟩
          rw [hall, hf, decide_eq_true (by omega)]; rfl
      · rw [decide_eq_false (show ¬ (j : Int) < (tree.length : Int) by omega)]
        refine ⟨_, rfl, ?_⟩
        rw [hall, List.drop_eq_nil_of_le (by omega)]; rfl) n 0 ⟨0, rfl, by omega, by simp⟩ (by simp; omega)
    rw [e, h]
def distT (tree : List Nd) : Prop := ∀ i j, i < j → j < tree.length → (tree.getD i dN).1 ≠ (tree.getD j dN).1
theorem fitR (n : Nat) (tree : List Nd) (p : Nd) (hn : 100 < n) (hv : allV tree) (hl : tree.length ≤ 40) (hd : distT tree) (hp : pathE p.1 = 0) : F36 n tree p.1 p.2.1 p.2.2.1 p.2.2.2 = some (fitV tree p) := by
  obtain ⟨a, k, q, s⟩ := p
  obtain ⟨g1, g2⟩ := pathE0 hp
  simp only at g1 g2 hp ⊢
  have wl : IntKind.wrap .i64 (((a.length : Nat) : Int) - 1) = ((a.length : Nat) : Int) - 1 := w64 (by omega) (by omega)
  have wt : (((a.length : Nat) : Int) - 1).toNat = a.length - 1 := by omega
  unfold F36 fitV
  rw [wl]
  by_cases h1 : a.length = 1
  · rw [if_pos h1, show (((a.length : Nat) : Int) - 1 == 0) = true by rw [h1]; rfl, inb_true (by omega) (show (0 : Int) < a.length by omega)]; rfl
  · rw [if_neg h1, show (((a.length : Nat) : Int) - 1 == 0) = false by rw [beq_eq_false_iff_ne]; omega]
    simp only [cond_false]
    obtain ⟨r, e, h⟩ := loopF_post (F36_l2 n tree a) (fun x => ∃ k' : Nat, x = (k' : Int) ∧ k' ≤ tree.length ∧ tree.any (fitAt (a, k, q, s)) = (tree.drop k').any (fitAt (a, k, q, s))) (fun _ r => r = tree.any (fitAt (a, k, q, s))) (fun x => tree.length - x.toNat) (by
      rintro kk x ⟨j, rfl, hj, hall⟩ ih
      simp only [F36_l2, Int.toNat_natCast]
      by_cases hjl : j < tree.length
      · rw [decide_eq_true (show (j : Int) < (tree.length : Int) by omega), inb_true (show (0 : Int) ≤ j by omega) (show (j : Int) < tree.length by omega)]
        simp only [cond_true]
        have hall0 := hall
        rw [drop_getD dN tree j hjl, List.any_cons] at hall
        have hrest : hubAt (a, k, q, s) (tree.getD j dN) = true → (tree.drop (j + 1)).any (fitAt (a, k, q, s)) = false := by
          intro hh
          rw [List.any_eq_false]
          intro x hx hfx
          obtain ⟨i, hi, rfl⟩ := List.mem_iff_getElem.1 hx
          rw [List.length_drop] at hi
          rw [List.getElem_drop] at hfx
          have hne := hd j (j + 1 + i) (by omega) (by omega)
          rw [List.getD_eq_getElem?_getD (i := j + 1 + i), List.getElem?_eq_getElem (show j + 1 + i < tree.length by omega), Option.getD_some] at hne
          unfold fitAt at hfx
          rw [Bool.and_eq_true] at hfx
          have q1 := (of_decide_eq_true (show decide _ = true from hfx.1)).2
          have q2 := (of_decide_eq_true (show decide _ = true from hh)).2
          exact hne (q2.trans q1.symm)
        clear hall0
        have hnv : nodeOk (tree.getD j dN) := hv j hjl
        have hnl := pathE0 hnv.1
        have sub : subB a.length none (some (((a.length : Nat) : Int) - 1)) = true := by simp [subB]; omega
        have go : hubAt (a, k, q, s) (tree.getD j dN) = false → ∃ r, kk (IntKind.wrap .i64 ((j : Int) + 1)) = some r ∧ r = tree.any (fitAt (a, k, q, s)) := by
          intro hh
          rw [w64 (n := (j : Int) + 1) (by omega) (by omega)]
          refine ih ((j : Int) + 1) ⟨j + 1, by omega, by omega, ?_⟩ (by simp only [Int.toNat_natCast]; omega)
          rw [hall]
          unfold fitAt
          rw [hh]; rfl
        by_cases c1 : (tree.getD j dN).2.1 = 1
        · rw [show ((tree.getD j dN).2.1 == 1) = true by rw [beq_iff_eq]; exact c1, wl, sub, wt, rf25 n (tree.getD j dN).1 _ (by omega) (by omega)]
          simp only [cond_true, Option.bind_some]
          by_cases c2 : (tree.getD j dN).1 = a.take (a.length - 1)
          · have hh : hubAt (a, k, q, s) (tree.getD j dN) = true := decide_eq_true ⟨c1, c2⟩
            rw [decide_eq_true c2, inb_true (show 0 ≤ ((a.length : Nat) : Int) - 1 by omega) (show ((a.length : Nat) : Int) - 1 < (a.length : Nat) by omega)]
            refine ⟨_, rfl, ?_⟩
            rw [hall, hrest hh, Bool.or_false]
            unfold fitAt
            rw [hh, Bool.true_and]
          · rw [decide_eq_false c2]
            exact go (decide_eq_false (fun h => c2 h.2))
        · rw [show ((tree.getD j dN).2.1 == 1) = false by rw [beq_eq_false_iff_ne]; exact c1]
          exact go (decide_eq_false (fun h => c1 h.1))
      · rw [decide_eq_false (show ¬ (j : Int) < (tree.length : Int) by omega)]
        refine ⟨_, rfl, ?_⟩
        rw [hall, List.drop_eq_nil_of_le (by omega)]; rfl) n 0 ⟨0, rfl, by omega, by simp⟩ (by simp; omega)
    rw [e, h]
theorem bef_irr : ∀ a, bef a a = false
  | [] => rfl
  | x :: a => by simp [bef, bef_irr a]
theorem bef_trans : ∀ a b c, bef a b = true → bef b c = true → bef a c = true
  | a, [], c, h, _ => by cases a <;> cases h
  | a, y :: b, [], _, h => by cases h
  | [], y :: b, z :: c, _, _ => rfl
  | x :: a, y :: b, z :: c, h1, h2 => by
    simp only [bef] at h1 h2 ⊢
    by_cases p1 : x < y
    · by_cases p2 : y < z
      · rw [if_pos (by omega)]
      · rw [if_neg p2] at h2
        by_cases p3 : y = z
        · rw [if_pos (by omega)]
        · rw [if_neg p3] at h2; cases h2
    · rw [if_neg p1] at h1
      by_cases q1 : x = y
      · rw [if_pos q1] at h1
        by_cases p2 : y < z
        · rw [if_pos (by omega)]
        · rw [if_neg p2] at h2
          by_cases p3 : y = z
          · rw [if_pos p3] at h2
            rw [if_neg (by omega), if_pos (by omega)]
            exact bef_trans a b c h1 h2
          · rw [if_neg p3] at h2; cases h2
      · rw [if_neg q1] at h1; cases h1
def ordT (tree : List Nd) : Prop := ∀ j, 0 < j → j < tree.length → bef (tree.getD (j - 1) dN).1 (tree.getD j dN).1 = true
theorem ord_lt {tree : List Nd} (h : ordT tree) : ∀ (j i : Nat), i < j → j < tree.length → bef (tree.getD i dN).1 (tree.getD j dN).1 = true
  | 0, i, hi, _ => by omega
  | j + 1, i, hi, hj => by
    have h1 := h (j + 1) (by omega) hj
    rw [Nat.add_sub_cancel] at h1
    rcases Nat.lt_or_ge i j with h2 | h2
    · exact bef_trans _ _ _ (ord_lt h j i h2 (by omega)) h1
    · rw [show i = j by omega]; exact h1
theorem ord_dist {tree : List Nd} (h : ordT tree) : distT tree := by
  intro i j hij hj e
  have := ord_lt h j i hij hj
  rw [e, bef_irr] at this
  cases this
theorem ord_ge (a b : List Int) : decide (ord a b ≥ 0) = !bef a b := by
  rw [ord_bef]
  cases bef a b
  · cases bef b a <;> rfl
  · rfl
theorem c3 (n : Nat) (tree : List Nd) (hn : 100 < n) (hv : allV tree) (hl : tree.length ≤ 40) (ho : ordT tree) : ∃ r, loopF (F26_l26 n tree) n 0 = some r ∧ loopF (F33_l24 n tree) n 0 = some r := by
  obtain ⟨r, r', h1, h2, h3⟩ := loopF_rel (F26_l26 n tree) (F33_l24 n tree) (fun x x' => x = x' ∧ ∃ k : Nat, x = (k : Int) ∧ k ≤ tree.length) (fun r r' => r = r') (fun x => tree.length - x.toNat) (by
    rintro kk kk' x x' ⟨rfl, j, rfl, hj⟩ ih
    simp only [F26_l26, F33_l24, Int.toNat_natCast]
    by_cases hjl : j < tree.length
    · rw [decide_eq_true (show (j : Int) < (tree.length : Int) by omega), inb_true (show (0 : Int) ≤ j by omega) (show (j : Int) < tree.length by omega)]
      have hp := (hv j hjl).1
      simp only [cond_true]
      rw [fitP n tree (tree.getD j dN) hn hv hl hp, fitR n tree (tree.getD j dN) hn hv hl (ord_dist ho) hp]
      simp only [Option.bind_some]
      cases fitV tree (tree.getD j dN)
      · exact ⟨_, _, rfl, rfl, rfl⟩
      · simp only [Bool.not_true, cond_false]
        rw [w64 (n := (j : Int) + 1) (by omega) (by omega)]
        exact ih _ _ ⟨rfl, j + 1, by omega, by omega⟩ (by simp only [Int.toNat_natCast]; omega)
    · rw [decide_eq_false (show ¬ (j : Int) < (tree.length : Int) by omega)]
      exact ⟨_, _, rfl, rfl, rfl⟩) n n 0 0 ⟨rfl, 0, rfl, by omega⟩ (by simp; omega) (by simp; omega)
  exact ⟨r, h1, by rw [h2, h3]⟩
theorem c2 (n : Nat) (tree : List Nd) (hn : 100 < n) (hv : allV tree) (hl : tree.length ≤ 40) : ∃ r, loopF (F26_l25 n tree) n 1 = some r ∧ loopF (F33_l23 n tree) n 0 = some r := by
  by_cases h0 : tree.length = 0
  · obtain ⟨r, e1, e2⟩ := c3 n tree hn hv hl (fun j _ h => by omega)
    obtain ⟨m, rfl⟩ : ∃ m, n = m + 1 := ⟨n - 1, by omega⟩
    refine ⟨r, ?_, ?_⟩
    · show F26_l25 (m + 1) tree _ 1 = some r
      simp only [F26_l25]
      rw [decide_eq_false (show ¬ (1 : Int) < (tree.length : Int) by omega)]
      exact e1
    · show F33_l23 (m + 1) tree _ 0 = some r
      simp only [F33_l23]
      rw [decide_eq_false (show ¬ (0 : Int) < (tree.length : Int) by omega)]
      exact e2
  have first : loopF (F33_l23 n tree) n 0 = loopF (F33_l23 n tree) (n - 1) 1 := by
    obtain ⟨m, rfl⟩ : ∃ m, n = m + 1 := ⟨n - 1, by omega⟩
    show F33_l23 (m + 1) tree _ 0 = _
    simp only [F33_l23]
    rw [decide_eq_true (show (0 : Int) < (tree.length : Int) by omega), inb_true (show (0 : Int) ≤ 0 by omega) (show (0 : Int) < tree.length by omega), w64 (n := 0 + 1) (by omega) (by omega)]
    rfl
  rw [first]
  obtain ⟨r, r', h1, h2, h3⟩ := loopF_rel (F26_l25 n tree) (F33_l23 n tree) (fun x x' => x = x' ∧ ∃ k : Nat, x = (k : Int) ∧ 1 ≤ k ∧ k ≤ tree.length ∧ ∀ j, 0 < j → j < k → bef (tree.getD (j - 1) dN).1 (tree.getD j dN).1 = true) (fun r r' => r = r') (fun x => tree.length - x.toNat) (by
    rintro kk kk' x x' ⟨rfl, j, rfl, hj1, hj, hall⟩ ih
    simp only [F26_l25, F33_l23, Int.toNat_natCast]
    by_cases hjl : j < tree.length
    · have hp := pathE0 (hv j hjl).1
      have hp1 := pathE0 (hv (j - 1) (by omega)).1
      rw [decide_eq_true (show (j : Int) < (tree.length : Int) by omega), inb_true (show (0 : Int) ≤ j by omega) (show (j : Int) < tree.length by omega), w64 (n := (j : Int) - 1) (by omega) (by omega), inb_true (show (0 : Int) ≤ (j : Int) - 1 by omega) (show (j : Int) - 1 < tree.length by omega), decide_eq_true (show (j : Int) > 0 by omega), show ((j : Int) - 1).toNat = j - 1 by omega]
      simp only [cond_true]
      rw [rf28 n (tree.getD (j - 1) dN).1 (tree.getD j dN).1 (by omega) (by omega), rf23 (tree.getD (j - 1) dN).1 (tree.getD j dN).1 n (by omega)]
      simp only [Option.bind_some]
      rw [ord_ge]
      cases hb : bef (tree.getD (j - 1) dN).1 (tree.getD j dN).1
      · exact ⟨_, _, rfl, rfl, rfl⟩
      · simp only [Bool.not_true, cond_false]
        rw [w64 (n := (j : Int) + 1) (by omega) (by omega)]
        exact ih _ _ ⟨rfl, j + 1, by omega, by omega, by omega, fun i hi1 hi2 => by
          rcases Nat.lt_succ_iff_lt_or_eq.1 hi2 with h | h
          · exact hall i hi1 h
          · rw [h]; exact hb⟩ (by simp only [Int.toNat_natCast]; omega)
    · rw [decide_eq_false (show ¬ (j : Int) < (tree.length : Int) by omega)]
      obtain ⟨r, e1, e2⟩ := c3 n tree hn hv hl (fun i h1 h2 => hall i h1 (by omega))
      exact ⟨r, r, e1, e2, rfl⟩) n (n - 1) 1 1 ⟨rfl, 1, rfl, by omega, by omega, fun j h1 h2 => by omega⟩ (by simp; omega) (by simp; omega)
  exact ⟨r, h1, by rw [h2, h3]⟩
theorem c1 (n : Nat) (tree : List Nd) (hn : 100 < n) : ∃ r, F26 n tree = some r ∧ F33 n tree = some r ∧ (r = 0 → allV tree ∧ tree.length ≤ 40) := by
  unfold F26 F33
  by_cases hl : tree.length ≤ 40
  · rw [decide_eq_false (show ¬ ((tree.length : Nat) : Int) > 40 by omega)]
    simp only [cond_false]
    obtain ⟨r, r', h1, h2, h3, h4⟩ := loopF_rel (F26_l22 n tree) (F33_l20 n tree) (fun x x' => x = x' ∧ ∃ k : Nat, x = (k : Int) ∧ k ≤ tree.length ∧ ∀ j, j < k → nodeOk (tree.getD j dN)) (fun r r' => r = r' ∧ (r = 0 → allV tree ∧ tree.length ≤ 40)) (fun x => tree.length - x.toNat) (by
      rintro kk kk' x x' ⟨rfl, j, rfl, hj, hall⟩ ih
      simp only [F26_l22, F33_l20, Int.toNat_natCast]
      by_cases hjl : j < tree.length
      · rw [decide_eq_true (show (j : Int) < (tree.length : Int) by omega), inb_true (show (0 : Int) ≤ j by omega) (show (j : Int) < tree.length by omega)]
        simp only [cond_true]
        rw [nodeP n (tree.getD j dN) (by omega), nodeR n (tree.getD j dN) (by omega)]
        simp only [Option.bind_some]
        by_cases hb : nodeOk (tree.getD j dN)
        · rw [decide_eq_true hb]
          simp only [Bool.not_true, cond_false]
          rw [w64 (n := (j : Int) + 1) (by omega) (by omega)]
          exact ih _ _ ⟨rfl, j + 1, by omega, by omega, fun i hi2 => by
            rcases Nat.lt_succ_iff_lt_or_eq.1 hi2 with h | h
            · exact hall i h
            · rw [h]; exact hb⟩ (by simp only [Int.toNat_natCast]; omega)
        · rw [decide_eq_false hb]
          exact ⟨_, _, rfl, rfl, rfl, fun h => by cases h⟩
      · rw [decide_eq_false (show ¬ (j : Int) < (tree.length : Int) by omega)]
        have hv : allV tree := fun i hi => hall i (by omega)
        obtain ⟨r, e1, e2⟩ := c2 n tree hn hv hl
        exact ⟨r, r, e1, e2, rfl, fun _ => ⟨hv, hl⟩⟩) n n 0 0 ⟨rfl, 0, rfl, by omega, fun j h => by omega⟩ (by simp; omega) (by simp; omega)
    exact ⟨r, h1, by rw [h2, h3], h4⟩
  · rw [decide_eq_true (show ((tree.length : Nat) : Int) > 40 by omega)]
    exact ⟨_, rfl, rfl, fun h => by cases h⟩
/-- where it is found -/
theorem findE (n : Nat) (tree : List Nd) (path : List Int) (hl : tree.length + 1 < n) (hl2 : tree.length ≤ 4611686018427387904) (hp : ∀ j, j < tree.length → (tree.getD j dN).1.length ≤ 4611686018427387904 ∧ (tree.getD j dN).1.length + 1 < n) :
    ∃ i : Int, F28 n tree path = some i ∧ F34 n tree path = F34_j5 n tree i ∧ (i = -1 ∨ (0 ≤ i ∧ i < tree.length ∧ (tree.getD i.toNat dN).1 = path)) := by
  unfold F28 F34
  have fin : ∀ i : Int, (i = -1 ∨ (0 ≤ i ∧ i < tree.length ∧ (tree.getD i.toNat dN).1 = path)) → ∃ r', F34_j5 n tree i = some r' := by
    rintro i (rfl | ⟨h1, h2, h3⟩)
    · exact ⟨_, rfl⟩
    · simp only [F34_j5]
      rw [decide_eq_false (show ¬ i < 0 by omega), inb_true h1 h2]
      exact ⟨_, rfl⟩
  obtain ⟨r, r', h1, h2, h3, h4⟩ := loopF_rel (F28_l4 n tree path) (F34_l6 n tree path) (fun x x' => x = x' ∧ ∃ k : Nat, x = (k : Int) ∧ k ≤ tree.length) (fun r r' => F34_j5 n tree r = some r' ∧ (r = -1 ∨ (0 ≤ r ∧ r < tree.length ∧ (tree.getD r.toNat dN).1 = path))) (fun x => tree.length - x.toNat) (by
    rintro kk kk' x x' ⟨rfl, j, rfl, hj⟩ ih
    simp only [F28_l4, F34_l6, Int.toNat_natCast, F57, F66]
    by_cases hjl : j < tree.length
    · rw [decide_eq_true (show (j : Int) < (tree.length : Int) by omega), inb_true (show (0 : Int) ≤ j by omega) (show (j : Int) < tree.length by omega)]
      simp only [cond_true]
      rw [rf25 n (tree.getD j dN).1 path (hp j hjl).1 (hp j hjl).2]
      simp only [Option.bind_some]
      by_cases hb : (tree.getD j dN).1 = path
      · rw [decide_eq_true hb]
        have hQ : (j : Int) = -1 ∨ (0 ≤ (j : Int) ∧ (j : Int) < tree.length ∧ (tree.getD (j : Int).toNat dN).1 = path) := .inr ⟨by omega, by omega, hb⟩
        obtain ⟨r', e⟩ := fin j hQ
        exact ⟨_, r', rfl, e, e, hQ⟩
      · rw [decide_eq_false hb]
        simp only [cond_false]
        rw [w64 (n := (j : Int) + 1) (by omega) (by omega)]
        exact ih _ _ ⟨rfl, j + 1, by omega, by omega⟩ (by simp only [Int.toNat_natCast]; omega)
    · rw [decide_eq_false (show ¬ (j : Int) < (tree.length : Int) by omega)]
      exact ⟨_, _, rfl, rfl, rfl, .inl rfl⟩) n n 0 0 ⟨rfl, 0, rfl, by omega⟩ (by simp; omega) (by simp; omega)
  exact ⟨r, h1, by rw [h2, h3], h4⟩
end Go.Proofs.Ytfcilapoefaanaa
