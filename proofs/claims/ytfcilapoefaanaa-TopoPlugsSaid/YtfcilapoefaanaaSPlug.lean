/- The law TopoPlugs, in plain Lean. -/
import Derived.Test.YtfcilapoefaanaaSTree
namespace Go.Proofs.Ytfcilapoefaanaa
open Go Go.RowKit
set_option linter.unusedVariables false

theorem c2o (n : Nat) (tree : List Nd) (hn : 100 < n) (hv : allV tree) (hl : tree.length ≤ 40) : ∃ r, loopF (F26_l25 n tree) n 1 = some r ∧ loopF (F33_l23 n tree) n 0 = some r ∧ (r = 0 → ordT tree) := by
  by_cases h0 : tree.length = 0
  · obtain ⟨r, e1, e2⟩ := c3 n tree hn hv hl (fun j _ h => by omega)
    obtain ⟨m, rfl⟩ : ∃ m, n = m + 1 := ⟨n - 1, by omega⟩
    refine ⟨r, ?_, ?_, fun _ j _ h => by omega⟩
    · show F26_l25 (m + 1) tree _ 1 = some r
      simp only [F26_l25]
      rw [decide_eq_false (show ¬ (1 : Int) < (tree.length : Int) by omega)]
      exact e1
    · show F33_l23 (m + 1) tree _ 0 = some r
      simp only [F33_l23]
      rw [decide_eq_false (show ¬ (0 : Int) < (tree.length : Int) by omega)]
      exact e2
  have first : loopF (F33_l23 n tree) n 0 = loopF (F33_l23 n tree) (n - 1) 1 := by
    obtain ⟨m, rfl⟩ : ∃ m, n = m + 1 := ⟨n - 1, by omega⟩
    show F33_l23 (m + 1) tree _ 0 = _
    simp only [F33_l23]
    rw [decide_eq_true (show (0 : Int) < (tree.length : Int) by omega), inb_true (show (0 : Int) ≤ 0 by omega) (show (0 : Int) < tree.length by omega), w64 (n := 0 + 1) (by omega) (by omega)]
    rfl
  rw [first]
  obtain ⟨r, r', h1, h2, h3⟩ := loopF_rel (F26_l25 n tree) (F33_l23 n tree) (fun x x' => x = x' ∧ ∃ k : Nat, x = (k : Int) ∧ 1 ≤ k ∧ k ≤ tree.length ∧ ∀ j, 0 < j → j < k → bef (tree.getD (j - 1) dN).1 (tree.getD j dN).1 = true) (fun r r' => r = r' ∧ (r = 0 → ordT tree)) (fun x => tree.length - x.toNat) (by
    rintro kk kk' x x' ⟨rfl, j, rfl, hj1, hj, hall⟩ ih
    simp only [F26_l25, F33_l23, Int.toNat_natCast]
    by_cases hjl : j < tree.length
    · have hp := pathE0 (hv j hjl).1
      have hp1 := pathE0 (hv (j - 1) (by omega)).1
      rw [decide_eq_true (show (j : Int) < (tree.length : Int) by omega), inb_true (show (0 : Int) ≤ j by omega) (show (j : Int) < tree.length by omega), w64 (n := (j : Int) - 1) (by omega) (by omega), inb_true (show (0 : Int) ≤ (j : Int) - 1 by omega) (show (j : Int) - 1 < tree.length by omega), decide_eq_true (show (j : Int) > 0 by omega), show ((j : Int) - 1).toNat = j - 1 by omega]
      simp only [cond_true]
      rw [rf28 n (tree.getD (j - 1) dN).1 (tree.getD j dN).1 (by omega) (by omega), rf23 (tree.getD (j - 1) dN).1 (tree.getD j dN).1 n (by omega)]
      simp only [Option.bind_some]
      rw [ord_ge]
      cases hb : bef (tree.getD (j - 1) dN).1 (tree.getD j dN).1
      · exact ⟨_, _, rfl, rfl, rfl, fun h => by cases h⟩
      · simp only [Bool.not_true, cond_false]
        rw [w64 (n := (j : Int) + 1) (by omega) (by omega)]
        exact ih _ _ ⟨rfl, j + 1, by omega, by omega, by omega, fun i hi1 hi2 => by
          rcases Nat.lt_succ_iff_lt_or_eq.1 hi2 with h | h
          · exact hall i hi1 h
          · rw [h]; exact hb⟩ (by simp only [Int.toNat_natCast]; omega)
    · rw [decide_eq_false (show ¬ (j : Int) < (tree.length : Int) by omega)]
      obtain ⟨r, e1, e2⟩ := c3 n tree hn hv hl (fun i h1 h2 => hall i h1 (by omega))
      exact ⟨r, r, e1, e2, rfl, fun _ i h1 h2 => hall i h1 (by omega)⟩) n (n - 1) 1 1 ⟨rfl, 1, rfl, by omega, by omega, fun j h1 h2 => by omega⟩ (by simp; omega) (by simp; omega)
  exact ⟨r, h1, by rw [h2, h3.1], h3.2⟩
theorem c1o (n : Nat) (tree : List Nd) (hn : 100 < n) : ∃ r, F26 n tree = some r ∧ F33 n tree = some r ∧ (r = 0 → allV tree ∧ tree.length ≤ 40 ∧ ordT tree) := by
  unfold F26 F33
  by_cases hl : tree.length ≤ 40
  · rw [decide_eq_false (show ¬ ((tree.length : Nat) : Int) > 40 by omega)]
    simp only [cond_false]
    obtain ⟨r, r', h1, h2, h3, h4⟩ := loopF_rel (F26_l22 n tree) (F33_l20 n tree) (fun x x' => x = x' ∧ ∃ k : Nat, x = (k : Int) ∧ k ≤ tree.length ∧ ∀ j, j < k → nodeOk (tree.getD j dN)) (fun r r' => r = r' ∧ (r = 0 → allV tree ∧ tree.length ≤ 40 ∧ ordT tree)) (fun x => tree.length - x.toNat) (by
      rintro kk kk' x x' ⟨rfl, j, rfl, hj, hall⟩ ih
      simp only [F26_l22, F33_l20, Int.toNat_natCast]
      by_cases hjl : j < tree.length
      · rw [decide_eq_true (show (j : Int) < (tree.length : Int) by omega), inb_true (show (0 : Int) ≤ j by omega) (show (j : Int) < tree.length by omega)]
        simp only [cond_true]
        rw [nodeP n (tree.getD j dN) (by omega), nodeR n (tree.getD j dN) (by omega)]
        simp only [Option.bind_some]
        by_cases hb : nodeOk (tree.getD j dN)
        · rw [decide_eq_true hb]
          simp only [Bool.not_true, cond_false]
          rw [w64 (n := (j : Int) + 1) (by omega) (by omega)]
          exact ih _ _ ⟨rfl, j + 1, by omega, by omega, fun i hi2 => by
            rcases Nat.lt_succ_iff_lt_or_eq.1 hi2 with h | h
            · exact hall i h
            · rw [h]; exact hb⟩ (by simp only [Int.toNat_natCast]; omega)
        · rw [decide_eq_false hb]
          exact ⟨_, _, rfl, rfl, rfl, fun h => by cases h⟩
      · rw [decide_eq_false (show ¬ (j : Int) < (tree.length : Int) by omega)]
        have hv : allV tree := fun i hi => hall i (by omega)
        obtain ⟨r, e1, e2, e3⟩ := c2o n tree hn hv hl
        exact ⟨r, r, e1, e2, rfl, fun h => ⟨hv, hl, e3 h⟩⟩) n n 0 0 ⟨rfl, 0, rfl, by omega, fun j h => by omega⟩ (by simp; omega) (by simp; omega)
    exact ⟨r, h1, by rw [h2, h3], h4⟩
  · rw [decide_eq_true (show ((tree.length : Nat) : Int) > 40 by omega)]
    exact ⟨_, rfl, rfl, fun h => by cases h⟩
theorem copyN (n : Nat) (p : Nd) (h : p.1.length ≤ 17592186044416) : F30 n p.1 p.2.1 p.2.2.1 p.2.2.2 = some (p.2.1, p.2.2.1, p.2.2.2, p.1) := by
  unfold F30 F61
  rw [decide_eq_true (by simpa using h)]
  rfl
theorem eqPaths (n : Nat) (p : Nd) (h : p.1.length ≤ 4611686018427387904) (hn : p.1.length + 1 < n) : F42 n p.1 p.2.1 p.2.2.1 p.2.2.2 p.1 p.2.1 p.2.2.1 p.2.2.2 = some true := by
  unfold F42
  rw [rf25 n p.1 p.1 h hn, decide_eq_true rfl]
  simp only [Option.bind_some, cond_true, beq_self_eq_true]
theorem eqTrees (n : Nat) (l : List Nd) (hl : l.length ≤ 40) (h : ∀ p ∈ l, p.1.length ≤ 6) (hn : 100 < n) : F11 n l l = some true := by
  unfold F11
  rw [bne_self_eq_false]
  simp only [cond_false]
  refine loopF_eq (F11_l4 n l l) (fun _ => some true) (fun x => ∃ k : Nat, x = (k : Int) ∧ k ≤ l.length) (fun x => l.length - x.toNat) ?_ n 0 ⟨0, rfl, by omega⟩ (by simp; omega)
  rintro k x ⟨j, rfl, hj⟩ ih
  simp only [F11_l4, Int.toNat_natCast]
  by_cases hjl : j < l.length
  · rw [decide_eq_true (show (j : Int) < (l.length : Int) by omega), inb_true (show (0 : Int) ≤ j by omega) (show (j : Int) < l.length by omega)]
    have hm := h (l.getD j dN) (by rw [List.getD_eq_getElem?_getD, List.getElem?_eq_getElem hjl]; exact List.getElem_mem hjl)
    rw [eqPaths n (l.getD j dN) (by omega) (by omega), w64 (n := (j : Int) + 1) (by omega) (by omega)]
    simp only [cond_true, Option.bind_some, Bool.not_true, cond_false]
    exact ih _ ⟨j + 1, by omega, by omega⟩ (by simp only [Int.toNat_natCast]; omega)
  · rw [decide_eq_false (show ¬ (j : Int) < (l.length : Int) by omega)]; rfl
theorem bef_eq : ∀ a b : List Int, bef a b = beforeL a b
  | a, [] => by cases a <;> rfl
  | [], y :: b => rfl
  | x :: a, y :: b => by
    simp only [bef, beforeL]
    by_cases h : x < y
    · simp [h]
    · by_cases e : x = y
      · subst e; simp [bef_eq a b]
      · simp [h, e]
theorem ord_neg (a b : List Int) : decide (ord a b < 0) = bef a b := by
  rw [ord_bef]
  cases bef a b
  · cases bef b a <;> rfl
  · rfl
theorem getT {α : Type} (d : α) (T : List α) (k : Nat) (h : k < T.length) : T.getD k d = T[k] := by
  rw [List.getD_eq_getElem?_getD, List.getElem?_eq_getElem h]; rfl
theorem ordP {tree : List Nd} (h : ordT tree) : tree.Pairwise fun a b => bef a.1 b.1 = true := by
  rw [List.pairwise_iff_getElem]
  intro i j hi hj hij
  have := ord_lt h j i hij hj
  rwa [getT dN tree i hi, getT dN tree j hj] at this
theorem sortNV_eq (l m : List Nd) (hp : m.Perm l) (hs : m.Pairwise fun a b => bef a.1 b.1 = true) : sortNV l = m := by
  have hps : (sortNV l).Perm m := (List.mergeSort_perm _ _).trans hp.symm
  have asym : ∀ a b, bef a b = true → bef b a = false := fun a b h => by
    cases h2 : bef b a with
    | false => rfl
    | true => have := bef_trans a b a h h2; rw [bef_irr] at this; cases this
  refine List.Perm.eq_of_pairwise (le := fun a b => bef b.1 a.1 = false) ?_ ?_ (hs.imp fun h => asym _ _ h) hps
  · intro a b ha hb h1 h2
    obtain ⟨i, hi, rfl⟩ := List.getElem_of_mem (hps.subset ha)
    obtain ⟨j, hj, rfl⟩ := List.getElem_of_mem hb
    rw [List.pairwise_iff_getElem] at hs
    rcases Nat.lt_trichotomy i j with h | h | h
    · rw [hs i j hi hj h] at h2; cases h2
    · subst h; rfl
    · rw [hs j i hj hi h] at h1; cases h1
  · have := List.pairwise_mergeSort (le := fun x y : Nd => !beforeL y.1 x.1) (fun a b c h1 h2 => by
        simp only [Bool.not_eq_true'] at *
        exact before_ntrans _ _ _ h2 h1) (fun a b => by
        cases h : beforeL b.1 a.1 with
        | false => rfl
        | true =>
          have := asym _ _ (by rw [bef_eq]; exact h)
          rw [bef_eq] at this
          rw [this]; rfl) l
    exact this.imp fun h => by rw [bef_eq]; simpa using h
theorem insN_lt (T : List Nd) (x : Nd) (i : Nat) (h1 : ∀ s ∈ T.take i, bef s.1 x.1 = true) (h2 : ∀ s ∈ T.drop i, bef x.1 s.1 = true) (hs : T.Pairwise fun a b => bef a.1 b.1 = true) : (insV T i x).Pairwise fun a b => bef a.1 b.1 = true := by
  have hs2 := hs
  rw [← List.take_append_drop i T] at hs2
  obtain ⟨p1, p2, p3⟩ := List.pairwise_append.1 hs2
  refine List.pairwise_append.2 ⟨p1, List.pairwise_cons.2 ⟨h2, p2⟩, fun a ha b hb => ?_⟩
  rcases List.mem_cons.1 hb with rfl | hb
  · exact h1 a ha
  · exact p3 a ha b hb
theorem insN (T : List Nd) (x : Nd) (i : Nat) (h1 : ∀ s ∈ T.take i, bef s.1 x.1 = true) (h2 : ∀ s ∈ T.drop i, bef x.1 s.1 = true) (hs : T.Pairwise fun a b => bef a.1 b.1 = true) : sortNV (T ++ [x]) = insV T i x := by
  refine sortNV_eq _ _ ?_ (insN_lt T x i h1 h2 hs)
  unfold insV
  refine List.perm_middle.trans ?_
  rw [List.take_append_drop]
  exact (List.perm_append_singleton x T).symm
theorem bef_tot {a b : List Int} (h : bef a b = false) (hne : a ≠ b) : bef b a = true := by
  cases h2 : bef b a with
  | true => rfl
  | false => rw [bef_eq] at h h2; exact absurd (before_tot a b h h2) hne
/-- there is a place for it -/
theorem exN (x : Nd) : ∀ L : List Nd, (L.Pairwise fun a b => bef a.1 b.1 = true) → (∀ s ∈ L, s.1 ≠ x.1) → ∃ i, (∀ s ∈ L.take i, bef s.1 x.1 = true) ∧ ∀ s ∈ L.drop i, bef x.1 s.1 = true
  | [], _, _ => ⟨0, by simp, by simp⟩
  | a :: L, hp, hn => by
    obtain ⟨p1, p2⟩ := List.pairwise_cons.1 hp
    cases q : bef a.1 x.1 with
    | true =>
      obtain ⟨i, i1, i2⟩ := exN x L p2 fun s hs => hn s (List.mem_cons_of_mem _ hs)
      refine ⟨i + 1, fun s hs => ?_, fun s hs => i2 s (by simpa using hs)⟩
      rw [List.take_succ_cons] at hs
      rcases List.mem_cons.1 hs with rfl | hs
      · exact q
      · exact i1 s hs
    | false =>
      have hxa := bef_tot q (hn a List.mem_cons_self)
      refine ⟨0, by simp, fun s hs => ?_⟩
      rw [List.drop_zero] at hs
      rcases List.mem_cons.1 hs with rfl | hs
      · exact hxa
      · exact bef_trans _ _ _ hxa (p1 s hs)
theorem sortNC_ok (tree : List Nd) (x : Nd) (hl : tree.length ≤ 40) (ho : ordT tree) (hne : ∀ s ∈ tree, s.1 ≠ x.1) : sortNC (tree ++ [x]) = true := by
  obtain ⟨i, i1, i2⟩ := exN x tree (ordP ho) hne
  have hp : (sortNV (tree ++ [x])).Pairwise fun a b => beforeL a.1 b.1 = true := by
    rw [insN tree x i i1 i2 (ordP ho)]
    exact (insN_lt tree x i i1 i2 (ordP ho)).imp fun h => by rw [← bef_eq]; exact h
  simp only [sortNC, Bool.and_eq_true, Bool.not_eq_true', decide_eq_true_eq]
  exact ⟨⟨by simp, by simp; omega⟩, hp⟩
theorem findNone (n : Nat) (tree : List Nd) (path : List Int) (hn : 100 < n) (hv : allV tree) (hl : tree.length ≤ 40) : ∃ i, F28 n tree path = some i ∧ (i = -1 → ∀ s ∈ tree, s.1 ≠ path) := by
  unfold F28
  refine loopF_post (F28_l4 n tree path) (fun x => ∃ k : Nat, x = (k : Int) ∧ k ≤ tree.length ∧ ∀ s ∈ tree.take k, s.1 ≠ path) (fun _ i => i = -1 → ∀ s ∈ tree, s.1 ≠ path) (fun x => tree.length - x.toNat) ?_ n 0 ⟨0, rfl, by omega, by simp⟩ (by simp; omega)
  rintro kk x ⟨j, rfl, hj, hall⟩ ih
  simp only [F28_l4, Int.toNat_natCast, F57]
  by_cases hjl : j < tree.length
  · have hp := pathE0 (hv j hjl).1
    rw [decide_eq_true (show (j : Int) < (tree.length : Int) by omega), inb_true (show (0 : Int) ≤ j by omega) (show (j : Int) < tree.length by omega)]
    simp only [cond_true]
    rw [rf25 n (tree.getD j dN).1 path (by omega) (by omega)]
    simp only [Option.bind_some]
    by_cases hb : (tree.getD j dN).1 = path
    · rw [decide_eq_true hb]
      exact ⟨_, rfl, fun h => by omega⟩
    · rw [decide_eq_false hb]
      simp only [cond_false]
      rw [w64 (n := (j : Int) + 1) (by omega) (by omega)]
      refine ih _ ⟨j + 1, by omega, by omega, fun s hs => ?_⟩ (by simp only [Int.toNat_natCast]; omega)
      rw [take_getD dN tree j hjl] at hs
      rcases List.mem_append.1 hs with hs | hs
      · exact hall s hs
      · obtain rfl := List.mem_singleton.1 hs; exact hb
  · rw [decide_eq_false (show ¬ (j : Int) < (tree.length : Int) by omega)]
    rw [List.take_of_length_le (by omega)] at hall
    exact ⟨_, rfl, fun _ => hall⟩
theorem plugI (n : Nat) (tree : List Nd) (p : Nd) (hn : 100 < n) (hv : allV tree) (hl : tree.length ≤ 40) (ho : ordT tree) (hp : p.1.length ≤ 6) (hne : ∀ s ∈ tree, s.1 ≠ p.1) :
    loopF (F9_l8 n p.1 p.2.1 p.2.2.1 p.2.2.2 tree) n 0 = some (0, sortNV (tree ++ [p])) := by
  have hP := ordP ho
  refine loopF_eq (F9_l8 n p.1 p.2.1 p.2.2.1 p.2.2.2 tree) (fun _ => some (0, sortNV (tree ++ [p]))) (fun x => ∃ k : Nat, x = (k : Int) ∧ k ≤ tree.length ∧ ∀ s ∈ tree.take k, bef s.1 p.1 = true) (fun x => tree.length - x.toNat) ?_ n 0 ⟨0, rfl, by omega, by simp⟩ (by simp; omega)
  rintro kk x ⟨k, rfl, hk, hall⟩ ih
  simp only [F9_l8, Int.toNat_natCast]
  rw [copyN n p (by omega)]
  simp only [Option.bind_some]
  have hcond : (0 : Int) ≤ (k : Int) ∧ (k : Int) ≤ ((tree.length : Nat) : Int) ∧ tree.length ≤ 1000000 ∧ [(p.1, (p.2.1, (p.2.2.1, p.2.2.2)))].length = 1 := ⟨by omega, by omega, by omega, rfl⟩
  by_cases hkl : k < tree.length
  · have hp1 := pathE0 (hv k hkl).1
    rw [decide_eq_true (show (k : Int) < (tree.length : Int) by omega), inb_true (show (0 : Int) ≤ k by omega) (show (k : Int) < tree.length by omega)]
    simp only [cond_true]
    rw [rf28 n (tree.getD k dN).1 p.1 (by omega) (by omega), Option.bind_some, ord_neg]
    cases hb : bef (tree.getD k dN).1 p.1 with
    | true =>
      rw [cond_true, w64 (n := (k : Int) + 1) (by omega) (by omega)]
      refine ih _ ⟨k + 1, by omega, by omega, fun s hs => ?_⟩ (by simp only [Int.toNat_natCast]; omega)
      rw [take_getD dN tree k hkl] at hs
      rcases List.mem_append.1 hs with hs | hs
      · exact hall s hs
      · obtain rfl := List.mem_singleton.1 hs; exact hb
    | false =>
      rw [cond_false, decide_eq_true hcond, cond_true]
      have h2 : ∀ s ∈ tree.drop k, bef p.1 s.1 = true := by
        intro s hs
        have hin : tree.getD k dN ∈ tree := by rw [getT dN tree k hkl]; exact List.getElem_mem hkl
        have hxa := bef_tot hb (hne _ hin)
        have hd := drop_getD dN tree k hkl
        rw [hd] at hs
        rcases List.mem_cons.1 hs with rfl | hs
        · exact hxa
        · have hq := hP
          rw [← List.take_append_drop k tree, hd] at hq
          exact bef_trans _ _ _ hxa ((List.pairwise_cons.1 (List.pairwise_append.1 hq).2.1).1 s hs)
      rw [insN tree p k hall h2 hP]; rfl
  · obtain rfl : k = tree.length := by omega
    rw [decide_eq_false (show ¬ ((tree.length : Nat) : Int) < (tree.length : Int) by omega), cond_false, decide_eq_true hcond, cond_true]
    rw [List.take_length] at hall
    rw [insN tree p tree.length (by rw [List.take_length]; exact hall) (by simp) hP]; rfl
theorem plugP (n : Nat) (tree : List Nd) (p : Nd) (hn : 100 < n) (hv : allV tree) (hl : tree.length ≤ 40) (ho : ordT tree) (hp : p.1.length ≤ 6) (hne : ∀ s ∈ tree, s.1 ≠ p.1) :
    loopF (F9_l7 n tree p.1 p.2.1 p.2.2.1 p.2.2.2) n (0, []) = some (0, sortNV (tree ++ [p])) := by
  refine loopF_eq (F9_l7 n tree p.1 p.2.1 p.2.2.1 p.2.2.2) (fun _ => some (0, sortNV (tree ++ [p]))) (fun x => ∃ k : Nat, x = ((k : Int), tree.take k) ∧ k ≤ tree.length) (fun x => tree.length - x.1.toNat) ?_ n (0, []) ⟨0, rfl, by omega⟩ (by simp; omega)
  rintro kk x ⟨k, rfl, hk⟩ ih
  simp only [F9_l7, Int.toNat_natCast]
  by_cases hkl : k < tree.length
  · have hp1 := pathE0 (hv k hkl).1
    rw [decide_eq_true (show (k : Int) < (tree.length : Int) by omega), inb_true (show (0 : Int) ≤ k by omega) (show (k : Int) < tree.length by omega), copyN n (tree.getD k dN) (by omega), w64 (n := (k : Int) + 1) (by omega) (by omega)]
    simp only [cond_true, Option.bind_some]
    rw [decide_eq_true (by simp only [List.length_singleton, List.length_take]; omega)]
    simp only [cond_true]
    have e1 := take_getD dN tree k hkl
    have ih' := ih _ ⟨k + 1, rfl, by omega⟩ (by simp only [Int.toNat_natCast]; omega)
    rw [e1] at ih'
    exact ih'
  · rw [decide_eq_false (show ¬ (k : Int) < (tree.length : Int) by omega), cond_false, List.take_of_length_le (by omega)]
    exact plugI n tree p hn hv hl ho hp hne
theorem plugsN (n : Nat) (hn : 100 < n) (tree : List Nd) (p : Nd) : F4 n tree p.1 p.2.1 p.2.2.1 p.2.2.2 = some true := by
  have key : ∃ r, F9 n tree p.1 p.2.1 p.2.2.1 p.2.2.2 = some r ∧ F10 n tree p.1 p.2.1 p.2.2.1 p.2.2.2 = some r ∧ (r.2.length ≤ 40 ∧ ∀ q ∈ r.2, q.1.length ≤ 6) := by
    obtain ⟨r, e1, e2, e3⟩ := c1o n tree hn
    unfold F9 F10
    rw [e1, e2]
    simp only [Option.bind_some]
    by_cases h0 : r = 0
    · subst h0
      obtain ⟨hv, hl, ho⟩ := e3 rfl
      have hlen : ∀ j, j < tree.length → (tree.getD j dN).1.length ≤ 6 := fun j hj => (pathE0 (hv j hj).1).2
      obtain ⟨i, f1, f2, f3⟩ := findE n tree p.1 (by omega) (by omega) (fun j hj => ⟨by have := hlen j hj; omega, by have := hlen j hj; omega⟩)
      obtain ⟨i', g1, g2⟩ := findNone n tree p.1 hn hv hl
      rw [f1] at g1
      obtain rfl := Option.some.inj g1
      rw [f1, f2, nodeP n p (by omega), nodeR n p (by omega)]
      have hj5 : ∃ y, F34_j5 n tree i = some y ∧ y.2.2.2.2 = decide (0 ≤ i) := by
        rcases f3 with rfl | ⟨q1, q2, q3⟩
        · exact ⟨_, rfl, rfl⟩
        · simp only [F34_j5]
          rw [decide_eq_false (show ¬ i < 0 by omega), inb_true q1 q2, decide_eq_true q1]
          exact ⟨_, rfl, rfl⟩
      obtain ⟨y, y1, y2⟩ := hj5
      rw [y1]
      simp only [Option.bind_some, bne_self_eq_false, cond_false, y2]
      by_cases hok : nodeOk p
      · rw [decide_eq_true hok]
        simp only [Bool.not_true, cond_false]
        by_cases hi : 0 ≤ i
        · rw [decide_eq_true hi]
          exact ⟨_, rfl, rfl, by simp, by simp⟩
        · rw [decide_eq_false hi, fitP n tree p hn hv hl hok.1, fitR n tree p hn hv hl (ord_dist ho) hok.1]
          simp only [cond_false, Option.bind_some]
          cases fitV tree p with
          | false => exact ⟨_, rfl, rfl, by simp, by simp⟩
          | true =>
            simp only [Bool.not_true, cond_false]
            by_cases h40 : tree.length = 40
            · rw [show (((tree.length : Nat) : Int) == 40) = true by rw [h40]; rfl]
              exact ⟨_, rfl, rfl, by simp, by simp⟩
            · rw [show (((tree.length : Nat) : Int) == 40) = false by rw [beq_eq_false_iff_ne]; omega]
              simp only [cond_false]
              have hne := g2 (by rcases f3 with h | h; · exact h
                                 · omega)
              have hp6 := (pathE0 hok.1).2
              rw [plugP n tree p hn hv hl ho hp6 hne]
              unfold F37
              rw [decide_eq_true (show ([] : List Nd).length + tree.length ≤ 2932031007402 by simp; omega)]
              simp only [cond_true, Option.bind_some, List.nil_append]
              rw [decide_eq_true (show tree.length + [(p.1, (p.2.1, (p.2.2.1, p.2.2.2)))].length ≤ 2932031007402 by simp; omega), cond_true]
              have hs := sortNC_ok tree p hl ho hne
              rw [show (tree ++ [(p.1, (p.2.1, (p.2.2.1, p.2.2.2)))]) = tree ++ [p] from rfl, decide_eq_true hs, cond_true]
              have hperm : (sortNV (tree ++ [p])).Perm (tree ++ [p]) := List.mergeSort_perm _ _
              refine ⟨_, rfl, rfl, ?_, fun q hq => ?_⟩
              · show (sortNV _).length ≤ 40
                rw [hperm.length_eq]; simp; omega
              · rcases List.mem_append.1 (hperm.subset hq) with hq | hq
                · obtain ⟨j, hj, rfl⟩ := List.getElem_of_mem hq
                  have := hlen j hj
                  rwa [getT dN tree j hj] at this
                · obtain rfl := List.mem_singleton.1 hq; exact hp6
      · rw [decide_eq_false hok]
        exact ⟨_, rfl, rfl, by simp, by simp⟩
    · rw [show (r != 0) = true by simp [h0]]
      exact ⟨_, rfl, rfl, by simp, by simp⟩
  obtain ⟨r, e1, e2, e3, e4⟩ := key
  unfold F4
  rw [e1, e2]
  simp only [Option.bind_some]
  rw [eqTrees n r.2 e3 e4 hn]
  simp
theorem topoPlugs_says (a0 : Sh.T (.sl (.st (.pair (.sl (.int .i64)) (.pair (.int .i64) (.pair (.int .i64) (.int .i64))))))) (g0 : Sh.good (.sl (.st (.pair (.sl (.int .i64)) (.pair (.int .i64) (.pair (.int .i64) (.int .i64)))))) a0) (a1 : Sh.T (.st (.pair (.sl (.int .i64)) (.pair (.int .i64) (.pair (.int .i64) (.int .i64)))))) (g1 : Sh.good (.st (.pair (.sl (.int .i64)) (.pair (.int .i64) (.pair (.int .i64) (.int .i64))))) a1) :
    ∃ n, F4 n a0 a1.1 a1.2.1 a1.2.2.1 a1.2.2.2 = some true := ⟨101, plugsN 101 (by omega) a0 a1⟩
end Go.Proofs.Ytfcilapoefaanaa
