/- Runs of ones, stuffed and unstuffed; in plain Lean. -/
import Derived.Test.YtekmnhplhoejdaaDoorSTurns
import Derived.Test.YtekmnhplhoejdaaDoorAm32
namespace Go.Proofs.YtekmnhplhoejdaaDoor
open Go Go.RowKit
set_option linter.unusedVariables false

abbrev S6 : Tx := [49, 49, 49, 49, 49, 49]
abbrev S7 : Tx := [49, 49, 49, 49, 49, 49, 48]
def bits01 (l : Tx) : Prop := ∀ x ∈ l, x = 48 ∨ x = 49
theorem bits_of {row : Tx} (h : onlyB row [48, 49] = true) : bits01 row := fun x hx => by
  have := (List.all_eq_true.1 h) x hx
  simpa using this
theorem bits_drop {l : Tx} (h : bits01 l) (k : Nat) : bits01 (l.drop k) := fun x hx => h x (List.mem_of_mem_drop hx)
/-! Stuff -/
def stF : Nat → Tx → Tx
  | _, [] => []
  | o, c :: l => if c = 48 then c :: stF 0 l else if o = 5 then c :: 48 :: stF 0 l else c :: stF (o + 1) l
theorem stF_len : ∀ (l : Tx) (o : Nat), (stF o l).length ≤ 2 * l.length
  | [], o => by simp [stF]
  | c :: l, o => by
    have h0 := stF_len l 0
    have h1 := stF_len l (o + 1)
    simp only [stF]
    split
    · simp only [List.length_cons]; omega
    · split
      · simp only [List.length_cons]; omega
      · simp only [List.length_cons]; omega
theorem stF_app : ∀ (a b : Tx) (o : Nat), stF o (a ++ 48 :: b) = stF o a ++ 48 :: stF 0 b
  | [], b, o => by simp [stF]
  | c :: a, b, o => by
    simp only [List.cons_append, stF, stF_app a b]
    split
    · rfl
    · split <;> rfl
theorem stF_small : ∀ (k o : Nat), o + k < 6 → stF o (List.replicate k 49) = List.replicate k 49
  | 0, o, _ => rfl
  | k + 1, o, h => by
    rw [List.replicate_succ]
    simp only [stF]
    rw [if_neg (by decide), if_neg (by omega), stF_small k (o + 1) (by omega)]
theorem stF_big (k : Nat) : stF 0 (List.replicate (k + 6) 49) = S7 ++ stF 0 (List.replicate k 49) := by
  simp [List.replicate_succ, stF, S7]
theorem index_cons (b : UInt8) (l sub : Tx) : Lib.index (b :: l) sub = if sub.isPrefixOf (b :: l) = true then 0 else if (Lib.index l sub == -1) = true then -1 else Lib.index l sub + 1 := by
  rw [Lib.index]
theorem ix_small (k : Nat) (h : k < 6) : Lib.index (List.replicate k 49) S6 = -1 := by
  have : k = 0 ∨ k = 1 ∨ k = 2 ∨ k = 3 ∨ k = 4 ∨ k = 5 := by omega
  rcases this with rfl | rfl | rfl | rfl | rfl | rfl <;> rfl
theorem ix_big (l : Tx) : Lib.index (S6 ++ l) S6 = 0 := by
  show Lib.index (49 :: (49 :: 49 :: 49 :: 49 :: 49 :: l)) S6 = 0
  rw [index_cons, if_pos (by simp [S6, List.isPrefixOf])]
theorem repl6 (k : Nat) : List.replicate (k + 6) (49 : UInt8) = S6 ++ List.replicate k 49 := by simp [List.replicate_succ, S6]
theorem rep_eq (s : Tx) : Lib.replaceAll s S6 S7 = Lib.replaceK S6 S7 (Lib.count s S6) s := by
  unfold Lib.replaceAll Lib.replace Lib.replaceNum
  rw [if_neg (by decide), if_pos (Or.inl (by decide))]
theorem rep_ones : ∀ (n k : Nat), k ≤ n → Lib.replaceAll (List.replicate k 49) S6 S7 = stF 0 (List.replicate k 49)
  | 0, k, h => by
    obtain rfl : k = 0 := by omega
    rfl
  | n + 1, k, h => by
    by_cases hk : k < 6
    · rw [stF_small k 0 (by omega), rep_eq, Lib.count_miss (ix_small k hk)]; rfl
    · obtain ⟨j, rfl⟩ : ∃ j, k = j + 6 := ⟨k - 6, by omega⟩
      have ih := rep_ones n j (by omega)
      have hi : Lib.index (List.replicate (j + 6) 49) S6 = ((0 : Nat) : Int) := by rw [repl6, ix_big]; rfl
      have hd : (List.replicate (j + 6) (49 : UInt8)).drop (0 + S6.length) = List.replicate j 49 := by simp
      rw [stF_big, rep_eq, Lib.count_hit (by decide) hi, Nat.add_comm 1, Lib.replaceK_hit _ _ _ _ _ hi, hd, ← ih, rep_eq]
      rfl
theorem ones_of {a : Tx} (h : ∀ x ∈ a, x = 49) : a = List.replicate a.length 49 := List.eq_replicate_iff.2 ⟨rfl, h⟩
theorem ix48_none : ∀ (a : Tx), (∀ x ∈ a, x = 49) → Lib.index a [48] = -1
  | [], _ => rfl
  | c :: a, h => by
    have hc := h c (List.mem_cons_self ..)
    subst hc
    have ih := ix48_none a fun x hx => h x (List.mem_cons_of_mem _ hx)
    rw [index_cons, if_neg (by simp [List.isPrefixOf]), ih]; rfl
theorem ix48_some : ∀ (a b : Tx), (∀ x ∈ a, x = 49) → Lib.index (a ++ 48 :: b) [48] = ((a.length : Nat) : Int)
  | [], b, _ => by rw [List.nil_append, index_cons, if_pos (by simp [List.isPrefixOf])]; rfl
  | c :: a, b, h => by
    have hc := h c (List.mem_cons_self ..)
    subst hc
    have ih := ix48_some a b fun x hx => h x (List.mem_cons_of_mem _ hx)
    rw [List.cons_append, index_cons, if_neg (by simp [List.isPrefixOf]), ih, if_neg (by simp)]
    simp
theorem parts48 : ∀ (row : Tx), bits01 row → (∀ x ∈ row, x = 49) ∨ ∃ a b, row = a ++ 48 :: b ∧ ∀ x ∈ a, x = 49
  | [], _ => .inl (by simp)
  | c :: l, h => by
    rcases h c (List.mem_cons_self ..) with rfl | rfl
    · exact .inr ⟨[], l, rfl, by simp⟩
    · rcases parts48 l (fun x hx => h x (List.mem_cons_of_mem _ hx)) with h1 | ⟨a, b, rfl, h1⟩
      · exact .inl fun x hx => by
          rcases List.mem_cons.1 hx with rfl | hx
          · rfl
          · exact h1 x hx
      · exact .inr ⟨49 :: a, b, rfl, fun x hx => by
          rcases List.mem_cons.1 hx with rfl | hx
          · rfl
          · exact h1 x hx⟩
theorem split_none (a : Tx) (h : ∀ x ∈ a, x = 49) : Lib.split a [48] = [a] := by
  unfold Lib.split
  rw [Lib.count_miss (ix48_none a h)]; rfl
theorem split_some (a b : Tx) (h : ∀ x ∈ a, x = 49) : Lib.split (a ++ 48 :: b) [48] = a :: Lib.split b [48] := by
  have hi := ix48_some a b h
  have hd : (a ++ 48 :: b).drop (a.length + ([48] : Tx).length) = b := by
    rw [show a.length + ([48] : Tx).length = a.length + 1 from rfl, ← List.drop_drop, List.drop_left]; rfl
  unfold Lib.split
  rw [Lib.count_hit (by decide) hi, hd, Nat.add_comm 1, Lib.splitK, hi, if_neg (by simp), Int.toNat_natCast, Nat.add_zero, hd, List.take_left]
def repR (a : Tx) : Tx := Lib.replaceAll a S6 S7
theorem repR_ones (a : Tx) (h : ∀ x ∈ a, x = 49) : repR a = stF 0 a := by
  unfold repR
  rw [ones_of h]
  exact rep_ones _ _ (Nat.le_refl _)
theorem join_cons2 (x : Tx) (r : List Tx) (sep : Tx) (hr : r ≠ []) : Lib.join (x :: r) sep = x ++ sep ++ Lib.join r sep := by
  cases r with
  | nil => exact absurd rfl hr
  | cons y r =>
    rw [Lib.join_cons, Lib.join_cons]
    simp [Lib.joinTail, List.append_assoc]
theorem split_law : ∀ (n : Nat) (row : Tx), row.length ≤ n → bits01 row →
    Lib.join ((Lib.split row [48]).map repR) [48] = stF 0 row ∧ Lib.split row [48] ≠ [] ∧ (Lib.split row [48]).length ≤ row.length + 1 ∧ ∀ a ∈ Lib.split row [48], (∀ x ∈ a, x = 49) ∧ a.length ≤ row.length
  | 0, row, h, hb => by
    obtain rfl : row = [] := List.length_eq_zero_iff.1 (by omega)
    rw [split_none [] (by simp)]
    refine ⟨by rw [List.map_cons, List.map_nil, Lib.join_one]; rfl, by simp, by simp, fun a ha => ?_⟩
    obtain rfl : a = [] := by simpa using ha
    exact ⟨by simp, Nat.le_refl _⟩
  | n + 1, row, h, hb => by
    rcases parts48 row hb with h1 | ⟨a, b, rfl, h1⟩
    · rw [split_none row h1]
      refine ⟨by rw [List.map_cons, List.map_nil, Lib.join_one, repR_ones row h1], by simp, by simp, fun a ha => ?_⟩
      obtain rfl : a = row := by simpa using ha
      exact ⟨h1, Nat.le_refl _⟩
    · rw [List.length_append, List.length_cons] at h
      obtain ⟨e1, e2, e3, e4⟩ := split_law n b (by omega) (fun x hx => hb x (by simp [hx]))
      rw [split_some a b h1]
      refine ⟨?_, by simp, by simp only [List.length_cons, List.length_append]; omega, fun x hx => ?_⟩
      · rw [List.map_cons, join_cons2 _ _ _ (by simpa using e2), e1, repR_ones a h1, stF_app]; simp
      · rw [List.length_append, List.length_cons]
        rcases List.mem_cons.1 hx with rfl | hx
        · exact ⟨h1, by omega⟩
        · exact ⟨(e4 x hx).1, by have := (e4 x hx).2; omega⟩
/-! Unstuff -/
def unF : Nat → Tx → Tx → Tx × Int
  | o, [], acc => if o = 6 then ([], 3) else (acc, 0)
  | o, c :: l, acc => if o = 6 then (if c = 49 then ([], 6) else unF 0 l acc) else if c = 48 then unF 0 l (acc ++ [c]) else unF (o + 1) l (acc ++ [c])
theorem pre_no (l : Tx) (o : Nat) (h : o ≤ 5) : S6.isPrefixOf (List.replicate o 49 ++ 48 :: l) = false := by
  have : o = 0 ∨ o = 1 ∨ o = 2 ∨ o = 3 ∨ o = 4 ∨ o = 5 := by omega
  rcases this with rfl | rfl | rfl | rfl | rfl | rfl <;> rfl
theorem ix_skip (l : Tx) : ∀ (o : Nat), o ≤ 5 → Lib.index (List.replicate o 49 ++ 48 :: l) S6 = if (Lib.index l S6 == -1) = true then -1 else Lib.index l S6 + ((o + 1 : Nat) : Int)
  | 0, h => by
    have := pre_no l 0 h
    rw [List.replicate_zero, List.nil_append] at this ⊢
    rw [index_cons, this]; rfl
  | o + 1, h => by
    have hp := pre_no l (o + 1) h
    have ih := ix_skip l o (by omega)
    have hge := Lib.index_ge l S6
    rw [List.replicate_succ, List.cons_append] at hp ⊢
    rw [index_cons, hp, ih]
    simp only [Bool.false_eq_true, if_false, beq_iff_eq]
    split
    · rfl
    · rw [if_neg (by omega)]; omega
theorem repl_mid (o : Nat) (l : Tx) : List.replicate o (49 : UInt8) ++ 49 :: l = List.replicate (o + 1) 49 ++ l := by
  rw [List.replicate_succ', List.append_assoc]; rfl
theorem unA : ∀ (l : Tx) (o : Nat) (acc : Tx), o ≤ 5 → bits01 l → Lib.index (List.replicate o 49 ++ l) S6 = -1 → unF o l acc = (acc ++ l, 0)
  | [], o, acc, h, _, _ => by simp only [unF]; rw [if_neg (by omega), List.append_nil]
  | c :: l, o, acc, h, hb, hi => by
    have hb2 : bits01 l := fun x hx => hb x (List.mem_cons_of_mem _ hx)
    simp only [unF]
    rw [if_neg (by omega)]
    rcases hb c (List.mem_cons_self ..) with rfl | rfl
    · rw [if_pos rfl]
      rw [ix_skip l o h] at hi
      have hge := Lib.index_ge l S6
      have h0 : Lib.index l S6 = -1 := by
        split at hi
        · rename_i hh; exact beq_iff_eq.1 hh
        · omega
      rw [unA l 0 (acc ++ [48]) (by omega) hb2 h0]; simp
    · rw [if_neg (by decide)]
      rw [repl_mid] at hi
      have ho : o + 1 ≤ 5 := by
        rcases Nat.lt_or_ge (o + 1) 6 with h6 | h6
        · omega
        · obtain rfl : o = 5 := by omega
          rw [show List.replicate (5 + 1) (49 : UInt8) = S6 from rfl, ix_big] at hi
          cases hi
      rw [unA l (o + 1) (acc ++ [49]) ho hb2 hi]; simp
theorem unB : ∀ (l : Tx) (o : Nat) (acc : Tx) (i : Nat), o ≤ 5 → bits01 l → Lib.index (List.replicate o 49 ++ l) S6 = (i : Int) → unF o l acc = unF 6 (l.drop (i + 6 - o)) (acc ++ l.take (i + 6 - o))
  | [], o, acc, i, h, _, hi => by
    rw [List.append_nil, ix_small o (by omega)] at hi
    omega
  | c :: l, o, acc, i, h, hb, hi => by
    have hb2 : bits01 l := fun x hx => hb x (List.mem_cons_of_mem _ hx)
    rw [unF, if_neg (by omega)]
    rcases hb c (List.mem_cons_self ..) with rfl | rfl
    · rw [if_pos rfl]
      rw [ix_skip l o h] at hi
      have hge := Lib.index_ge l S6
      have h0 : Lib.index l S6 = ((i - (o + 1) : Nat) : Int) ∧ o + 1 ≤ i := by
        split at hi
        · omega
        · rename_i hh
          have : Lib.index l S6 ≠ -1 := fun e => hh (beq_iff_eq.2 e)
          omega
      rw [unB l 0 (acc ++ [48]) (i - (o + 1)) (by omega) hb2 h0.1]
      obtain ⟨j, rfl⟩ : ∃ j, i = j + (o + 1) := ⟨i - (o + 1), by omega⟩
      rw [show j + (o + 1) - (o + 1) + 6 - 0 = j + 6 by omega, show j + (o + 1) + 6 - o = j + 6 + 1 by omega, List.drop_succ_cons, List.take_succ_cons]
      simp
    · rw [if_neg (by decide)]
      rw [repl_mid] at hi
      rcases Nat.lt_or_ge (o + 1) 6 with h6 | h6
      · rw [unB l (o + 1) (acc ++ [49]) i (by omega) hb2 hi]
        rw [show i + 6 - o = (i + 6 - (o + 1)) + 1 by omega, List.drop_succ_cons, List.take_succ_cons]
        simp
      · obtain rfl : o = 5 := by omega
        rw [show List.replicate (5 + 1) (49 : UInt8) = S6 from rfl, ix_big] at hi
        obtain rfl : i = 0 := by omega
        rfl
end Go.Proofs.YtekmnhplhoejdaaDoor
