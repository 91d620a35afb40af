/- The pieces of a text between its points. -/
import Derived.Lib.Split
import Derived.Lib.Join
namespace Go.Proofs.YtgjklpadcmedkaaDoor
open Go
set_option linter.unusedVariables false

abbrev Tx := List UInt8
theorem ix_cons (b : UInt8) (l sub : Tx) : Lib.index (b :: l) sub = if sub.isPrefixOf (b :: l) = true then 0 else if (Lib.index l sub == -1) = true then -1 else Lib.index l sub + 1 := by
  rw [Lib.index]
theorem pre46 (b : UInt8) (l : Tx) : List.isPrefixOf [46] (b :: l) = (46 == b) := by simp [List.isPrefixOf]
theorem ix_none : ∀ (a : Tx), (∀ x ∈ a, x ≠ 46) → Lib.index a [46] = -1
  | [], _ => rfl
  | b :: l, h => by
    rw [ix_cons, pre46, ix_none l fun x hx => h x (List.mem_cons_of_mem _ hx)]
    have : (46 == b) = false := by
      rw [beq_eq_false_iff_ne]; exact fun e => h b (by simp) e.symm
    rw [this]; rfl
theorem ix_some : ∀ (a b : Tx), (∀ x ∈ a, x ≠ 46) → Lib.index (a ++ 46 :: b) [46] = ((a.length : Nat) : Int)
  | [], b, _ => by rw [List.nil_append, ix_cons, pre46]; rfl
  | c :: l, b, h => by
    rw [List.cons_append, ix_cons, pre46, ix_some l b fun x hx => h x (List.mem_cons_of_mem _ hx)]
    have : (46 == c) = false := by
      rw [beq_eq_false_iff_ne]; exact fun e => h c (by simp) e.symm
    have h2 : (((l.length : Nat) : Int) == -1) = false := by rw [beq_eq_false_iff_ne]; omega
    rw [this, h2]
    simp
/-- a text, cut at its first point -/
theorem cut46 : ∀ s : Tx, (∀ x ∈ s, x ≠ 46) ∨ ∃ a b, s = a ++ 46 :: b ∧ ∀ x ∈ a, x ≠ 46
  | [] => .inl (by simp)
  | c :: l => by
    by_cases hc : c = 46
    · subst hc; exact .inr ⟨[], l, rfl, by simp⟩
    · rcases cut46 l with h | ⟨a, b, rfl, h⟩
      · left; intro x hx
        rcases List.mem_cons.1 hx with rfl | hx
        · exact hc
        · exact h x hx
      · right; refine ⟨c :: a, b, rfl, ?_⟩
        intro x hx
        rcases List.mem_cons.1 hx with rfl | hx
        · exact hc
        · exact h x hx
/-- the pieces -/
def pcs : Tx → List Tx
  | [] => [[]]
  | c :: l => bif c == 46 then [] :: pcs l else (c :: (pcs l).headD []) :: (pcs l).tail
theorem pcs_cons (c : UInt8) (l : Tx) : pcs (c :: l) = bif c == 46 then [] :: pcs l else (c :: (pcs l).headD []) :: (pcs l).tail := rfl
theorem pcs_none : ∀ (a : Tx), (∀ x ∈ a, x ≠ 46) → pcs a = [a]
  | [], _ => rfl
  | b :: l, h => by
    have hb : (b == 46) = false := by rw [beq_eq_false_iff_ne]; exact h b (by simp)
    rw [pcs_cons, hb, pcs_none l fun x hx => h x (List.mem_cons_of_mem _ hx)]; rfl
theorem pcs_some : ∀ (a b : Tx), (∀ x ∈ a, x ≠ 46) → pcs (a ++ 46 :: b) = a :: pcs b
  | [], b, _ => rfl
  | c :: l, b, h => by
    have hc : (c == 46) = false := by rw [beq_eq_false_iff_ne]; exact h c (by simp)
    rw [List.cons_append, pcs_cons, hc, pcs_some l b fun x hx => h x (List.mem_cons_of_mem _ hx)]; rfl
theorem pcs_ne (s : Tx) : pcs s ≠ [] := by
  cases s with
  | nil => simp [pcs]
  | cons c l => unfold pcs; cases (c == 46) <;> simp
theorem pcs_len (s : Tx) : (pcs s).length ≤ s.length + 1 := by
  induction s with
  | nil => simp [pcs]
  | cons c l ih =>
    unfold pcs
    cases (c == 46)
    · have h0 : 1 ≤ (pcs l).length := by
        rcases hl : pcs l with _ | ⟨x, y⟩
        · exact absurd hl (pcs_ne l)
        · simp
      simp only [cond_false, List.length_cons, List.length_tail]; omega
    · simp only [cond_true, List.length_cons]; omega
theorem pcs_mem : ∀ (s x : Tx), x ∈ pcs s → x.length ≤ s.length
  | [], x, h => by simp [pcs] at h; subst h; simp
  | c :: l, x, h => by
    rw [pcs_cons] at h
    cases hc : (c == 46) with
    | true =>
      rw [hc] at h
      rcases List.mem_cons.1 h with rfl | h
      · simp
      · have := pcs_mem l x h; simp; omega
    | false =>
      rw [hc] at h
      rcases hl : pcs l with _ | ⟨y, q⟩
      · exact absurd hl (pcs_ne l)
      rw [hl] at h
      rcases List.mem_cons.1 h with rfl | h
      · have := pcs_mem l y (by rw [hl]; simp); simp; omega
      · have := pcs_mem l x (by rw [hl]; exact List.mem_cons_of_mem _ h); simp; omega
/-- the pieces, joined -/
theorem pcs_join : ∀ (n : Nat) (s : Tx), s.length ≤ n → [46].intercalate (pcs s) = s
  | 0, s, h => by
    obtain rfl : s = [] := List.length_eq_zero_iff.1 (by omega)
    rfl
  | n + 1, s, h => by
    rcases cut46 s with hs | ⟨a, b, rfl, hs⟩
    · rw [pcs_none s hs]; simp [List.intercalate, List.intersperse]
    · rw [pcs_some a b hs]
      have ih := pcs_join n b (by simp at h; omega)
      rcases hb : pcs b with _ | ⟨x, y⟩
      · exact absurd hb (pcs_ne b)
      · rw [hb] at ih
        simp only [List.intercalate, List.intersperse, List.flatten_cons] at ih ⊢
        rw [ih]; rfl
/-- what is joined, cut into its pieces -/
theorem pcs_of_join : ∀ (l : List Tx), l ≠ [] → (∀ p ∈ l, ∀ x ∈ p, x ≠ 46) → pcs ([46].intercalate l) = l
  | [], h, _ => absurd rfl h
  | [p], _, h => by
    have : [46].intercalate [p] = p := by simp [List.intercalate, List.intersperse]
    rw [this]; exact pcs_none p (h p (by simp))
  | p :: q :: l, _, h => by
    have e : [46].intercalate (p :: q :: l) = p ++ 46 :: [46].intercalate (q :: l) := by simp [List.intercalate, List.intersperse]
    rw [e, pcs_some _ _ (h p (by simp)), pcs_of_join (q :: l) (by simp) fun p hp => h p (List.mem_cons_of_mem _ hp)]
theorem splitK_pcs : ∀ (k : Nat) (s : Tx), (pcs s).length ≤ k + 1 → Lib.splitK [46] 0 k s = pcs s
  | 0, s, h => by
    rcases cut46 s with hs | ⟨a, b, rfl, hs⟩
    · rw [pcs_none s hs]; rfl
    · rw [pcs_some a b hs] at h
      have h0 : 1 ≤ (pcs b).length := by
        rcases hl : pcs b with _ | ⟨x, y⟩
        · exact absurd hl (pcs_ne b)
        · simp
      simp only [List.length_cons] at h
      omega
  | k + 1, s, h => by
    unfold Lib.splitK
    rcases cut46 s with hs | ⟨a, b, rfl, hs⟩
    · rw [ix_none s hs, pcs_none s hs]; rfl
    · have h2 : (((a.length : Nat) : Int) == -1) = false := by rw [beq_eq_false_iff_ne]; omega
      rw [pcs_some a b hs] at h ⊢
      have h3 : (a ++ 46 :: b).drop (a.length + 1) = b := by
        rw [List.drop_append]
        simp
      rw [ix_some a b hs, h2, if_neg (by simp)]
      simp only [Int.toNat_natCast, List.length_singleton, Nat.add_zero, h3]
      rw [splitK_pcs k b (by simpa using h)]
      simp
end Go.Proofs.YtgjklpadcmedkaaDoor
