/- Levels of bits and bits of levels; in plain Lean. -/
import Derived.Test.YthihcmehaekiiaaDoorFlb
import Derived.Test.YthihcmehaekiiaaDoorAm26
import Derived.Test.YthihcmehaekiiaaDoorAm22
namespace Go.Proofs.YthihcmehaekiiaaDoor
open Go Go.RowKit
set_option linter.unusedVariables false

abbrev Tx := List UInt8
/-! a text of some signs alone -/
def onlyB (s c : Tx) : Bool := s.all fun b => c.contains b
theorem drop_self {p : UInt8 → Bool} : ∀ (l : Tx), (∀ x ∈ l.dropWhile p, p x = true) → ∀ x ∈ l, p x = true
  | [], _ => fun x hx => by cases hx
  | a :: l, h => by
    by_cases ha : p a = true
    · rw [List.dropWhile_cons_of_pos ha] at h
      intro x hx
      rcases List.mem_cons.1 hx with rfl | hx
      · exact ha
      · exact drop_self l h x hx
    · rw [List.dropWhile_cons_of_neg ha] at h
      exact h
theorem drop_all {p : UInt8 → Bool} : ∀ (l : Tx), (∀ x ∈ l, p x = true) → l.dropWhile p = []
  | [], _ => rfl
  | a :: l, h => by
    rw [List.dropWhile_cons_of_pos (h a (List.mem_cons_self ..))]
    exact drop_all l fun x hx => h x (List.mem_cons_of_mem _ hx)
theorem drop_nil {p : UInt8 → Bool} : ∀ (l : Tx), l.dropWhile p = [] → ∀ x ∈ l, p x = true
  | l, h => drop_self l (by rw [h]; intro x hx; cases hx)
theorem trim_only (s c : Tx) : (Lib.trimS s c == []) = onlyB s c := by
  unfold onlyB Lib.trimS Lib.trimLeftS Lib.trimRightS
  cases h : s.all fun b => c.contains b with
  | true =>
    rw [List.all_eq_true] at h
    rw [drop_all s.reverse (fun x hx => h x (List.mem_reverse.1 hx))]; rfl
  | false =>
    refine beq_eq_false_iff_ne.2 fun e => ?_
    have h1 := drop_nil _ e
    have h2 : ∀ x ∈ s.reverse, c.contains x = true := drop_self _ fun x hx => h1 x (List.mem_reverse.2 hx)
    have h3 : (s.all fun b => c.contains b) = true := List.all_eq_true.2 fun x hx => h2 x (List.mem_reverse.2 hx)
    rw [h] at h3; cases h3
theorem isP (n : Nat) (s c : Tx) (hs : s.length ≤ 140737488355328) (hc : c.length < 1000) (ha : (c.all fun b => decide (b.toNat < 128)) = true) : F28 n s c = some (onlyB s c) := by
  unfold F28 F40
  rw [decide_eq_true (show s.length ≤ 9223372036854775807 ∧ c.length < 4294967281 ∧ (c.all fun b => decide (b.toNat < 128)) = true from ⟨by omega, by omega, ha⟩)]
  simp only [cond_true, Option.bind_some, trim_only]
theorem ix_neg : ∀ (c : Tx) (b : UInt8), (Lib.indexByte c b = -1 ∨ 0 ≤ Lib.indexByte c b) ∧ (decide (Lib.indexByte c b < 0) = !c.contains b)
  | [], b => by simp [Lib.indexByte]
  | a :: c, b => by
    obtain ⟨h1, h2⟩ := ix_neg c b
    unfold Lib.indexByte
    by_cases h : a = b
    · subst h; simp
    · rw [show (a == b) = false from beq_eq_false_iff_ne.2 h]
      simp only [Bool.false_eq_true, if_false]
      have hc : (a :: c).contains b = c.contains b := by
        simp only [List.contains_cons, show (b == a) = false from beq_eq_false_iff_ne.2 (fun e => h e.symm), Bool.false_or]
      rw [hc, ← h2]
      rcases h1 with h1 | h1
      · rw [h1]; simp
      · rw [show (Lib.indexByte c b == -1) = false from beq_eq_false_iff_ne.2 (by omega)]
        simp only [Bool.false_eq_true, if_false]
        exact ⟨.inr (by omega), by rw [decide_eq_false (by omega), decide_eq_false (by omega)]⟩
theorem onlyP (n : Nat) (s c : Tx) (hs : s.length ≤ 140737488355328) (hn : 140737488355338 < n) : F30 n s c = some (onlyB s c) := by
  unfold F30
  refine (loopF_eq (F30_l2 n s c) (fun x => some (onlyB (s.drop x.toNat) c)) (fun x => ∃ k : Nat, x = (k : Int) ∧ k ≤ s.length) (fun x => s.length - x.toNat) ?_ n 0 ⟨0, rfl, by omega⟩ (by simp; omega)).trans (by simp)
  rintro kk x ⟨k, rfl, hk⟩ ih
  simp only [F30_l2, F43, Int.toNat_natCast]
  by_cases hkl : k < s.length
  · have ed : s.drop k = s.getD k 0 :: s.drop (k + 1) := by
      rw [List.drop_eq_getElem_cons hkl]; simp [List.getD_eq_getElem?_getD, hkl]
    have ek : ((k : Int) + 1).toNat = k + 1 := by omega
    rw [decide_eq_true (show (k : Int) < ((s.length : Nat) : Int) by omega), inb_true (by omega) (by omega), w64 (n := (k : Int) + 1) (by omega) (by omega), ih ((k : Int) + 1) ⟨k + 1, by omega, by omega⟩ (by simp only [Int.toNat_natCast, ek]; omega), ek, ed]
    simp only [cond_true, Option.bind_some, onlyB, List.all_cons, (ix_neg c _).2, Nat.toUInt8_eq, UInt8.ofNat_toNat]
    cases c.contains (s.getD k 0) <;> rfl
  · rw [decide_eq_false (by omega), List.drop_of_length_le (by omega)]; rfl
/-! rows that are filled -/
end Go.Proofs.YthihcmehaekiiaaDoor
