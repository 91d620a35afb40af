import Derived.Test.YtdgdkbpmmemphaaFhp
import Derived.Test.YtdgdkbpmmemphaaAm26
/- The law RingGets, in plain Lean. -/
namespace Go.Proofs.Ytdgdkbpmmemphaa
open Go Go.RowKit
open Classical
set_option linter.unusedVariables false

abbrev Cells := List (Int × Int × Bool)
def cw (c : Cells) (i : Nat) : Int := (c.getD i (0, (0, false))).1
def cb (c : Cells) (i : Nat) : Int := (c.getD i (0, (0, false))).2.1
def cl (c : Cells) (i : Nat) : Bool := (c.getD i (0, (0, false))).2.2
def bit01 (x : Int) : Prop := x = 0 ∨ x = 1
def cellG (c : Cells) (i : Nat) : Prop := cl c i = decide (i + 1 = c.length) ∧ bit01 (cb c i)
def atG (c : Cells) (k : Int) : Prop := 0 ≤ k ∧ k < (c.length : Int) - 1
def goodR (c : Cells) (pa pb ga gb se : Int) : Prop := (∀ i, i < c.length → cellG c i) ∧ bit01 pb ∧ bit01 gb ∧ cw c (c.length - 1) = 0 ∧ atG c pa ∧ atG c ga ∧ atG c se
noncomputable def ringE (c : Cells) (pa pb ga gb se : Int) : Int := if ¬ (3 ≤ c.length ∧ c.length ≤ 64) then 1 else if goodR c pa pb ga gb se then 0 else 4
theorem g78 (n : Nat) (b : Int) : F103 n b = some (decide (bit01 b)) := by
  unfold F103
  by_cases h : b = 0
  · rw [show (b == 0) = true by simpa using h, decide_eq_true (show bit01 b from .inl h)]; rfl
  · rw [show (b == 0) = false by simpa using h]
    by_cases h1 : b = 1
    · rw [show (b == 1) = true by simpa using h1, decide_eq_true (show bit01 b from .inr h1)]; rfl
    · rw [show (b == 1) = false by simpa using h1, decide_eq_false (show ¬ bit01 b from fun hh => hh.elim h h1)]; rfl
theorem g79 (n : Nat) (c : Cells) (k : Int) (h : 3 ≤ c.length) (h2 : c.length ≤ 64) : F104 n k ((c.length : Nat) : Int) = some (decide (atG c k)) := by
  unfold F104
  rw [w64 (by omega) (by omega)]
  by_cases h1 : 0 ≤ k
  · rw [decide_eq_true (show k ≥ 0 from h1)]
    simp only [cond_true, Option.some.injEq]
    rw [Bool.eq_iff_iff, decide_eq_true_iff, decide_eq_true_iff]
    exact ⟨fun e => ⟨h1, e⟩, fun e => e.2⟩
  · rw [decide_eq_false (show ¬ k ≥ 0 from h1), decide_eq_false (show ¬ atG c k from fun hh => h1 hh.1)]; rfl
section
variable {c : Cells} {pa pb ga gb se : Int}
theorem g36 (n : Nat) (hn : 100 < n) : F77 n c pa pb ga gb se = some (ringE c pa pb ga gb se) := by
  unfold F77 ringE
  by_cases h3 : c.length < 3
  · rw [decide_eq_true (show ((c.length : Nat) : Int) < 3 by omega), if_pos (by omega)]; rfl
  rw [decide_eq_false (show ¬ ((c.length : Nat) : Int) < 3 by omega)]
  by_cases h64 : 64 < c.length
  · rw [decide_eq_true (show ((c.length : Nat) : Int) > 64 by omega), if_pos (by omega)]; rfl
  rw [decide_eq_false (show ¬ ((c.length : Nat) : Int) > 64 by omega), if_neg (by omega)]
  simp only [cond_false]
  refine loopF_eq (F77_l2 n c pa pb ga gb se) (fun _ => some (if goodR c pa pb ga gb se then 0 else 4)) (fun x => ∃ k : Nat, x = (k : Int) ∧ k ≤ c.length ∧ ∀ i, i < k → cellG c i) (fun x => c.length - x.toNat) ?_ n 0 ⟨0, rfl, by omega, fun j hj => by omega⟩ (by simp; omega)
  rintro kk x ⟨k, rfl, hk, hall⟩ ih
  have no : ¬ goodR c pa pb ga gb se → some (4 : Int) = some (if goodR c pa pb ga gb se then 0 else 4) := fun h => by rw [if_neg h]
  simp only [F77_l2, Int.toNat_natCast, g78, g79 n c _ (by omega) (by omega), Option.bind_some]
  by_cases hka : k < c.length
  · rw [decide_eq_true (show (k : Int) < (c.length : Int) by omega), inb_true (show (0 : Int) ≤ k by omega) (show (k : Int) < c.length by omega), w64 (n := ((c.length : Nat) : Int) - 1) (by omega) (by omega), w64 (n := (k : Int) + 1) (by omega) (by omega)]
    simp only [cond_true]
    show (bif !(cl c k == ((k : Int) == ((c.length : Nat) : Int) - 1)) then some 4 else bif !decide (bit01 (cb c k)) then some 4 else kk ((k : Int) + 1)) = _
    have e : ((k : Int) == ((c.length : Nat) : Int) - 1) = decide (k + 1 = c.length) := by
      rw [Bool.eq_iff_iff, beq_iff_eq, decide_eq_true_iff]; omega
    rw [e]
    by_cases g1 : cl c k = decide (k + 1 = c.length)
    · rw [show (cl c k == decide (k + 1 = c.length)) = true by simpa using g1]
      by_cases g2 : bit01 (cb c k)
      · rw [decide_eq_true g2]
        simp only [Bool.not_true, cond_false]
        exact ih _ ⟨k + 1, by omega, by omega, fun j hj => by
          rcases Nat.lt_succ_iff_lt_or_eq.1 hj with h | h
          · exact hall j h
          · subst h; exact ⟨g1, g2⟩⟩ (by simp only [Int.toNat_natCast]; omega)
      · rw [decide_eq_false g2]; exact no (fun h => g2 (h.1 k hka).2)
    · rw [show (cl c k == decide (k + 1 = c.length)) = false by simpa using g1]; exact no (fun h => g1 (h.1 k hka).1)
  · rw [decide_eq_false (show ¬ (k : Int) < (c.length : Int) by omega), w64 (n := ((c.length : Nat) : Int) - 1) (by omega) (by omega), inb_true (show (0 : Int) ≤ ((c.length : Nat) : Int) - 1 by omega) (show ((c.length : Nat) : Int) - 1 < c.length by omega)]
    simp only [cond_false, cond_true]
    rw [show (((c.length : Nat) : Int) - 1).toNat = c.length - 1 by omega]
    show (bif !decide (bit01 pb) then some 4 else bif !decide (bit01 gb) then some 4 else bif cw c (c.length - 1) != 0 then some 4 else bif !decide (atG c pa) then some 4 else bif !decide (atG c ga) then some 4 else bif !decide (atG c se) then some 4 else some 0) = _
    by_cases q1 : bit01 pb
    · rw [decide_eq_true q1]
      by_cases q2 : bit01 gb
      · rw [decide_eq_true q2]
        by_cases q3 : cw c (c.length - 1) = 0
        · rw [q3]
          by_cases q4 : atG c pa
          · rw [decide_eq_true q4]
            by_cases q5 : atG c ga
            · rw [decide_eq_true q5]
              by_cases q6 : atG c se
              · rw [decide_eq_true q6, if_pos ⟨fun i hi => hall i (by omega), q1, q2, q3, q4, q5, q6⟩]; rfl
              · rw [decide_eq_false q6]; exact no (fun h => q6 h.2.2.2.2.2.2)
            · rw [decide_eq_false q5]; exact no (fun h => q5 h.2.2.2.2.2.1)
          · rw [decide_eq_false q4]; exact no (fun h => q4 h.2.2.2.2.1)
        · rw [show (cw c (c.length - 1) != 0) = true by simpa using q3]; exact no (fun h => q3 h.2.2.2.1)
      · rw [decide_eq_false q2]; exact no (fun h => q2 h.2.2.1)
    · rw [decide_eq_false q1]; exact no (fun h => q1 h.2.1)
theorem ring0 (h : ringE c pa pb ga gb se = 0) : (3 ≤ c.length ∧ c.length ≤ 64) ∧ goodR c pa pb ga gb se := by
  unfold ringE at h
  by_cases h1 : 3 ≤ c.length ∧ c.length ≤ 64
  · rw [if_neg (fun hh => hh h1)] at h
    by_cases h2 : goodR c pa pb ga gb se
    · exact ⟨h1, h2⟩
    · rw [if_neg h2] at h; omega
  · rw [if_pos h1] at h; omega
end
end Go.Proofs.Ytdgdkbpmmemphaa

/- What plugref.Board and slots.Check say of a board, in plain Lean. -/
namespace Go.Proofs.Ytdgdkbpmmemphaa
open Go Go.RowKit
open Classical
set_option linter.unusedVariables false

abbrev Slot := Int × Int × List Int × List Int
abbrev Slots := List Slot
abbrev zeroS : Slot := (0, (0, ((List.replicate 32 (0 : Int)), (List.replicate 32 (0 : Int)))))
def eqS (s t : Slot) : Bool := Sh.beq (.st (.pair (.int .i64) (.pair (.int .i64) (.pair (.arr 32 (.int .i64)) (.arr 32 (.int .i64)))))) s t
def sl (b : Slots) (i : Nat) : Slot := b.getD i zeroS
def en (s : Slot) (k : Nat) : Int := s.2.2.1.getD k 0
def mk' (s : Slot) (k : Nat) : Int := s.2.2.2.getD k 0
theorem rep0 (k : Nat) : (List.replicate 32 (0 : Int)).getD k 0 = 0 := by
  simp only [List.getD_eq_getElem?_getD, List.getElem?_replicate]
  split <;> rfl
theorem eqS_zero (s : Slot) : eqS s zeroS = true ↔ s.1 = 0 ∧ s.2.1 = 0 ∧ (∀ k, k < 32 → en s k = 0) ∧ (∀ k, k < 32 → mk' s k = 0) := by
  unfold eqS
  simp only [Sh.beq, Sh.dflt, Bool.and_eq_true, List.all_eq_true, beq_iff_eq, List.mem_range, rep0]
  exact Iff.rfl
def endOk (s : Slot) (k : Nat) : Prop := (0 ≤ en s k ∧ en s k ≤ 3) ∧ (0 ≤ mk' s k ∧ mk' s k ≤ 65535) ∧ (en s k = 0 → mk' s k = 0)
def endsOk (s : Slot) : Prop := ∀ k, k < 32 → endOk s k
def moreE (s : Slot) : Prop := ∃ k, 2 ≤ k ∧ k < 32 ∧ en s k ≠ 0
def zeroR (s : Slot) : Prop := s.2.1 = 0 ∧ (∀ k, k < 32 → en s k = 0) ∧ (∀ k, k < 32 → mk' s k = 0)
def slotG (s : Slot) : Prop := ((0 ≤ s.1 ∧ s.1 ≤ 1) ∧ zeroR s) ∨ ((2 ≤ s.1 ∧ s.1 ≤ 3) ∧ (1 ≤ s.2.1 ∧ s.2.1 ≤ 127) ∧ en s 0 = 0 ∧ en s 1 ≠ 0 ∧ endsOk s ∧ (moreE s ↔ s.1 = 3))
def apartG (b : Slots) (i : Nat) : Prop := ∀ k, 1 ≤ k → k < i → (sl b i).2.1 ≠ 0 → (sl b i).2.1 ≠ (sl b k).2.1
def boardG (b : Slots) : Prop := eqS (sl b 0) zeroS = true ∧ ∀ i, 1 ≤ i → i < 9 → slotG (sl b i) ∧ apartG b i
noncomputable def boardE (b : Slots) : Int := if boardG b then 0 else 4
theorem b16 (n : Nat) (v lo hi : Int) : F23 n v lo hi = some (decide (lo ≤ v ∧ v ≤ hi)) := by
  unfold F23
  by_cases h : lo ≤ v
  · rw [decide_eq_true h]
    simp only [cond_true, Option.some.injEq]
    rw [Bool.eq_iff_iff, decide_eq_true_iff, decide_eq_true_iff]
    exact ⟨fun e => ⟨h, e⟩, fun e => e.2⟩
  · rw [decide_eq_false h, decide_eq_false (show ¬ (lo ≤ v ∧ v ≤ hi) from fun hh => h hh.1)]; rfl
theorem b65 (n : Nat) (hn : 100 < n) (s : Slot) : F106 n s.1 s.2.1 s.2.2.1 s.2.2.2 2 31 = some (decide (moreE s)) := by
  unfold F106
  refine loopF_eq (F106_l2 n s.2.2.1 31) (fun _ => some (decide (moreE s))) (fun x => ∃ k : Nat, x = (k : Int) ∧ 2 ≤ k ∧ k ≤ 32 ∧ ∀ j, 2 ≤ j → j < k → en s j = 0) (fun x => 32 - x.toNat) ?_ n 2 ⟨2, rfl, by omega, by omega, fun j h1 h2 => by omega⟩ (by simp; omega)
  rintro kk x ⟨k, rfl, h2, hk, hall⟩ ih
  simp only [F106_l2, Int.toNat_natCast]
  by_cases hka : k < 32
  · rw [decide_eq_true (show (k : Int) ≤ 31 by omega), inb_true (show (0 : Int) ≤ k by omega) (show (k : Int) < (32 : Nat) by omega), w64 (n := (k : Int) + 1) (by omega) (by omega)]
    simp only [cond_true]
    show (bif en s k != 0 then some true else kk ((k : Int) + 1)) = _
    by_cases he : en s k = 0
    · rw [he]
      exact ih _ ⟨k + 1, by omega, by omega, by omega, fun j hj1 hj => by
        rcases Nat.lt_succ_iff_lt_or_eq.1 hj with h | h
        · exact hall j hj1 h
        · subst h; exact he⟩ (by simp only [Int.toNat_natCast]; omega)
    · rw [show (en s k != 0) = true by simpa using he, decide_eq_true (show moreE s from ⟨k, h2, hka, he⟩)]; rfl
  · rw [decide_eq_false (show ¬ (k : Int) ≤ 31 by omega), decide_eq_false (show ¬ moreE s by rintro ⟨j, h1, h3, h4⟩; exact h4 (hall j h1 (by omega)))]; rfl
def restG (s : Slot) : Prop := (∀ k, 1 ≤ k → k < 32 → endOk s k) ∧ (moreE s ↔ s.1 = 3)
theorem j12f (n : Nat) (K : Bool × Int → Option Bool) (s : Slot) (more : Bool) (k : Nat) (h1 : 1 ≤ k) (hk : k < 32) : F85_j12 n K s.2.2.1 more (k : Int) false = K (more || (decide (1 < k) && (en s k != 0)), ((k + 1 : Nat) : Int)) := by
  simp only [F85_j12, cond_false, Int.toNat_natCast]
  rw [w64 (n := (k : Int) + 1) (by omega) (by omega), inb_true (show (0 : Int) ≤ k by omega) (show (k : Int) < (32 : Nat) by omega)]
  cases more
  · by_cases h : 1 < k
    · rw [decide_eq_true (show (k : Int) > 1 by omega), decide_eq_true h]; rfl
    · rw [decide_eq_false (show ¬ (k : Int) > 1 by omega), decide_eq_false h]; rfl
  · rfl
theorem b11 (n : Nat) (hn : 100 < n) (s : Slot) (g1 : ¬ s.1 ≤ 1) : loopF (F85_l11 n s.1 s.2.2.1 s.2.2.2) n (false, 1) = some (decide (restG s)) := by
  refine loopF_eq (F85_l11 n s.1 s.2.2.1 s.2.2.2) (fun _ => some (decide (restG s))) (fun d => ∃ k : Nat, d.2 = (k : Int) ∧ 1 ≤ k ∧ k ≤ 32 ∧ (d.1 = true ↔ ∃ j, 2 ≤ j ∧ j < k ∧ en s j ≠ 0) ∧ ∀ j, 1 ≤ j → j < k → endOk s j) (fun d => 32 - d.2.toNat) ?_ n (false, 1) ⟨1, rfl, by omega, by omega, ⟨fun h => (by cases h), fun ⟨j, h1, h2, _⟩ => by omega⟩, fun j h1 h2 => by omega⟩ (by simp; omega)
  rintro kk ⟨more, x⟩ ⟨k, rfl, h1, hk, hm, hall⟩ ih
  simp only at hm
  simp only [F85_l11, Int.toNat_natCast]
  by_cases hka : k < 32
  · rw [decide_eq_true (show (k : Int) < 32 by omega), inb_true (show (0 : Int) ≤ k by omega) (show (k : Int) < (32 : Nat) by omega)]
    simp only [cond_true]
    have jt : ∀ m : Bool, F85_j12 n kk s.2.2.1 m (k : Int) true = some false := fun m => rfl
    have no : ¬ endOk s k → some false = some (decide (restG s)) := fun h => by rw [decide_eq_false (fun hh => h (hh.1 k h1 hka))]
    have yes : endOk s k → F85_j12 n kk s.2.2.1 more (k : Int) false = some (decide (restG s)) := fun h => by
      rw [j12f n kk s more k h1 hka]
      refine ih _ ⟨k + 1, rfl, by omega, by omega, ?_, fun j hj1 hj => ?_⟩ (by simp only [Int.toNat_natCast]; omega)
      · simp only [Bool.or_eq_true, Bool.and_eq_true, decide_eq_true_eq, bne_iff_ne]
        constructor
        · rintro (h2 | ⟨h2, h3⟩)
          · obtain ⟨j, a1, a2, a3⟩ := hm.1 h2
            exact ⟨j, a1, by omega, a3⟩
          · exact ⟨k, by omega, by omega, h3⟩
        · rintro ⟨j, a1, a2, a3⟩
          rcases Nat.lt_succ_iff_lt_or_eq.1 a2 with h2 | h2
          · exact .inl (hm.2 ⟨j, a1, h2, a3⟩)
          · subst h2; exact .inr ⟨by omega, a3⟩
      · rcases Nat.lt_succ_iff_lt_or_eq.1 hj with h2 | h2
        · exact hall j hj1 h2
        · subst h2; exact h
    show (bif decide (en s k < 0) then _ else bif decide (en s k > 3) then _ else bif decide (mk' s k < 0) then _ else bif decide (mk' s k > 65535) then _ else bif en s k == 0 then F85_j12 n kk s.2.2.1 more (k : Int) (mk' s k != 0) else F85_j12 n kk s.2.2.1 more (k : Int) false) = _
    by_cases q1 : en s k < 0
    · rw [decide_eq_true q1]; exact no (fun h => by unfold endOk at h; omega)
    rw [decide_eq_false q1]
    by_cases q2 : en s k > 3
    · rw [decide_eq_true q2]; exact no (fun h => by unfold endOk at h; omega)
    rw [decide_eq_false q2]
    by_cases q3 : mk' s k < 0
    · rw [decide_eq_true q3]; exact no (fun h => by unfold endOk at h; omega)
    rw [decide_eq_false q3]
    by_cases q4 : mk' s k > 65535
    · rw [decide_eq_true q4]; exact no (fun h => by unfold endOk at h; omega)
    rw [decide_eq_false q4]
    simp only [cond_false]
    by_cases q5 : en s k = 0
    · rw [show (en s k == 0) = true by simpa using q5]
      by_cases q6 : mk' s k = 0
      · rw [show (mk' s k != 0) = false by simpa using q6]
        exact yes (by unfold endOk; omega)
      · rw [show (mk' s k != 0) = true by simpa using q6]
        exact no (fun h => q6 (h.2.2 q5))
    · rw [show (en s k == 0) = false by simpa using q5]
      exact yes (by unfold endOk; omega)
  · rw [decide_eq_false (show ¬ (k : Int) < 32 by omega)]
    obtain rfl : k = 32 := by omega
    simp only [cond_false, Option.some.injEq]
    rw [Bool.eq_iff_iff, beq_iff_eq, decide_eq_true_iff]
    unfold restG moreE
    rw [← hm]
    constructor
    · intro h
      refine ⟨fun j h1 h2 => hall j h1 h2, ?_⟩
      rw [h]
      simp
    · rintro ⟨_, h⟩
      rw [Bool.eq_iff_iff, h]
      simp
theorem b111 (n : Nat) (hn : 100 < n) (s : Slot) : F85 n s.1 s.2.1 s.2.2.1 s.2.2.2 = some (decide (slotG s)) := by
  have no : ¬ slotG s → some false = some (decide (slotG s)) := fun h => by rw [decide_eq_false h]
  unfold F85
  by_cases h1 : s.1 ≤ 1
  · rw [decide_eq_true h1]
    simp only [cond_true]
    have e : Sh.beq (.st (.pair (.int .i64) (.pair (.int .i64) (.pair (.arr 32 (.int .i64)) (.arr 32 (.int .i64)))))) (s.1, (s.2.1, (s.2.2.1, s.2.2.2))) (s.1, (0, ((List.replicate 32 (0 : Int)), (List.replicate 32 (0 : Int))))) = decide (zeroR s) := by
      rw [Bool.eq_iff_iff, decide_eq_true_iff]
      simp only [Sh.beq, Sh.dflt, Bool.and_eq_true, List.all_eq_true, beq_iff_eq, List.mem_range, rep0, true_and]
      exact Iff.rfl
    rw [e]
    by_cases hz : zeroR s
    · rw [decide_eq_true hz]
      simp only [cond_true, Option.some.injEq]
      rw [Bool.eq_iff_iff, decide_eq_true_iff, decide_eq_true_iff]
      constructor
      · intro h; exact .inl ⟨⟨h, h1⟩, hz⟩
      · rintro (h | h)
        · exact h.1.1
        · omega
    · rw [decide_eq_false hz]
      refine no ?_
      rintro (h | h)
      · exact hz h.2
      · omega
  · rw [decide_eq_false h1]
    simp only [cond_false]
    have jt : F85_j7 n s.1 s.2.2.1 s.2.2.2 true = some false := rfl
    have no2 : ¬ ((2 ≤ s.1 ∧ s.1 ≤ 3) ∧ (1 ≤ s.2.1 ∧ s.2.1 ≤ 127) ∧ en s 0 = 0 ∧ en s 1 ≠ 0 ∧ endsOk s ∧ (moreE s ↔ s.1 = 3)) → F85_j7 n s.1 s.2.2.1 s.2.2.2 true = some (decide (slotG s)) := fun h => by
      rw [jt]
      refine no ?_
      rintro (h2 | h2)
      · omega
      · exact h h2
    by_cases g1 : s.1 > 3
    · rw [decide_eq_true g1]; exact no2 (fun h => by omega)
    rw [decide_eq_false g1]
    by_cases g2 : s.2.1 < 1
    · rw [decide_eq_true g2]; exact no2 (fun h => by omega)
    rw [decide_eq_false g2]
    by_cases g3 : s.2.1 > 127
    · rw [decide_eq_true g3]; exact no2 (fun h => by omega)
    rw [decide_eq_false g3]
    simp only [cond_false]
    show (bif en s 1 == 0 then _ else bif en s 0 != 0 then _ else F85_j7 n s.1 s.2.2.1 s.2.2.2 (mk' s 0 != 0)) = _
    by_cases g4 : en s 1 = 0
    · rw [show (en s 1 == 0) = true by simpa using g4]; exact no2 (fun h => h.2.2.2.1 g4)
    rw [show (en s 1 == 0) = false by simpa using g4]
    by_cases g5 : en s 0 = 0
    · rw [show (en s 0 != 0) = false by simpa using g5]
      simp only [cond_false]
      by_cases g6 : mk' s 0 = 0
      · rw [show (mk' s 0 != 0) = false by simpa using g6]
        unfold F85_j7
        simp only [cond_false]
        rw [b11 n hn s h1, Option.some.injEq, Bool.eq_iff_iff, decide_eq_true_iff, decide_eq_true_iff]
        constructor
        · rintro ⟨r1, r2⟩
          refine .inr ⟨by omega, by omega, g5, g4, fun k hk => ?_, r2⟩
          by_cases hk0 : k = 0
          · subst hk0; unfold endOk; omega
          · exact r1 k (by omega) hk
        · rintro (h | h)
          · omega
          · exact ⟨fun k _ hk => h.2.2.2.2.1 k hk, h.2.2.2.2.2⟩
      · rw [show (mk' s 0 != 0) = true by simpa using g6]; exact no2 (fun h => g6 ((h.2.2.2.2.1 0 (by omega)).2.2 g5))
    · rw [show (en s 0 != 0) = true by simpa using g5]; exact no2 (fun h => g5 h.2.2.1)
theorem b66i (n : Nat) (hn : 100 < n) (K : Int → Option Int) (b : Slots) (i : Nat) (h1 : 1 ≤ i) (hi : i < 9) : loopF (F53_l8 n K b (i : Int)) n 1 = if apartG b i then K ((i + 1 : Nat) : Int) else some 4 := by
  refine loopF_eq (F53_l8 n K b (i : Int)) (fun _ => if apartG b i then K ((i + 1 : Nat) : Int) else some 4) (fun x => ∃ k : Nat, x = (k : Int) ∧ 1 ≤ k ∧ k ≤ i ∧ ∀ j, 1 ≤ j → j < k → (sl b i).2.1 ≠ 0 → (sl b i).2.1 ≠ (sl b j).2.1) (fun x => 9 - x.toNat) ?_ n 1 ⟨1, rfl, by omega, by omega, fun j a1 a2 => by omega⟩ (by simp; omega)
  rintro kk x ⟨k, rfl, hk1, hk, hall⟩ ih
  simp only [F53_l8, Int.toNat_natCast]
  by_cases hka : k < i
  · rw [decide_eq_true (show (k : Int) < (i : Int) by omega), inb_true (show (0 : Int) ≤ k by omega) (show (k : Int) < (9 : Nat) by omega), w64 (n := (k : Int) + 1) (by omega) (by omega)]
    simp only [cond_true]
    have next : ((sl b i).2.1 ≠ 0 → (sl b i).2.1 ≠ (sl b k).2.1) → kk ((k : Int) + 1) = if apartG b i then K ((i + 1 : Nat) : Int) else some 4 := fun h => ih _ ⟨k + 1, by omega, by omega, by omega, fun j a1 a2 => by
      rcases Nat.lt_succ_iff_lt_or_eq.1 a2 with h2 | h2
      · exact hall j a1 h2
      · subst h2; exact h⟩ (by simp only [Int.toNat_natCast]; omega)
    show (bif (sl b i).2.1 != 0 then bif (sl b i).2.1 == (sl b k).2.1 then some 4 else kk ((k : Int) + 1) else kk ((k : Int) + 1)) = _
    by_cases q1 : (sl b i).2.1 = 0
    · rw [show ((sl b i).2.1 != 0) = false by simpa using q1]; exact next (fun h => absurd q1 h)
    · rw [show ((sl b i).2.1 != 0) = true by simpa using q1]
      by_cases q2 : (sl b i).2.1 = (sl b k).2.1
      · rw [show ((sl b i).2.1 == (sl b k).2.1) = true by simpa using q2, if_neg (fun h => h k hk1 hka q1 q2)]; rfl
      · rw [show ((sl b i).2.1 == (sl b k).2.1) = false by simpa using q2]; exact next (fun _ => q2)
  · rw [decide_eq_false (show ¬ (k : Int) < (i : Int) by omega), w64 (n := (i : Int) + 1) (by omega) (by omega), if_pos (show apartG b i from fun j a1 a2 => hall j a1 (by omega))]; rfl
theorem b66 (n : Nat) (hn : 100 < n) (b : Slots) : F53 n b = some (boardE b) := by
  unfold F53
  show (bif !(eqS (sl b 0) zeroS) then some 4 else loopF (F53_l7 n b) n 1) = _
  have no : ¬ boardG b → some (4 : Int) = some (boardE b) := fun h => by unfold boardE; rw [if_neg h]
  cases h0 : eqS (sl b 0) zeroS
  · exact no (fun h => by have h2 := h.1; rw [h0] at h2; cases h2)
  simp only [Bool.not_true, cond_false]
  refine loopF_eq (F53_l7 n b) (fun _ => some (boardE b)) (fun x => ∃ i : Nat, x = (i : Int) ∧ 1 ≤ i ∧ i ≤ 9 ∧ ∀ j, 1 ≤ j → j < i → slotG (sl b j) ∧ apartG b j) (fun x => 9 - x.toNat) ?_ n 1 ⟨1, rfl, by omega, by omega, fun j a1 a2 => by omega⟩ (by simp; omega)
  rintro kk x ⟨i, rfl, h1, hi, hall⟩ ih
  simp only [F53_l7, Int.toNat_natCast]
  by_cases hia : i < 9
  · rw [decide_eq_true (show (i : Int) < 9 by omega), inb_true (show (0 : Int) ≤ i by omega) (show (i : Int) < (9 : Nat) by omega)]
    simp only [cond_true]
    rw [show F85 n (b.getD i zeroS).1 (b.getD i zeroS).2.1 (b.getD i zeroS).2.2.1 (b.getD i zeroS).2.2.2 = some (decide (slotG (sl b i))) from b111 n hn (sl b i)]
    simp only [Option.bind_some]
    by_cases hs : slotG (sl b i)
    · rw [decide_eq_true hs]
      simp only [Bool.not_true, cond_false]
      rw [b66i n hn kk b i h1 hia]
      by_cases ha : apartG b i
      · rw [if_pos ha]
        exact ih _ ⟨i + 1, rfl, by omega, by omega, fun j a1 a2 => by
          rcases Nat.lt_succ_iff_lt_or_eq.1 a2 with h2 | h2
          · exact hall j a1 h2
          · subst h2; exact ⟨hs, ha⟩⟩ (by simp only [Int.toNat_natCast]; omega)
      · rw [if_neg ha]; exact no (fun h => ha (h.2 i h1 hia).2)
    · rw [decide_eq_false hs]; exact no (fun h => hs (h.2 i h1 hia).1)
  · rw [decide_eq_false (show ¬ (i : Int) < 9 by omega)]
    unfold boardE
    rw [if_pos (show boardG b from ⟨h0, fun j a1 a2 => hall j a1 (by omega)⟩)]; rfl
theorem take_sl (b : Slots) (i k : Nat) (h : k < i) : (b.take i).getD k zeroS = sl b k := by
  unfold sl
  rw [List.getD_eq_getElem?_getD, List.getElem?_take_of_lt h, ← List.getD_eq_getElem?_getD]
theorem c30 (n : Nat) (hn : 100 < n) (K : Int → Option Int) (b : Slots) (hb : b.length = 9) (i : Nat) (hi : i < 9) : loopF (F86_l30 n K b (i : Int)) n 0 = if ∃ k, k < i ∧ (sl b k).2.1 = (sl b i).2.1 then some 4 else K ((i + 1 : Nat) : Int) := by
  have hl : (b.take i).length = i := by rw [List.length_take]; omega
  refine loopF_eq (F86_l30 n K b (i : Int)) (fun _ => if ∃ k, k < i ∧ (sl b k).2.1 = (sl b i).2.1 then some 4 else K ((i + 1 : Nat) : Int)) (fun x => ∃ k : Nat, x = (k : Int) ∧ k ≤ i ∧ ∀ j, j < k → (sl b j).2.1 ≠ (sl b i).2.1) (fun x => 9 - x.toNat) ?_ n 0 ⟨0, rfl, by omega, fun j a2 => by omega⟩ (by simp; omega)
  rintro kk x ⟨k, rfl, hk, hall⟩ ih
  simp only [F86_l30, Int.toNat_natCast, hl]
  by_cases hka : k < i
  · rw [decide_eq_true (show (k : Int) < (i : Int) by omega), inb_true (show (0 : Int) ≤ k by omega) (show (k : Int) < (i : Nat) by omega), w64 (n := (k : Int) + 1) (by omega) (by omega), take_sl b i k hka]
    simp only [cond_true]
    show (bif (sl b k).2.1 == (sl b i).2.1 then some 4 else kk ((k : Int) + 1)) = _
    by_cases q : (sl b k).2.1 = (sl b i).2.1
    · rw [show ((sl b k).2.1 == (sl b i).2.1) = true by simpa using q, if_pos ⟨k, hka, q⟩]; rfl
    · rw [show ((sl b k).2.1 == (sl b i).2.1) = false by simpa using q]
      exact ih _ ⟨k + 1, by omega, by omega, fun j a2 => by
        rcases Nat.lt_succ_iff_lt_or_eq.1 a2 with h2 | h2
        · exact hall j h2
        · subst h2; exact q⟩ (by simp only [Int.toNat_natCast]; omega)
  · rw [decide_eq_false (show ¬ (k : Int) < (i : Int) by omega), w64 (n := (i : Int) + 1) (by omega) (by omega), if_neg (by rintro ⟨j, a1, a2⟩; exact hall j (by omega) a2)]; rfl
theorem c29 (n : Nat) (hn : 100 < n) (K : Int → Option Int) (b : Slots) (hb : b.length = 9) (i : Nat) (hi : i < 9) : loopF (F86_l29 n K b (i : Int)) n 0 = if endsOk (sl b i) then (if ∃ k, k < i ∧ (sl b k).2.1 = (sl b i).2.1 then some 4 else K ((i + 1 : Nat) : Int)) else some 4 := by
  refine loopF_eq (F86_l29 n K b (i : Int)) (fun _ => if endsOk (sl b i) then (if ∃ k, k < i ∧ (sl b k).2.1 = (sl b i).2.1 then some 4 else K ((i + 1 : Nat) : Int)) else some 4) (fun x => ∃ k : Nat, x = (k : Int) ∧ k ≤ 32 ∧ ∀ j, j < k → endOk (sl b i) j) (fun x => 32 - x.toNat) ?_ n 0 ⟨0, rfl, by omega, fun j a2 => by omega⟩ (by simp; omega)
  rintro kk x ⟨k, rfl, hk, hall⟩ ih
  simp only [F86_l29, Int.toNat_natCast, b16, Option.bind_some]
  by_cases hka : k < 32
  · rw [decide_eq_true (show (k : Int) < 32 by omega), inb_true (show (0 : Int) ≤ k by omega) (show (k : Int) < (32 : Nat) by omega), w64 (n := (k : Int) + 1) (by omega) (by omega)]
    simp only [cond_true]
    have no : ¬ endOk (sl b i) k → some (4 : Int) = if endsOk (sl b i) then (if ∃ k, k < i ∧ (sl b k).2.1 = (sl b i).2.1 then some 4 else K ((i + 1 : Nat) : Int)) else some 4 := fun h => by rw [if_neg (fun hh => h (hh k hka))]
    have yes : endOk (sl b i) k → kk ((k : Int) + 1) = _ := fun h => ih ((k : Int) + 1) ⟨k + 1, by omega, by omega, fun j a2 => by
      rcases Nat.lt_succ_iff_lt_or_eq.1 a2 with h2 | h2
      · exact hall j h2
      · subst h2; exact h⟩ (by simp only [Int.toNat_natCast]; omega)
    show (bif !decide (0 ≤ en (sl b i) k ∧ en (sl b i) k ≤ 3) then some 4 else bif !decide (0 ≤ mk' (sl b i) k ∧ mk' (sl b i) k ≤ 65535) then some 4 else bif en (sl b i) k == 0 then bif mk' (sl b i) k != 0 then some 4 else kk ((k : Int) + 1) else kk ((k : Int) + 1)) = _
    by_cases q1 : 0 ≤ en (sl b i) k ∧ en (sl b i) k ≤ 3
    · rw [decide_eq_true q1]
      by_cases q2 : 0 ≤ mk' (sl b i) k ∧ mk' (sl b i) k ≤ 65535
      · rw [decide_eq_true q2]
        simp only [Bool.not_true, cond_false]
        by_cases q5 : en (sl b i) k = 0
        · rw [show (en (sl b i) k == 0) = true by simpa using q5]
          by_cases q6 : mk' (sl b i) k = 0
          · rw [show (mk' (sl b i) k != 0) = false by simpa using q6]
            exact yes ⟨q1, q2, fun _ => q6⟩
          · rw [show (mk' (sl b i) k != 0) = true by simpa using q6]
            exact no (fun h => q6 (h.2.2 q5))
        · rw [show (en (sl b i) k == 0) = false by simpa using q5]
          exact yes ⟨q1, q2, fun h => absurd h q5⟩
      · rw [decide_eq_false q2]; exact no (fun h => q2 h.2.1)
    · rw [decide_eq_false q1]; exact no (fun h => q1 h.1)
  · rw [decide_eq_false (show ¬ (k : Int) < 32 by omega), if_pos (show endsOk (sl b i) from fun j hj => hall j (by omega)), show subB b.length none (some (i : Int)) = true by simp [subB]; omega]
    simp only [cond_false, cond_true]
    exact c30 n hn K b hb i hi
theorem c26 (n : Nat) (hn : 100 < n) (K : Int → Option Int) (b : Slots) (hb : b.length = 9) (i : Nat) (hi : i < 9) (h0 : 0 ≤ (sl b i).1) (h3 : (sl b i).1 ≤ 3) :
    F86_j26 n K b (i : Int) false = if slotG (sl b i) then (if 2 ≤ (sl b i).1 ∧ ∃ k, k < i ∧ (sl b k).2.1 = (sl b i).2.1 then some 4 else K ((i + 1 : Nat) : Int)) else some 4 := by
  unfold F86_j26
  simp only [cond_false, Int.toNat_natCast, b16]
  rw [w64 (n := (i : Int) + 1) (by omega) (by omega)]
  show (bif decide ((sl b i).1 < 2) then (bif !(eqS (0, ((sl b i).2.1, ((sl b i).2.2.1, (sl b i).2.2.2))) zeroS) then some 4 else K ((i : Int) + 1)) else ((some (decide (1 ≤ (sl b i).2.1 ∧ (sl b i).2.1 ≤ 127))).bind fun y_4 => bif !y_4 then F86_j27 n K b (i : Int) true else bif en (sl b i) 0 != 0 then F86_j27 n K b (i : Int) true else bif en (sl b i) 1 == 0 then F86_j27 n K b (i : Int) true else ((F106 n (sl b i).1 (sl b i).2.1 (sl b i).2.2.1 (sl b i).2.2.2 2 31).bind fun y_5 => F86_j27 n K b (i : Int) (!(y_5 == ((sl b i).1 == 3)))))) = _
  by_cases h2 : (sl b i).1 < 2
  · rw [decide_eq_true h2]
    simp only [cond_true]
    have hz : eqS (0, ((sl b i).2.1, ((sl b i).2.2.1, (sl b i).2.2.2))) zeroS = true ↔ zeroR (sl b i) := by
      rw [eqS_zero]
      exact ⟨fun h => h.2, fun h => ⟨rfl, h⟩⟩
    by_cases q : zeroR (sl b i)
    · rw [hz.2 q, if_pos (show slotG (sl b i) from .inl ⟨⟨h0, by omega⟩, q⟩), if_neg (fun h => by omega)]; rfl
    · rw [if_neg (show ¬ slotG (sl b i) by rintro (h | h); exact q h.2; omega), show eqS (0, ((sl b i).2.1, ((sl b i).2.2.1, (sl b i).2.2.2))) zeroS = false from Bool.eq_false_iff.2 (fun h => q (hz.1 h))]; rfl
  · rw [decide_eq_false h2]
    simp only [cond_false, Option.bind_some]
    have jt : F86_j27 n K b (i : Int) true = some 4 := rfl
    have no : ¬ ((2 ≤ (sl b i).1 ∧ (sl b i).1 ≤ 3) ∧ (1 ≤ (sl b i).2.1 ∧ (sl b i).2.1 ≤ 127) ∧ en (sl b i) 0 = 0 ∧ en (sl b i) 1 ≠ 0 ∧ endsOk (sl b i) ∧ (moreE (sl b i) ↔ (sl b i).1 = 3)) → some (4 : Int) = if slotG (sl b i) then (if 2 ≤ (sl b i).1 ∧ ∃ k, k < i ∧ (sl b k).2.1 = (sl b i).2.1 then some 4 else K ((i + 1 : Nat) : Int)) else some 4 := fun h => by
      rw [if_neg]
      rintro (hh | hh)
      · omega
      · exact h hh
    by_cases g2 : 1 ≤ (sl b i).2.1 ∧ (sl b i).2.1 ≤ 127
    · rw [decide_eq_true g2]
      simp only [Bool.not_true, cond_false]
      by_cases g5 : en (sl b i) 0 = 0
      · rw [show (en (sl b i) 0 != 0) = false by simpa using g5]
        by_cases g4 : en (sl b i) 1 = 0
        · rw [show (en (sl b i) 1 == 0) = true by simpa using g4]; exact no (fun h => h.2.2.2.1 g4)
        · rw [show (en (sl b i) 1 == 0) = false by simpa using g4, b65 n hn]
          simp only [cond_false, Option.bind_some]
          by_cases g7 : moreE (sl b i) ↔ (sl b i).1 = 3
          · have e : (!(decide (moreE (sl b i)) == ((sl b i).1 == 3))) = false := by
              rw [Bool.not_eq_false', beq_iff_eq, Bool.eq_iff_iff, decide_eq_true_iff, beq_iff_eq]; exact g7
            rw [e]
            unfold F86_j27
            simp only [cond_false]
            rw [c29 n hn K b hb i hi]
            by_cases g8 : endsOk (sl b i)
            · rw [if_pos g8, if_pos (show slotG (sl b i) from .inr ⟨by omega, g2, g5, g4, g8, g7⟩)]
              by_cases g9 : ∃ k, k < i ∧ (sl b k).2.1 = (sl b i).2.1
              · rw [if_pos g9, if_pos ⟨by omega, g9⟩]
              · rw [if_neg g9, if_neg (fun h => g9 h.2)]
            · rw [if_neg g8]; exact no (fun h => g8 h.2.2.2.2.1)
          · have e : (!(decide (moreE (sl b i)) == ((sl b i).1 == 3))) = true := by
              rw [Bool.not_eq_true', beq_eq_false_iff_ne]
              intro hh
              rw [Bool.eq_iff_iff, decide_eq_true_iff, beq_iff_eq] at hh
              exact g7 hh
            rw [e]; exact no (fun h => g7 h.2.2.2.2.2)
      · rw [show (en (sl b i) 0 != 0) = true by simpa using g5]; exact no (fun h => g5 h.2.2.1)
    · rw [decide_eq_false g2]; exact no (fun h => g2 h.2.1)
theorem b15 (n : Nat) (hn : 100 < n) (b : Slots) (hb : b.length = 9) : F86 n b = some (boardE b) := by
  unfold F86
  have no : ¬ boardG b → some (4 : Int) = some (boardE b) := fun h => by unfold boardE; rw [if_neg h]
  refine loopF_eq (F86_l25 n b) (fun _ => some (boardE b)) (fun x => ∃ i : Nat, x = (i : Int) ∧ i ≤ 9 ∧ (0 < i → eqS (sl b 0) zeroS = true) ∧ ∀ j, 1 ≤ j → j < i → slotG (sl b j) ∧ apartG b j) (fun x => 9 - x.toNat) ?_ n 0 ⟨0, rfl, by omega, fun h => by omega, fun j a1 a2 => by omega⟩ (by simp; omega)
  rintro kk x ⟨i, rfl, hi, hz, hall⟩ ih
  simp only [F86_l25, Int.toNat_natCast, b16, Option.bind_some]
  by_cases hia : i < 9
  · rw [decide_eq_true (show (i : Int) < 9 by omega), inb_true (show (0 : Int) ≤ i by omega) (show (i : Int) < (9 : Nat) by omega)]
    simp only [cond_true]
    show (bif (i : Int) == 0 then bif !(eqS (sl b i) zeroS) then F86_j26 n kk b (i : Int) true else F86_j26 n kk b (i : Int) (!decide (0 ≤ (sl b i).1 ∧ (sl b i).1 ≤ 3)) else F86_j26 n kk b (i : Int) (!decide (0 ≤ (sl b i).1 ∧ (sl b i).1 ≤ 3))) = _
    have jt : F86_j26 n kk b (i : Int) true = some 4 := rfl
    by_cases h0 : i = 0
    · subst h0
      rw [show (((0 : Nat) : Int) == 0) = true from rfl]
      cases hq : eqS (sl b 0) zeroS
      · exact no (fun h => by have h2 := h.1; rw [hq] at h2; cases h2)
      · obtain ⟨z1, z2⟩ := (eqS_zero _).1 hq
        simp only [Bool.not_true, cond_false, cond_true]
        rw [decide_eq_true (show 0 ≤ (sl b 0).1 ∧ (sl b 0).1 ≤ 3 by omega)]
        simp only [Bool.not_true]
        rw [c26 n hn kk b hb 0 hia (by omega) (by omega), if_pos (show slotG (sl b 0) from .inl ⟨by omega, z2⟩), if_neg (fun h => by omega)]
        exact ih _ ⟨1, rfl, by omega, fun _ => hq, fun j a1 a2 => by omega⟩ (by simp)
    · rw [show ((i : Int) == 0) = false by rw [beq_eq_false_iff_ne]; omega]
      simp only [cond_false]
      by_cases hst : 0 ≤ (sl b i).1 ∧ (sl b i).1 ≤ 3
      · rw [decide_eq_true hst]
        simp only [Bool.not_true]
        rw [c26 n hn kk b hb i hia hst.1 hst.2]
        by_cases hs : slotG (sl b i)
        · rw [if_pos hs]
          by_cases hc : 2 ≤ (sl b i).1 ∧ ∃ k, k < i ∧ (sl b k).2.1 = (sl b i).2.1
          · rw [if_pos hc]
            obtain ⟨c1, k, c2, c3⟩ := hc
            refine no (fun h => ?_)
            have hpos : 1 ≤ (sl b i).2.1 := by
              rcases hs with hs | hs
              · omega
              · exact hs.2.1.1
            by_cases hk : k = 0
            · subst hk
              have := ((eqS_zero _).1 (hz (by omega))).2.1
              omega
            · exact (h.2 i (by omega) hia).2 k (by omega) c2 (by omega) c3.symm
          · rw [if_neg hc]
            refine ih _ ⟨i + 1, rfl, by omega, fun _ => hz (by omega), fun j a1 a2 => ?_⟩ (by simp only [Int.toNat_natCast]; omega)
            rcases Nat.lt_succ_iff_lt_or_eq.1 a2 with h2 | h2
            · exact hall j a1 h2
            · subst h2
              refine ⟨hs, fun k k1 k2 k3 k4 => ?_⟩
              rcases hs with hs | hs
              · exact k3 hs.2.1
              · exact hc ⟨hs.1.1, k, k2, k4.symm⟩
        · rw [if_neg hs]; exact no (fun h => hs (h.2 i (by omega) hia).1)
      · rw [decide_eq_false hst]
        refine no (fun h => ?_)
        rcases (h.2 i (by omega) hia).1 with hs | hs <;> omega
  · rw [decide_eq_false (show ¬ (i : Int) < 9 by omega)]
    unfold boardE
    rw [if_pos (show boardG b from ⟨hz (by omega), fun j a1 a2 => hall j a1 (by omega)⟩)]; rfl
end Go.Proofs.Ytdgdkbpmmemphaa

/- The law SlotsDo, in plain Lean (first part: the searches). -/
namespace Go.Proofs.Ytdgdkbpmmemphaa
open Go Go.RowKit
open Classical
set_option linter.unusedVariables false

theorem eqS_refl (s : Slot) : eqS s s = true := Sh.beq_self _ _
theorem eqS_iff (s t : Slot) : eqS s t = true ↔ s.1 = t.1 ∧ s.2.1 = t.2.1 ∧ (∀ k, k < 32 → en s k = en t k) ∧ (∀ k, k < 32 → mk' s k = mk' t k) := by
  unfold eqS
  simp only [Sh.beq, Sh.dflt, Bool.and_eq_true, List.all_eq_true, beq_iff_eq, List.mem_range]
  exact Iff.rfl
theorem sl_set (b : Slots) (i k : Nat) (s : Slot) (hi : i < b.length) : sl (b.set i s) k = if i = k then s else sl b k := by
  unfold sl
  rw [List.getD_eq_getElem?_getD, List.getElem?_set]
  by_cases h : i = k
  · subst h; simp [hi]
  · simp [h]
theorem leastEx (P : Nat → Prop) : ∀ n, P n → ∃ m, m ≤ n ∧ P m ∧ ∀ j, j < m → ¬ P j := by
  intro n
  induction n using Nat.strongRecOn with
  | _ n ih =>
    intro h
    by_cases q : ∃ j, j < n ∧ P j
    · obtain ⟨j, hj, pj⟩ := q
      obtain ⟨m, m1, m2⟩ := ih j hj pj
      exact ⟨m, by omega, m2⟩
    · exact ⟨n, Nat.le_refl n, h, fun j hj pj => q ⟨j, hj, pj⟩⟩
/-- does a list hold a number? -/
theorem idx (n : Nat) (l : List Int) (v : Int) (hl : l.length < n) (hs : l.length < 1000) : ∃ r, F113 n l v = some r ∧ (0 ≤ r ↔ v ∈ l) := by
  unfold F113
  refine loopF_post (F113_l2 n l v) (fun x => ∃ k : Nat, x = (k : Int) ∧ k ≤ l.length ∧ ∀ j, j < k → l.getD j 0 ≠ v) (fun _ r => 0 ≤ r ↔ v ∈ l) (fun x => l.length - x.toNat) ?_ n 0 ⟨0, rfl, by omega, fun j h => by omega⟩ (by simp; omega)
  rintro kk x ⟨k, rfl, hk, hall⟩ ih
  simp only [F113_l2, Int.toNat_natCast]
  by_cases hka : k < l.length
  · rw [decide_eq_true (show (k : Int) < ((l.length : Nat) : Int) by omega), inb_true (show (0 : Int) ≤ k by omega) (show (k : Int) < (l.length : Nat) by omega), w64 (n := (k : Int) + 1) (by omega) (by omega)]
    simp only [cond_true]
    by_cases q : l.getD k 0 = v
    · rw [show (v == l.getD k 0) = true by simpa using q.symm]
      refine ⟨_, rfl, fun _ => ?_, fun _ => by omega⟩
      rw [← q, List.getD_eq_getElem?_getD, List.getElem?_eq_getElem hka]
      exact List.getElem_mem hka
    · rw [show (v == l.getD k 0) = false by rw [beq_eq_false_iff_ne]; exact fun h => q h.symm]
      exact ih _ ⟨k + 1, by omega, by omega, fun j a2 => by
        rcases Nat.lt_succ_iff_lt_or_eq.1 a2 with h2 | h2
        · exact hall j h2
        · subst h2; exact q⟩ (by omega)
  · rw [decide_eq_false (show ¬ (k : Int) < ((l.length : Nat) : Int) by omega)]
    refine ⟨-1, rfl, fun h => by omega, fun h => ?_⟩
    obtain ⟨j, hj, e⟩ := List.getElem_of_mem h
    refine absurd ?_ (hall j (by omega))
    rw [List.getD_eq_getElem?_getD, List.getElem?_eq_getElem hj]; exact e
theorem contains (n : Nat) (l : List Int) (v : Int) (hl : l.length < n) (hs : l.length < 1000) : F107 n l v = some (decide (v ∈ l)) := by
  unfold F107
  obtain ⟨r, e, h⟩ := idx n l v hl hs
  rw [e, Option.bind_some, Option.some.injEq, Bool.eq_iff_iff, decide_eq_true_iff, decide_eq_true_iff]
  exact h
theorem least (n : Nat) (l : List Int) (L : Nat) (hl : l.length < n) (hs : l.length < 1000) (h0 : 1 ≤ L) (hL : L < n) (hm : L < 1000) (h1 : (L : Int) ∉ l) (h2 : ∀ a : Nat, 1 ≤ a → a < L → (a : Int) ∈ l) : F87 n l = some (L : Int) := by
  unfold F87
  refine loopF_eq (F87_l2 n l) (fun _ => some (L : Int)) (fun x => ∃ k : Nat, x = (k : Int) ∧ 1 ≤ k ∧ k ≤ L) (fun x => L - x.toNat) ?_ n 1 ⟨1, rfl, by omega, by omega⟩ (by simp; omega)
  rintro kk x ⟨k, rfl, hk1, hk⟩ ih
  simp only [F87_l2, contains n l _ hl hs, Option.bind_some]
  by_cases e : k = L
  · subst e
    rw [decide_eq_false h1]; rfl
  · rw [decide_eq_true (h2 k hk1 (by omega)), w64 (n := (k : Int) + 1) (by omega) (by omega)]
    exact ih _ ⟨k + 1, by omega, by omega, by omega⟩ (by omega)
/-- the numbers of the slots that are on, and their addresses -/
def onK (b : Slots) (k : Nat) : List Int := ((List.range k).filter fun i => (sl b i).1 != 0).map fun i => Int.ofNat i
def adK (b : Slots) (k : Nat) : List Int := ((List.range k).filter fun i => (sl b i).1 != 0).map fun (i : Nat) => (sl b i).2.1
theorem onK_len (b : Slots) (k : Nat) : (onK b k).length ≤ k := by
  unfold onK
  rw [List.length_map]
  exact Nat.le_trans (List.length_filter_le _ _) (by simp)
theorem adK_len (b : Slots) (k : Nat) : (adK b k).length ≤ k := by
  unfold adK
  rw [List.length_map]
  exact Nat.le_trans (List.length_filter_le _ _) (by simp)
theorem onK_succ (b : Slots) (k : Nat) : onK b (k + 1) = if (sl b k).1 != 0 then onK b k ++ [(k : Int)] else onK b k := by
  unfold onK
  rw [List.range_succ, List.filter_append, List.map_append]
  cases h : (sl b k).1 != 0 <;> simp [h]
theorem adK_succ (b : Slots) (k : Nat) : adK b (k + 1) = if (sl b k).1 != 0 then adK b k ++ [(sl b k).2.1] else adK b k := by
  unfold adK
  rw [List.range_succ, List.filter_append, List.map_append]
  cases h : (sl b k).1 != 0 <;> simp [h]
theorem onK_mem (b : Slots) (a : Nat) : (a : Int) ∈ onK b 9 ↔ a < 9 ∧ (sl b a).1 ≠ 0 := by
  unfold onK
  simp only [List.mem_map, List.mem_filter, List.mem_range, bne_iff_ne]
  constructor
  · rintro ⟨i, h, e⟩
    obtain rfl : i = a := Int.ofNat.inj e
    exact h
  · intro h
    exact ⟨a, h, rfl⟩
theorem adK_mem (b : Slots) (a : Int) : a ∈ adK b 9 ↔ ∃ k, k < 9 ∧ (sl b k).1 ≠ 0 ∧ (sl b k).2.1 = a := by
  unfold adK
  simp only [List.mem_map, List.mem_filter, List.mem_range, bne_iff_ne, and_assoc]
theorem c65 (n : Nat) (hn : 100 < n) (b : Slots) (K S E A : Int) : F55 n b K S E A = F55_l2 n b K S E A (fun _ => none) (9, onK b 9, adK b 9) := by
  unfold F55
  refine loopF_eq (F55_l2 n b K S E A) (fun _ => F55_l2 n b K S E A (fun _ => none) (9, onK b 9, adK b 9)) (fun d => ∃ k : Nat, d = ((k : Int), onK b k, adK b k) ∧ k ≤ 9) (fun d => 9 - d.1.toNat) ?_ n (0, [], []) ⟨0, rfl, by omega⟩ (by simp; omega)
  rintro kk d ⟨k, rfl, hk⟩ ih
  by_cases hka : k < 9
  · have step : F55_l2 n b K S E A kk ((k : Int), onK b k, adK b k) = kk (((k + 1 : Nat) : Int), onK b (k + 1), adK b (k + 1)) := by
      simp only [F55_l2, Int.toNat_natCast]
      have l1 := onK_len b k
      have l2 := adK_len b k
      rw [decide_eq_true (show (k : Int) < 9 by omega), inb_true (show (0 : Int) ≤ k by omega) (show (k : Int) < (9 : Nat) by omega), w64 (n := (k : Int) + 1) (by omega) (by omega), onK_succ, adK_succ]
      simp only [cond_true]
      rw [decide_eq_true (show (onK b k).length + [(k : Int)].length ≤ 17592186044416 by simp only [List.length_singleton]; omega), decide_eq_true (show (adK b k).length + [(b.getD k zeroS).2.1].length ≤ 17592186044416 by simp only [List.length_singleton]; omega)]
      show (bif (sl b k).1 != 0 then kk ((k : Int) + 1, onK b k ++ [(k : Int)], adK b k ++ [(sl b k).2.1]) else kk ((k : Int) + 1, onK b k, adK b k)) = _
      cases (sl b k).1 != 0 <;> rfl
    rw [step]
    exact ih _ ⟨k + 1, rfl, by omega⟩ (by simp only [Int.toNat_natCast]; omega)
  · obtain rfl : k = 9 := by omega
    rfl
def pick (b : Slots) (code slot : Int) (m : Slots) : Option (Slots × Int × Int) := some (if code = 1 then m else b, code, slot)
theorem j71 (n : Nat) (b : Slots) (c code : Int) (m : Slots) : F51_j71 n b c (code, m) = pick b code c m := by
  unfold pick
  show (bif code != 1 then some (b, code, c) else some (m, code, c)) = _
  by_cases h : code = 1
  · rw [show (code != 1) = false by simpa using h, if_pos h]; rfl
  · rw [show (code != 1) = true by simpa using h, if_neg h]; rfl
/-- the slot that is enabled -/
theorem firstOff (b : Slots) : ∃ i : Nat, 1 ≤ i ∧ i ≤ 9 ∧ (i < 9 → (sl b i).1 = 0) ∧ ∀ j, 1 ≤ j → j < i → (sl b j).1 ≠ 0 := by
  obtain ⟨i, h9, ⟨h1, h2⟩, h3⟩ := leastEx (fun i => 1 ≤ i ∧ (i = 9 ∨ (sl b i).1 = 0)) 9 ⟨by omega, .inl rfl⟩
  refine ⟨i, h1, h9, fun h => ?_, fun j k1 k2 k3 => h3 j k2 ⟨k1, .inr k3⟩⟩
  rcases h2 with h4 | h4
  · omega
  · exact h4
theorem enableD (n : Nat) (hn : 100 < n) (b : Slots) (i : Nat) (h1 : 1 ≤ i) (h9 : i ≤ 9) (hi : i < 9 → (sl b i).1 = 0) (hall : ∀ j, 1 ≤ j → j < i → (sl b j).1 ≠ 0) :
    loopF (F51_l49 n b) n 1 = if i < 9 then some (b.set i (1, (sl b i).2), 1, (i : Int)) else some (b, 9, 0) := by
  refine loopF_eq (F51_l49 n b) (fun _ => if i < 9 then some (b.set i (1, (sl b i).2), 1, (i : Int)) else some (b, 9, 0)) (fun x => ∃ k : Nat, x = (k : Int) ∧ 1 ≤ k ∧ k ≤ i) (fun x => 9 - x.toNat) ?_ n 1 ⟨1, rfl, by omega, by omega⟩ (by simp; omega)
  rintro kk x ⟨k, rfl, hk1, hk⟩ ih
  simp only [F51_l49, Int.toNat_natCast]
  by_cases hka : k < 9
  · rw [decide_eq_true (show (k : Int) < 9 by omega), inb_true (show (0 : Int) ≤ k by omega) (show (k : Int) < (9 : Nat) by omega), w64 (n := (k : Int) + 1) (by omega) (by omega)]
    simp only [cond_true]
    show (bif (sl b k).1 == 0 then some (b.set k (1, (sl b k).2), 1, (k : Int)) else kk ((k : Int) + 1)) = _
    by_cases e : k = i
    · subst e
      rw [show ((sl b k).1 == 0) = true by simpa using hi hka, if_pos hka]; rfl
    · rw [show ((sl b k).1 == 0) = false by simpa using hall k hk1 (by omega)]
      exact ih _ ⟨k + 1, by omega, by omega, by omega⟩ (by omega)
  · rw [decide_eq_false (show ¬ (k : Int) < 9 by omega), if_neg (by omega)]; rfl
/-- the address that is given -/
theorem freeAddr (b : Slots) (hb : ∀ k, k < 9 → (sl b k).2.1 ≤ 127) : ∃ L : Nat, 1 ≤ L ∧ L ≤ 128 ∧ (∀ k, k < 9 → (sl b k).2.1 ≠ (L : Int)) ∧ ∀ a : Nat, 1 ≤ a → a < L → ∃ k, k < 9 ∧ (sl b k).2.1 = (a : Int) := by
  obtain ⟨i, h9, ⟨h1, h2⟩, h3⟩ := leastEx (fun a => 1 ≤ a ∧ ∀ k, k < 9 → (sl b k).2.1 ≠ (a : Int)) 128 ⟨by omega, fun k hk => by have := hb k hk; omega⟩
  refine ⟨i, h1, h9, h2, fun a k1 k2 => ?_⟩
  by_cases q : ∃ k, k < 9 ∧ (sl b k).2.1 = (a : Int)
  · exact q
  · exact absurd ⟨k1, fun k hk e => q ⟨k, hk, e⟩⟩ (h3 a k2)
theorem pass (n : Nat) (hn : 100 < n) (K : (Int × Bool) → Option (Slots × Int × Int)) (V : Option (Slots × Int × Int)) (b : Slots) (L a : Nat) (ha1 : 1 ≤ a) (haL : a ≤ L) (hm : L ≤ 128) (h1 : ∀ k, k < 9 → (sl b k).2.1 ≠ (L : Int)) (h2 : ∀ a : Nat, 1 ≤ a → a < L → ∃ k, k < 9 ∧ (sl b k).2.1 = (a : Int))
    (hK1 : a = L → K ((a : Int), false) = V) (hK2 : ∀ a' : Nat, a < a' → a' ≤ L → K ((a' : Int), true) = V) : loopF (F51_l80 n K b) n ((a : Int), false, 0) = V := by
  refine loopF_eq (F51_l80 n K b) (fun _ => V) (fun d => ∃ a' k : Nat, d = ((a' : Int), decide (a' ≠ a), (k : Int)) ∧ k ≤ 9 ∧ a ≤ a' ∧ a' ≤ L ∧ (a' = a → ∀ j, j < k → (sl b j).2.1 ≠ (a : Int))) (fun d => 9 - d.2.2.toNat) ?_ n _ ⟨a, 0, by simp, by omega, by omega, by omega, fun _ j h => by omega⟩ (by simp; omega)
  rintro kk d ⟨a', k, rfl, hk, ha, haL', hall⟩ ih
  simp only [F51_l80, Int.toNat_natCast]
  by_cases hka : k < 9
  · rw [decide_eq_true (show (k : Int) < 9 by omega), inb_true (show (0 : Int) ≤ k by omega) (show (k : Int) < (9 : Nat) by omega), w64 (n := (k : Int) + 1) (by omega) (by omega), w64 (n := (a' : Int) + 1) (by omega) (by omega)]
    simp only [cond_true]
    show (bif (sl b k).2.1 == (a' : Int) then kk ((a' : Int) + 1, true, (k : Int) + 1) else kk ((a' : Int), decide (a' ≠ a), (k : Int) + 1)) = _
    by_cases q : (sl b k).2.1 = (a' : Int)
    · rw [show ((sl b k).2.1 == (a' : Int)) = true by simpa using q]
      have : a' ≠ L := fun e => h1 k hka (by rw [q, e])
      refine ih _ ⟨a' + 1, k + 1, ?_, by omega, by omega, by omega, fun e => by omega⟩ (by simp only [Int.toNat_natCast]; omega)
      rw [decide_eq_true (show a' + 1 ≠ a by omega)]; rfl
    · rw [show ((sl b k).2.1 == (a' : Int)) = false by simpa using q]
      refine ih _ ⟨a', k + 1, rfl, by omega, by omega, by omega, fun e j a2 => ?_⟩ (by simp only [Int.toNat_natCast]; omega)
      rcases Nat.lt_succ_iff_lt_or_eq.1 a2 with h3 | h3
      · exact hall e j h3
      · subst h3; rw [← e]; exact q
  · rw [decide_eq_false (show ¬ (k : Int) < 9 by omega)]
    simp only [cond_false]
    by_cases e : a' = a
    · rw [decide_eq_false (show ¬ a' ≠ a by simpa using e), e]
      refine hK1 ?_
      by_cases hL : a = L
      · exact hL
      · obtain ⟨j, j1, j2⟩ := h2 a ha1 (by omega)
        exact absurd j2 (hall e j (by omega))
    · rw [decide_eq_true e]; exact hK2 a' (by omega) haL'
end Go.Proofs.Ytdgdkbpmmemphaa

/- The law SlotsDo, in plain Lean (second part: the commands). -/
namespace Go.Proofs.Ytdgdkbpmmemphaa
open Go Go.RowKit
open Classical
set_option linter.unusedVariables false

theorem slD (b : Slots) (c : Nat) (s : Slot) (hc : c < b.length) : (b.set c s).getD c zeroS = s := by
  have := sl_set b c c s hc
  rwa [if_pos rfl] at this
theorem addressD (n : Nat) (hn : 300 < n) (b : Slots) (hl : b.length = 9) (c : Nat) (hc : c < 9) (L : Nat) (h0 : 1 ≤ L) (hm : L ≤ 128) (h1 : ∀ k, k < 9 → (sl b k).2.1 ≠ (L : Int)) (h2 : ∀ a : Nat, 1 ≤ a → a < L → ∃ k, k < 9 ∧ (sl b k).2.1 = (a : Int)) :
    loopF (F51_l79 n b (c : Int)) n (1, true) = pick b 1 (c : Int) (b.set c (2, (L : Int), (sl b c).2.2.1.set 1 1, (sl b c).2.2.2)) := by
  refine loopF_eq (F51_l79 n b (c : Int)) (fun _ => pick b 1 (c : Int) (b.set c (2, (L : Int), (sl b c).2.2.1.set 1 1, (sl b c).2.2.2))) (fun d => ∃ a : Nat, d.1 = (a : Int) ∧ 1 ≤ a ∧ a ≤ L ∧ (d.2 = false → a = L)) (fun d => 2 * (L - d.1.toNat) + (if d.2 then 1 else 0)) ?_ n (1, true) ⟨1, rfl, by omega, by omega, fun h => by cases h⟩ (by simp; omega)
  rintro kk ⟨x, y⟩ ⟨a, rfl, ha1, haL, hy⟩ ih
  cases y
  · obtain rfl := hy rfl
    simp only [F51_l79, cond_false, Int.toNat_natCast, j71]
    have e : ∀ A, (b.set c A).getD c zeroS = A := fun A => slD b c A (by omega)
    simp only [List.set_set, e]
    rfl
  · show loopF (F51_l80 n kk b) n ((a : Int), false, 0) = _
    refine pass n (by omega) kk _ b L a ha1 haL hm h1 h2 (fun e => ?_) (fun a' k1 k2 => ?_)
    · exact ih ((a : Int), false) ⟨a, rfl, by omega, haL, fun _ => e⟩ (by simp)
    · exact ih ((a' : Int), true) ⟨a', rfl, by omega, k2, fun h => by cases h⟩ (by simp; omega)
/-- a bit of what is chosen -/
def bitD (set : Int) (k : Nat) : Bool := set / 2 ^ k % 2 == 1
theorem two (n : Nat) (hn : 100 < n) (k : Nat) (hk : k ≤ 60) : F54 n (k : Int) = some ((2 ^ k : Nat) : Int) := by
  unfold F54
  refine loopF_eq (F54_l2 n (k : Int)) (fun _ => some ((2 ^ k : Nat) : Int)) (fun d => ∃ j : Nat, d = (((2 ^ j : Nat) : Int), (j : Int)) ∧ j ≤ k) (fun d => k - d.2.toNat) ?_ n (1, 0) ⟨0, rfl, by omega⟩ (by simp; omega)
  rintro kk d ⟨j, rfl, hj⟩ ih
  simp only [F54_l2]
  by_cases h : j < k
  · have : 2 ^ j < 2 ^ 60 := Nat.pow_lt_pow_right (by omega) (by omega)
    have e2 : IntKind.wrap .i64 (((2 ^ j : Nat) : Int) * 2) = ((2 ^ (j + 1) : Nat) : Int) := by
      rw [Nat.pow_succ]
      generalize 2 ^ j = p at *
      rw [w64 (by omega) (by omega)]; omega
    rw [decide_eq_true (show (j : Int) < (k : Int) by omega), w64 (n := (j : Int) + 1) (by omega) (by omega), e2]
    exact ih _ ⟨j + 1, rfl, by omega⟩ (by simp only [Int.toNat_natCast]; omega)
  · obtain rfl : j = k := by omega
    rw [decide_eq_false (by omega)]; rfl
theorem bitP (set : Int) (h0 : 0 ≤ set) (h1 : set < 4294967296) (k : Nat) (hk : k < 32) : (bitsI .and .i64 (shrI .i64 set (IntKind.wrap .u64 (k : Int))) 1 == 1) = bitD set k := by
  have e : IntKind.wrap .u64 (k : Int) = (k : Int) := by rw [u64w]; omega
  rw [e, shr_div .i64 set k (by show k ≤ 64; omega)]
  obtain ⟨x, rfl⟩ : ∃ x : Nat, set = (x : Int) := ⟨set.toNat, by omega⟩
  have e2 : (x : Int) / 2 ^ k = ((x / 2 ^ k : Nat) : Int) := by simp
  unfold bitD
  rw [e2]
  have := bMask (x / 2 ^ k) 1 (Nat.lt_of_le_of_lt (Nat.div_le_self _ _) (by omega)) (by omega)
  have e3 : ((2 ^ 1 - 1 : Nat) : Int) = 1 := rfl
  rw [e3] at this
  rw [this]
  simp
theorem bitR (set : Int) (h0 : 0 ≤ set) (h1 : set < 4294967296) (k : Nat) (hk : k < 32) : ((IntKind.wrap .i64 (set.tdiv ((2 ^ k : Nat) : Int))).tmod 2 == 1) = bitD set k := by
  obtain ⟨x, rfl⟩ : ∃ x : Nat, set = (x : Int) := ⟨set.toNat, by omega⟩
  have e2 : (x : Int) / 2 ^ k = ((x / 2 ^ k : Nat) : Int) := by simp
  have h3 : x / 2 ^ k ≤ x := Nat.div_le_self _ _
  unfold bitD
  rw [Int.tdiv_eq_ediv_of_nonneg (by omega), show (x : Int) / ((2 ^ k : Nat) : Int) = ((x / 2 ^ k : Nat) : Int) by simp, e2]
  generalize x / 2 ^ k = y at *
  rw [w64 (by omega) (by omega), Int.tmod_eq_emod_of_nonneg (by omega)]
theorem noBits (set : Int) (h0 : 0 ≤ set) (h1 : set < 4294967296) (h4 : set % 4 = 0) (h : ∀ k, 2 ≤ k → k < 32 → bitD set k = false) : set = 0 := by
  obtain ⟨x, rfl⟩ : ∃ x : Nat, set = (x : Int) := ⟨set.toNat, by omega⟩
  have : x = 0 := by
    apply Nat.eq_of_testBit_eq
    intro i
    rw [Nat.zero_testBit]
    by_cases hi : i < 32
    · by_cases h2 : 2 ≤ i
      · have hb := h i h2 hi
        unfold bitD at hb
        have e2 : (x : Int) / 2 ^ i % 2 = ((x / 2 ^ i % 2 : Nat) : Int) := by simp
        rw [e2, beq_eq_false_iff_ne] at hb
        rw [Nat.testBit_eq_decide_div_mod_eq, decide_eq_false_iff_not]
        omega
      · rw [Nat.testBit_eq_decide_div_mod_eq, decide_eq_false_iff_not]
        have : i = 0 ∨ i = 1 := by omega
        rcases this with rfl | rfl <;> omega
    · have : 2 ^ 32 ≤ 2 ^ i := Nat.pow_le_pow_right (by omega) (by omega)
      exact Nat.testBit_lt_two_pow (by omega)
  omega
/-- what an endpoint is behind 'configure' -/
def endC (s : Slot) (set : Int) (k : Nat) : Int := if bitD set k then (if en s k = 0 then 1 else en s k) else 0
def markC (s : Slot) (set : Int) (k : Nat) : Int := if bitD set k then mk' s k else 0
theorem gset (l : List Int) (i j : Nat) (v : Int) (hi : i < l.length) : (l.set i v).getD j 0 = if i = j then v else l.getD j 0 := by
  rw [List.getD_eq_getElem?_getD, List.getElem?_set]
  by_cases h : i = j
  · subst h; simp [hi]
  · simp [h, List.getD_eq_getElem?_getD]
end Go.Proofs.Ytdgdkbpmmemphaa

/- The law SlotsDo, in plain Lean (third part: configure, and the law). -/
namespace Go.Proofs.Ytdgdkbpmmemphaa
open Go Go.RowKit
open Classical
set_option linter.unusedVariables false

theorem confP (n : Nat) (hn : 300 < n) (b : Slots) (hl : b.length = 9) (c : Nat) (hc : c < 9) (l1 : (sl b c).2.2.1.length = 32) (l2 : (sl b c).2.2.2.length = 32) (set : Int) (h0 : 0 ≤ set) (h1 : set < 4294967296) :
    ∃ r, loopF (F51_l84 n b (c : Int) set) n (2, b) = some r ∧ ∃ E M, r = (b.set c (if set = 0 then 2 else 3, (sl b c).2.1, E, M), 1, (c : Int)) ∧ (∀ k, k < 32 → E.getD k 0 = if k < 2 then en (sl b c) k else endC (sl b c) set k) ∧ (∀ k, k < 32 → M.getD k 0 = if k < 2 then mk' (sl b c) k else markC (sl b c) set k) ∧ E.length = 32 ∧ M.length = 32 := by
  refine loopF_post (F51_l84 n b (c : Int) set) (fun d => ∃ (k : Nat) (E M : List Int), d = ((k : Int), b.set c ((sl b c).1, (sl b c).2.1, E, M)) ∧ 2 ≤ k ∧ k ≤ 32 ∧ E.length = 32 ∧ M.length = 32 ∧ (∀ j, j < 32 → E.getD j 0 = if j < 2 ∨ k ≤ j then en (sl b c) j else endC (sl b c) set j) ∧ (∀ j, j < 32 → M.getD j 0 = if j < 2 ∨ k ≤ j then mk' (sl b c) j else markC (sl b c) set j))
    (fun _ r => ∃ E M, r = (b.set c (if set = 0 then 2 else 3, (sl b c).2.1, E, M), 1, (c : Int)) ∧ (∀ k, k < 32 → E.getD k 0 = if k < 2 then en (sl b c) k else endC (sl b c) set k) ∧ (∀ k, k < 32 → M.getD k 0 = if k < 2 then mk' (sl b c) k else markC (sl b c) set k) ∧ E.length = 32 ∧ M.length = 32)
    (fun d => 32 - d.1.toNat) ?_ n (2, b) ⟨2, (sl b c).2.2.1, (sl b c).2.2.2, ?_, by omega, by omega, l1, l2, fun j hj => by rw [if_pos (by omega)]; rfl, fun j hj => by rw [if_pos (by omega)]; rfl⟩ (by simp; omega)
  · rintro kk d ⟨k, E, M, rfl, hk2, hk, le, lm, hE, hM⟩ ih
    have e : ∀ A, (b.set c A).getD c zeroS = A := fun A => slD b c A (by omega)
    simp only [F51_l84, Int.toNat_natCast, e, List.set_set]
    by_cases hka : k < 32
    · rw [decide_eq_true (show (k : Int) < 32 by omega), decide_eq_true (show 0 ≤ IntKind.wrap .u64 (k : Int) by rw [u64w]; omega), bitP set h0 h1 k hka, inb_true (show (0 : Int) ≤ k by omega) (show (k : Int) < (32 : Nat) by omega), w64 (n := (k : Int) + 1) (by omega) (by omega)]
      simp only [cond_true]
      cases hb : bitD set k
      · simp only [Bool.not_false, cond_true]
        refine ih _ ⟨k + 1, E.set k 0, M.set k 0, rfl, by omega, by omega, by simpa using le, by simpa using lm, fun j hj => ?_, fun j hj => ?_⟩ (by simp only [Int.toNat_natCast]; omega)
        · rw [gset E k j 0 (by omega)]
          by_cases q : k = j
          · subst q
            rw [if_pos rfl, if_neg (by omega)]; unfold endC; rw [hb]; rfl
          · rw [if_neg q, hE j hj]
            by_cases q2 : j < 2 ∨ k ≤ j
            · rw [if_pos q2, if_pos (by omega)]
            · rw [if_neg q2, if_neg (by omega)]
        · rw [gset M k j 0 (by omega)]
          by_cases q : k = j
          · subst q
            rw [if_pos rfl, if_neg (by omega)]; unfold markC; rw [hb]; rfl
          · rw [if_neg q, hM j hj]
            by_cases q2 : j < 2 ∨ k ≤ j
            · rw [if_pos q2, if_pos (by omega)]
            · rw [if_neg q2, if_neg (by omega)]
      · simp only [Bool.not_true, cond_false]
        have hEk := hE k hka
        rw [if_pos (by omega)] at hEk
        rw [hEk]
        have hM' : ∀ j, j < 32 → M.getD j 0 = if j < 2 ∨ k + 1 ≤ j then mk' (sl b c) j else markC (sl b c) set j := fun j hj => by
          rw [hM j hj]
          by_cases q : k = j
          · subst q
            rw [if_pos (by omega), if_neg (by omega)]; unfold markC; rw [hb]; rfl
          · by_cases q2 : j < 2 ∨ k ≤ j
            · rw [if_pos q2, if_pos (by omega)]
            · rw [if_neg q2, if_neg (by omega)]
        by_cases q0 : en (sl b c) k = 0
        · rw [show (en (sl b c) k == 0) = true by simpa using q0]
          refine ih _ ⟨k + 1, E.set k 1, M, rfl, by omega, by omega, by simpa using le, lm, fun j hj => ?_, hM'⟩ (by simp only [Int.toNat_natCast]; omega)
          rw [gset E k j 1 (by omega)]
          by_cases q : k = j
          · subst q
            rw [if_pos rfl, if_neg (by omega)]; unfold endC; rw [hb, q0]; rfl
          · rw [if_neg q, hE j hj]
            by_cases q2 : j < 2 ∨ k ≤ j
            · rw [if_pos q2, if_pos (by omega)]
            · rw [if_neg q2, if_neg (by omega)]
        · rw [show (en (sl b c) k == 0) = false by simpa using q0]
          refine ih _ ⟨k + 1, E, M, rfl, by omega, by omega, le, lm, fun j hj => ?_, hM'⟩ (by simp only [Int.toNat_natCast]; omega)
          rw [hE j hj]
          by_cases q : k = j
          · subst q
            rw [if_pos (by omega), if_neg (by omega)]; unfold endC; rw [hb, if_neg q0]; rfl
          · by_cases q2 : j < 2 ∨ k ≤ j
            · rw [if_pos q2, if_pos (by omega)]
            · rw [if_neg q2, if_neg (by omega)]
    · obtain rfl : k = 32 := by omega
      rw [decide_eq_false (by omega)]
      simp only [cond_false, j71, pick, if_true]
      have fE : ∀ k, k < 32 → E.getD k 0 = if k < 2 then en (sl b c) k else endC (sl b c) set k := fun k hk => by
        rw [hE k hk]
        by_cases q : k < 2
        · rw [if_pos q, if_pos (by omega)]
        · rw [if_neg q, if_neg (by omega)]
      have fM : ∀ k, k < 32 → M.getD k 0 = if k < 2 then mk' (sl b c) k else markC (sl b c) set k := fun k hk => by
        rw [hM k hk]
        by_cases q : k < 2
        · rw [if_pos q, if_pos (by omega)]
        · rw [if_neg q, if_neg (by omega)]
      by_cases q : set = 0
      · rw [show (set == 0) = true by simpa using q]
        exact ⟨_, rfl, E, M, by rw [if_pos q], fE, fM, le, lm⟩
      · rw [show (set == 0) = false by simpa using q]
        exact ⟨_, rfl, E, M, by rw [if_neg q], fE, fM, le, lm⟩
  · congr 1
    show b = b.set c (b.getD c zeroS)
    rw [List.getD_eq_getElem?_getD, List.getElem?_eq_getElem (by omega : c < b.length)]
    simp
theorem confR (n : Nat) (hn : 300 < n) (s : Slot) (set : Int) (h0 : 0 ≤ set) (h1 : set < 4294967296) (hs : ∀ k, k < 32 → 0 ≤ en s k) :
    ∃ r, loopF (F88_l2 n s.2.1 s.2.2.1 s.2.2.2 set) n (2, 2, (List.replicate 32 (0 : Int)).set 1 (en s 1), (List.replicate 32 (0 : Int)).set 1 (mk' s 1)) = some r ∧ ∃ st E M, r = (st, s.2.1, E, M, 1) ∧ (st = if ∃ k, 2 ≤ k ∧ k < 32 ∧ bitD set k = true then 3 else 2) ∧ (∀ k, k < 32 → E.getD k 0 = if k < 2 then (if k = 1 then en s 1 else 0) else endC s set k) ∧ (∀ k, k < 32 → M.getD k 0 = if k < 2 then (if k = 1 then mk' s 1 else 0) else markC s set k) ∧ E.length = 32 ∧ M.length = 32 := by
  refine loopF_post (F88_l2 n s.2.1 s.2.2.1 s.2.2.2 set) (fun d => ∃ (k : Nat) (st : Int) (E M : List Int), d = ((k : Int), st, E, M) ∧ 2 ≤ k ∧ k ≤ 32 ∧ E.length = 32 ∧ M.length = 32 ∧ (st = if ∃ j, 2 ≤ j ∧ j < k ∧ bitD set j = true then 3 else 2) ∧ (∀ j, j < 32 → E.getD j 0 = if j < 2 then (if j = 1 then en s 1 else 0) else if j < k then endC s set j else 0) ∧ (∀ j, j < 32 → M.getD j 0 = if j < 2 then (if j = 1 then mk' s 1 else 0) else if j < k then markC s set j else 0))
    (fun _ r => ∃ st E M, r = (st, s.2.1, E, M, 1) ∧ (st = if ∃ k, 2 ≤ k ∧ k < 32 ∧ bitD set k = true then 3 else 2) ∧ (∀ k, k < 32 → E.getD k 0 = if k < 2 then (if k = 1 then en s 1 else 0) else endC s set k) ∧ (∀ k, k < 32 → M.getD k 0 = if k < 2 then (if k = 1 then mk' s 1 else 0) else markC s set k) ∧ E.length = 32 ∧ M.length = 32)
    (fun d => 32 - d.1.toNat) ?_ n _ ⟨2, 2, _, _, rfl, by omega, by omega, rfl, rfl, ?_, fun j hj => ?_, fun j hj => ?_⟩ (by simp; omega)
  · rintro kk d ⟨k, st, E, M, rfl, hk2, hk, le, lm, hst, hE, hM⟩ ih
    simp only [F88_l2, Int.toNat_natCast]
    by_cases hka : k < 32
    · rw [decide_eq_true (show (k : Int) < 32 by omega), two n (by omega) k (by omega)]
      have hp : ((2 ^ k : Nat) : Int) ≠ 0 := by
        have : 0 < 2 ^ k := Nat.pow_pos (by omega)
        omega
      simp only [cond_true, Option.bind_some]
      rw [show (((2 ^ k : Nat) : Int) != 0) = true by simpa using hp, bitR set h0 h1 k hka, inb_true (show (0 : Int) ≤ k by omega) (show (k : Int) < (32 : Nat) by omega), w64 (n := (k : Int) + 1) (by omega) (by omega)]
      simp only [cond_true]
      cases hb : bitD set k
      · simp only [cond_false]
        refine ih _ ⟨k + 1, st, E, M, rfl, by omega, by omega, le, lm, ?_, fun j hj => ?_, fun j hj => ?_⟩ (by simp only [Int.toNat_natCast]; omega)
        · rw [hst]
          by_cases q : ∃ j, 2 ≤ j ∧ j < k ∧ bitD set j = true
          · obtain ⟨j, a1, a2, a3⟩ := q
            rw [if_pos ⟨j, a1, a2, a3⟩, if_pos ⟨j, a1, by omega, a3⟩]
          · rw [if_neg q, if_neg]
            rintro ⟨j, a1, a2, a3⟩
            rcases Nat.lt_succ_iff_lt_or_eq.1 a2 with h | h
            · exact q ⟨j, a1, h, a3⟩
            · subst h; rw [hb] at a3; cases a3
        · rw [hE j hj]
          by_cases q1 : j < 2
          · rw [if_pos q1, if_pos q1]
          · rw [if_neg q1, if_neg q1]
            by_cases q : k = j
            · subst q
              rw [if_neg (by omega), if_pos (by omega)]; unfold endC; rw [hb]; rfl
            · by_cases q2 : j < k
              · rw [if_pos q2, if_pos (by omega)]
              · rw [if_neg q2, if_neg (by omega)]
        · rw [hM j hj]
          by_cases q1 : j < 2
          · rw [if_pos q1, if_pos q1]
          · rw [if_neg q1, if_neg q1]
            by_cases q : k = j
            · subst q
              rw [if_neg (by omega), if_pos (by omega)]; unfold markC; rw [hb]; rfl
            · by_cases q2 : j < k
              · rw [if_pos q2, if_pos (by omega)]
              · rw [if_neg q2, if_neg (by omega)]
      · simp only [cond_true]
        refine ih _ ⟨k + 1, 3, _, _, rfl, by omega, by omega, by simpa using le, by simpa using lm, ?_, fun j hj => ?_, fun j hj => ?_⟩ (by simp only [Int.toNat_natCast]; omega)
        · rw [if_pos ⟨k, hk2, by omega, hb⟩]
        · rw [gset E k j _ (by omega)]
          by_cases q : k = j
          · subst q
            rw [if_pos rfl, if_neg (show ¬ k < 2 by omega), if_pos (show k < k + 1 by omega)]; unfold endC; rw [hb]
            have := hs k hka
            show (if en s k > 1 then en s k else 1) = if en s k = 0 then 1 else en s k
            by_cases q0 : en s k = 0
            · rw [if_pos q0, if_neg (by omega)]
            · rw [if_neg q0]
              by_cases q1 : en s k > 1
              · rw [if_pos q1]
              · rw [if_neg q1]; omega
          · rw [if_neg q, hE j hj]
            by_cases q1 : j < 2
            · rw [if_pos q1, if_pos q1]
            · rw [if_neg q1, if_neg q1]
              by_cases q2 : j < k
              · rw [if_pos q2, if_pos (by omega)]
              · rw [if_neg q2, if_neg (by omega)]
        · rw [gset M k j _ (by omega)]
          by_cases q : k = j
          · subst q
            rw [if_pos rfl, if_neg (by omega), if_pos (by omega)]; unfold markC; rw [hb]; rfl
          · rw [if_neg q, hM j hj]
            by_cases q1 : j < 2
            · rw [if_pos q1, if_pos q1]
            · rw [if_neg q1, if_neg q1]
              by_cases q2 : j < k
              · rw [if_pos q2, if_pos (by omega)]
              · rw [if_neg q2, if_neg (by omega)]
    · obtain rfl : k = 32 := by omega
      rw [decide_eq_false (by omega)]
      refine ⟨_, rfl, st, E, M, rfl, hst, fun j hj => ?_, fun j hj => ?_, le, lm⟩
      · rw [hE j hj, if_pos hj]
      · rw [hM j hj, if_pos hj]
  · rw [if_neg]
    rintro ⟨j, a1, a2, _⟩
    omega
  · rw [gset _ 1 j _ (by simp), rep0]
    by_cases q : j = 1
    · subst q; rfl
    · rw [if_neg (by omega), if_neg q]
      by_cases q1 : j < 2
      · rw [if_pos q1]
      · rw [if_neg q1, if_neg q1]
  · rw [gset _ 1 j _ (by simp), rep0]
    by_cases q : j = 1
    · subst q; rfl
    · rw [if_neg (by omega), if_neg q]
      by_cases q1 : j < 2
      · rw [if_pos q1]
      · rw [if_neg q1, if_neg q1]
end Go.Proofs.Ytdgdkbpmmemphaa

/- The law SlotsDo, in plain Lean (the law). -/
namespace Go.Proofs.Ytdgdkbpmmemphaa
open Go Go.RowKit
open Classical
set_option linter.unusedVariables false

theorem c22 (n : Nat) (b : Slots) (K S E A : Int) (s : Slot) (code : Int) (slot : Nat) (hs : slot < 9) (h : F55 n b K S E A = some (s.1, s.2.1, s.2.2.1, s.2.2.2, code, (slot : Int))) : F25 n b K S E A = some (if code = 1 ∧ 0 < slot then b.set slot s else b, code, (slot : Int)) := by
  unfold F25
  rw [h]
  simp only [Option.bind_some, Int.toNat_natCast]
  by_cases q : code = 1
  · rw [show (code == 1) = true by simpa using q]
    by_cases q2 : 0 < slot
    · rw [decide_eq_true (show (slot : Int) > 0 by omega), inb_true (show (0 : Int) ≤ slot by omega) (show (slot : Int) < (9 : Nat) by omega), if_pos ⟨q, q2⟩]; rfl
    · rw [decide_eq_false (show ¬ (slot : Int) > 0 by omega), if_neg (fun h => q2 h.2)]; rfl
  · rw [show (code == 1) = false by simpa using q, if_neg (fun h => q h.1)]; rfl
def lenB (b : Slots) : Prop := b.length = 9 ∧ ∀ k, k < 9 → (sl b k).2.2.1.length = 32 ∧ (sl b k).2.2.2.length = 32
def len1 (s : Slot) : Prop := s.2.2.1.length = 32 ∧ s.2.2.2.length = 32
def goodT (b : Slots) (c : Nat) (t : Slot) : Prop := slotG t ∧ ∀ k, 1 ≤ k → k < 9 → k ≠ c → t.2.1 ≠ 0 → t.2.1 ≠ (sl b k).2.1
theorem lens_eq {l m : List Int} (hl : l.length = 32) (hm : m.length = 32) (h : ∀ k, k < 32 → l.getD k 0 = m.getD k 0) : l = m := by
  refine List.ext_getElem (by omega) fun k h1 h2 => ?_
  have := h k (by omega)
  rw [List.getD_eq_getElem?_getD, List.getD_eq_getElem?_getD, List.getElem?_eq_getElem h1, List.getElem?_eq_getElem h2] at this
  exact this
theorem eqS_eq {s t : Slot} (hs : len1 s) (ht : len1 t) (h : eqS t s = true) : t = s := by
  obtain ⟨h1, h2, h3, h4⟩ := (eqS_iff t s).1 h
  obtain ⟨a, b, c, d⟩ := s
  obtain ⟨a', b', c', d'⟩ := t
  simp only at h1 h2
  have e3 := lens_eq ht.1 hs.1 h3
  have e4 := lens_eq ht.2 hs.2 h4
  simp only at e3 e4
  rw [h1, h2, e3, e4]
theorem set_len {b : Slots} (h : lenB b) {c : Nat} {t : Slot} (hc : c < 9) (ht : len1 t) : lenB (b.set c t) := by
  refine ⟨by simpa using h.1, fun k hk => ?_⟩
  rw [sl_set b c k t (by rw [h.1]; exact hc)]
  by_cases q : c = k
  · rw [if_pos q]; exact ht
  · rw [if_neg q]; exact h.2 k hk
theorem set_good {b : Slots} (hl : b.length = 9) {c : Nat} {t : Slot} (h0 : 0 < c) (hc : c < 9) (hb : boardG b) (ht : goodT b c t) : boardG (b.set c t) := by
  refine ⟨by rw [sl_set b c 0 t (by omega), if_neg (by omega)]; exact hb.1, fun i i1 i9 => ?_⟩
  have hi := hb.2 i i1 i9
  constructor
  · rw [sl_set b c i t (by omega)]
    by_cases q : c = i
    · rw [if_pos q]; exact ht.1
    · rw [if_neg q]; exact hi.1
  · intro k k1 ki
    rw [sl_set b c i t (by omega), sl_set b c k t (by omega)]
    by_cases q : c = i
    · rw [if_pos q, if_neg (by omega)]
      exact ht.2 k k1 (by omega) (by omega)
    · rw [if_neg q]
      by_cases q2 : c = k
      · rw [if_pos q2]
        intro hne he
        exact ht.2 i i1 i9 (fun h => q h.symm) (by omega) he.symm
      · rw [if_neg q2]
        exact hi.2 k k1 ki
theorem apart_all {b : Slots} (hb : boardG b) {c : Nat} (h0 : 0 < c) (hc : c < 9) : ∀ k, 1 ≤ k → k < 9 → k ≠ c → (sl b c).2.1 ≠ 0 → (sl b c).2.1 ≠ (sl b k).2.1 := by
  intro k k1 k9 kc hne he
  rcases Nat.lt_or_gt_of_ne kc with h | h
  · exact (hb.2 c h0 hc).2 k k1 h hne he
  · exact (hb.2 k k1 k9).2 c h0 h (by omega) he.symm
/-- an endpoint of a slot, turned -/
theorem slot_set {s : Slot} (hs : slotG s) {E : Nat} (e1 : 1 ≤ E) (e2 : E < 32) (he : en s E ≠ 0) {v A : Int} (hv : 1 ≤ v ∧ v ≤ 3) (hA : 0 ≤ A ∧ A ≤ 65535) {X M : List Int} (hX : ∀ k, k < 32 → X.getD k 0 = if k = E then v else en s k) (hM : ∀ k, k < 32 → M.getD k 0 = if k = E then A else mk' s k) : slotG (s.1, s.2.1, X, M) := by
  rcases hs with ⟨_, _, r2, _⟩ | ⟨h1, h2, h3, h4, h5, h6⟩
  · exact absurd (r2 E e2) he
  have eX : ∀ k, k < 32 → en (s.1, s.2.1, X, M) k = if k = E then v else en s k := hX
  have eM : ∀ k, k < 32 → mk' (s.1, s.2.1, X, M) k = if k = E then A else mk' s k := hM
  refine .inr ⟨h1, h2, ?_, ?_, fun k hk => ?_, ?_⟩
  · rw [eX 0 (by omega), if_neg (by omega)]; exact h3
  · rw [eX 1 (by omega)]
    split
    · omega
    · exact h4
  · unfold endOk
    rw [eX k hk, eM k hk]
    by_cases q : k = E
    · rw [if_pos q, if_pos q]; exact ⟨by omega, hA, fun h => by omega⟩
    · rw [if_neg q, if_neg q]; exact h5 k hk
  · rw [← h6]
    constructor
    · rintro ⟨k, k2, k32, hk⟩
      rw [eX k k32] at hk
      by_cases q : k = E
      · exact ⟨E, by omega, e2, he⟩
      · rw [if_neg q] at hk; exact ⟨k, k2, k32, hk⟩
    · rintro ⟨k, k2, k32, hk⟩
      refine ⟨k, k2, k32, ?_⟩
      rw [eX k k32]
      split
      · omega
      · exact hk
/-- a slot that gets its address -/
theorem slot_addr {s : Slot} (hs : slotG s) (h1 : s.1 = 1) {L : Int} (hL : 1 ≤ L ∧ L ≤ 127) (hl : len1 s) : slotG (2, L, s.2.2.1.set 1 1, s.2.2.2) := by
  rcases hs with ⟨_, _, r2, r3⟩ | ⟨h, _⟩
  · have eX : ∀ k, k < 32 → en (2, L, s.2.2.1.set 1 1, s.2.2.2) k = if 1 = k then 1 else 0 := fun k hk => by
      show (s.2.2.1.set 1 1).getD k 0 = _
      rw [gset _ 1 k 1 (by rw [hl.1]; omega)]
      split
      · rfl
      · exact r2 k hk
    have eM : ∀ k, k < 32 → mk' (2, L, s.2.2.1.set 1 1, s.2.2.2) k = 0 := fun k hk => r3 k hk
    refine .inr ⟨⟨show (2 : Int) ≤ 2 by decide, show (2 : Int) ≤ 3 by decide⟩, hL, by rw [eX 0 (by omega), if_neg (by omega)], by rw [eX 1 (by omega), if_pos rfl]; decide, fun k hk => ?_, ?_⟩
    · unfold endOk
      rw [eX k hk, eM k hk]
      split
      · exact ⟨by decide, by decide, fun h => rfl⟩
      · exact ⟨by decide, by decide, fun h => rfl⟩
    · constructor
      · rintro ⟨k, k2, k32, hk⟩
        rw [eX k k32, if_neg (by omega)] at hk
        exact absurd rfl hk
      · intro h
        exact absurd (show (2 : Int) = 3 from h) (by decide)
  · omega
/-- a slot that is configured -/
theorem slot_conf {s : Slot} (hs : slotG s) (h1 : ¬ s.1 ≤ 1) {set st : Int} {E M : List Int} (hst : st = if ∃ k, 2 ≤ k ∧ k < 32 ∧ bitD set k = true then 3 else 2) (fE : ∀ k, k < 32 → E.getD k 0 = if k < 2 then (if k = 1 then en s 1 else 0) else endC s set k) (fM : ∀ k, k < 32 → M.getD k 0 = if k < 2 then (if k = 1 then mk' s 1 else 0) else markC s set k) : slotG (st, s.2.1, E, M) := by
  rcases hs with ⟨h, _⟩ | ⟨_, h2, h3, h4, h5, h6⟩
  · omega
  have eX : ∀ k, k < 32 → en (st, s.2.1, E, M) k = if k < 2 then (if k = 1 then en s 1 else 0) else endC s set k := fE
  have eM : ∀ k, k < 32 → mk' (st, s.2.1, E, M) k = if k < 2 then (if k = 1 then mk' s 1 else 0) else markC s set k := fM
  have bit1 : ∀ k, k < 32 → bitD set k = true → 1 ≤ endC s set k ∧ endC s set k ≤ 3 := fun k hk hb => by
    have := (h5 k hk).1
    unfold endC
    rw [hb, if_pos rfl]
    split <;> omega
  have bit0 : ∀ k, k < 32 → bitD set k = false → endC s set k = 0 ∧ markC s set k = 0 := fun k hk hb => by
    unfold endC markC
    rw [hb]; simp
  refine .inr ⟨?_, h2, by rw [eX 0 (by omega), if_pos (by omega), if_neg (by omega)], by rw [eX 1 (by omega), if_pos (by omega), if_pos rfl]; exact h4, fun k hk => ?_, ?_⟩
  · show 2 ≤ st ∧ st ≤ 3
    rw [hst]; split <;> omega
  · unfold endOk
    rw [eX k hk, eM k hk]
    by_cases q : k < 2
    · rw [if_pos q, if_pos q]
      by_cases q1 : k = 1
      · rw [if_pos q1, if_pos q1]; exact h5 1 (by omega)
      · rw [if_neg q1, if_neg q1]; exact ⟨by decide, by decide, fun _ => rfl⟩
    · rw [if_neg q, if_neg q]
      cases hb : bitD set k
      · obtain ⟨a, b⟩ := bit0 k hk hb
        rw [a, b]; exact ⟨by decide, by decide, fun _ => rfl⟩
      · have := bit1 k hk hb
        have hm : markC s set k = mk' s k := by unfold markC; rw [hb]; rfl
        rw [hm]
        exact ⟨by omega, (h5 k hk).2.1, fun h => by omega⟩
  · show _ ↔ st = 3
    constructor
    · rintro ⟨k, k2, k32, hk⟩
      rw [eX k k32, if_neg (by omega)] at hk
      rw [hst, if_pos]
      cases hb : bitD set k
      · exact absurd (bit0 k k32 hb).1 hk
      · exact ⟨k, k2, k32, hb⟩
    · intro h
      rw [hst] at h
      split at h
      · rename_i hx
        obtain ⟨k, k2, k32, hb⟩ := hx
        refine ⟨k, k2, k32, ?_⟩
        rw [eX k k32, if_neg (by omega)]
        have := bit1 k k32 hb
        omega
      · omega
theorem pig : ∀ (n : Nat) (f : Nat → Int), (∀ a : Nat, 1 ≤ a → a ≤ n + 1 → ∃ k, k < n ∧ f k = (a : Int)) → False
  | 0, f, h => by
    obtain ⟨k, hk, _⟩ := h 1 (by omega) (by omega)
    omega
  | n + 1, f, h => by
    obtain ⟨k0, hk0, hf0⟩ := h (n + 2) (by omega) (by omega)
    refine pig n (fun j => if j = k0 then f n else f j) fun a a1 a2 => ?_
    obtain ⟨k, hk, hf⟩ := h a a1 (by omega)
    have hne : k ≠ k0 := fun he => by subst he; omega
    by_cases q : k < n
    · exact ⟨k, q, by show (if k = k0 then f n else f k) = _; rw [if_neg hne]; exact hf⟩
    · obtain rfl : k = n := by omega
      exact ⟨k0, by omega, by show (if k0 = k0 then f k else f k0) = _; rw [if_pos rfl]; exact hf⟩
def Same (b : Slots) (x y : Option (Slots × Int × Int)) : Prop := ∃ b' c m, x = some (b', c, m) ∧ y = some (b', c, m) ∧ lenB b' ∧ (boardG b → boardG b') ∧ (0 ≤ c ∧ c ≤ 255) ∧ (0 ≤ m ∧ m ≤ 8)
theorem same_b (n : Nat) (b : Slots) (hL : lenB b) (K S E A : Int) (s : Slot) (code : Int) (slot : Nat) (hs : slot < 9) (hc2 : 0 ≤ code ∧ code ≤ 255) (hc : code = 1 → slot = 0) (x : Option (Slots × Int × Int)) (hx : x = some (b, code, (slot : Int))) (h : F55 n b K S E A = some (s.1, s.2.1, s.2.2.1, s.2.2.2, code, (slot : Int))) : Same b x (F25 n b K S E A) := by
  refine ⟨b, code, (slot : Int), hx, ?_, hL, fun h => h, hc2, by omega⟩
  rw [c22 n b K S E A s code slot hs h, if_neg (fun h => by have := hc h.1; omega)]
theorem same_s (n : Nat) (b : Slots) (hL : lenB b) (K S E A : Int) (s t : Slot) (slot : Nat) (hs : slot < 9) (h0 : 0 < slot) (ls : len1 s) (lt : len1 t) (hg : boardG b → goodT b slot s) (he : eqS t s = true) (x : Option (Slots × Int × Int)) (hx : x = some (b.set slot t, 1, (slot : Int))) (h : F55 n b K S E A = some (s.1, s.2.1, s.2.2.1, s.2.2.2, 1, (slot : Int))) : Same b x (F25 n b K S E A) := by
  have e := eqS_eq ls lt he
  refine ⟨b.set slot s, 1, (slot : Int), by rw [hx, e], ?_, set_len hL hs ls, fun hb => set_good hL.1 h0 hs hb (hg hb), by omega, by omega⟩
  rw [c22 n b K S E A s 1 slot hs h, if_pos ⟨rfl, h0⟩]
def no4 : Slot := (0, 0, List.replicate 32 (0 : Int), List.replicate 32 (0 : Int))
/-- an endpoint's command -/
theorem endD (n : Nat) (hn : 300 < n) (b : Slots) (hL : lenB b) (hB : boardG b) (hl : b.length = 9) (c : Nat) (hc0 : 0 < c) (hc : c < 9) (K E A : Int) (hK : K = 6 ∨ K = 7 ∨ K = 8 ∨ K = 9) (h1 : (sl b c).1 ≠ 0) (l1 : (sl b c).2.2.1.length = 32) (he : ∀ k, k < 32 → 0 ≤ en (sl b c) k ∧ en (sl b c) k ≤ 3)
    (h65 : F55 n b K (c : Int) E A = (F89 n (sl b c).1 (sl b c).2.1 (sl b c).2.2.1 (sl b c).2.2.2 K (c : Int) E A).bind fun y => some (y.1, y.2.1, y.2.2.1, y.2.2.2.1, y.2.2.2.2, (c : Int))) : Same b (F51_j50 n b K (c : Int) E A false) (F25 n b K (c : Int) E A) := by
  unfold F51_j50
  simp only [cond_false, Int.toNat_natCast]
  rw [inb_true (show (0 : Int) ≤ c by omega) (show (c : Int) < (9 : Nat) by omega), show (((b.getD c (0, (0, ((List.replicate 32 (0 : Int)), (List.replicate 32 (0 : Int)))))).1) == 0) = false from (show ((sl b c).1 == 0) = false by simpa using h1), show (K == 3) = false by rw [beq_eq_false_iff_ne]; omega, show (K == 4) = false by rw [beq_eq_false_iff_ne]; omega, show (K == 5) = false by rw [beq_eq_false_iff_ne]; omega]
  simp only [cond_false, cond_true, j71]
  unfold F89 at h65
  rw [b16] at h65
  simp only [Option.bind_some] at h65
  by_cases e1 : E < 1
  · rw [decide_eq_false (show ¬ (1 ≤ E ∧ E ≤ 31) by omega)] at h65
    rw [decide_eq_true e1]
    exact same_b n b hL K c E A (sl b c) 5 c hc (by omega) (fun h => by omega) _ rfl h65
  by_cases e2 : E > 31
  · rw [decide_eq_false (show ¬ (1 ≤ E ∧ E ≤ 31) by omega)] at h65
    rw [decide_eq_false e1, decide_eq_true e2]
    exact same_b n b hL K c E A (sl b c) 5 c hc (by omega) (fun h => by omega) _ rfl h65
  obtain ⟨E, rfl⟩ : ∃ m : Nat, E = (m : Int) := ⟨E.toNat, by omega⟩
  rw [decide_eq_true (show (1 ≤ (E : Int) ∧ (E : Int) ≤ 31) by omega), inb_true (show (0 : Int) ≤ E by omega) (show (E : Int) < (32 : Nat) by omega)] at h65
  rw [decide_eq_false e1, decide_eq_false e2, inb_true (show (0 : Int) ≤ E by omega) (show (E : Int) < (32 : Nat) by omega)]
  have hh := he E (by omega)
  simp only [Bool.not_true, cond_false, cond_true, Int.toNat_natCast, F89_j14, F89_j15, F89_j19, F89_j20, F89_j13, F89_j18] at h65
  simp only [cond_true, Int.toNat_natCast, F51_j89, F51_j90, F51_j91, F51_j92, j71]
  have g0 : (sl b c).2.2.1.getD E 0 = en (sl b c) E := rfl
  have g0' : (b.getD c (0, (0, ((List.replicate 32 (0 : Int)), (List.replicate 32 (0 : Int)))))).2.2.1.getD E 0 = en (sl b c) E := rfl
  have idE : ∀ v, en (sl b c) E = v → ∀ k, k < 32 → en (sl b c) k = ((sl b c).2.2.1.set E v).getD k 0 := fun v hv k hk => by
    rw [gset _ E k v (by omega)]
    by_cases q : E = k
    · subst q; rw [if_pos rfl, hv]
    · rw [if_neg q]; rfl
  rw [g0] at h65
  rw [g0']
  by_cases v0 : en (sl b c) E = 0
  · rw [v0] at h65 ⊢
    exact same_b n b hL K c E A (sl b c) 12 c hc (by omega) (fun h => by omega) _ rfl h65
  rw [show (en (sl b c) E == 0) = false by simpa using v0] at h65 ⊢
  simp only [cond_false] at h65 ⊢
  have hv : en (sl b c) E = 1 ∨ en (sl b c) E = 2 ∨ en (sl b c) E = 3 := by omega
  rw [b16] at h65
  have mkR : ∀ k, k < 32 → 0 ≤ mk' (sl b c) k ∧ mk' (sl b c) k ≤ 65535 := fun k hk => by
    rcases (hB.2 c hc0 hc).1 with ⟨_, _, _, r3⟩ | ⟨_, _, _, _, r, _⟩
    · rw [r3 k hk]; decide
    · exact (r k hk).2.1
  have setE : ∀ v k, k < 32 → ((sl b c).2.2.1.set E v).getD k 0 = if k = E then v else en (sl b c) k := fun v k hk => by
    rw [gset _ E k v (by omega)]
    by_cases q : E = k
    · rw [if_pos q, if_pos q.symm]
    · rw [if_neg q, if_neg (fun h => q h.symm)]; rfl
  have setM : ∀ v k, k < 32 → ((sl b c).2.2.2.set E v).getD k 0 = if k = E then v else mk' (sl b c) k := fun v k hk => by
    rw [gset _ E k v (by rw [(hL.2 c hc).2]; omega)]
    by_cases q : E = k
    · rw [if_pos q, if_pos q.symm]
    · rw [if_neg q, if_neg (fun h => q h.symm)]; rfl
  have bad : ∀ x, x = some (b, 19, (c : Int)) → F55 n b K (c : Int) E A = some ((sl b c).1, (sl b c).2.1, (sl b c).2.2.1, (sl b c).2.2.2, 19, (c : Int)) → Same b x (F25 n b K (c : Int) E A) := fun x hx h => same_b n b hL K c E A (sl b c) 19 c hc (by omega) (fun h => by omega) x hx h
  have put : ∀ v x, (1 ≤ v ∧ v ≤ 3) → x = some (b.set c ((sl b c).1, (sl b c).2.1, (sl b c).2.2.1.set E v, (sl b c).2.2.2), 1, (c : Int)) → F55 n b K (c : Int) E A = some ((sl b c).1, (sl b c).2.1, (sl b c).2.2.1.set E v, (sl b c).2.2.2, 1, (c : Int)) → Same b x (F25 n b K (c : Int) E A) := fun v x hv1 hx h => same_s n b hL K c E A ((sl b c).1, (sl b c).2.1, (sl b c).2.2.1.set E v, (sl b c).2.2.2) _ c hc hc0 (by exact ⟨by simpa using l1, (hL.2 c hc).2⟩) (by exact ⟨by simpa using l1, (hL.2 c hc).2⟩) (fun hb => ⟨slot_set (hB.2 c hc0 hc).1 (by omega) (by omega) v0 hv1 (mkR E (by omega)) (setE v) (fun k hk => by split <;> first | (rename_i q; subst q; rfl) | rfl), apart_all hb hc0 hc⟩) (eqS_refl _) x hx h
  rcases hK with rfl | rfl | rfl | rfl
  · rcases hv with hv | hv | hv <;> rw [hv] at h65 ⊢
    · exact bad _ (by rfl) h65
    · exact put 3 _ (by decide) (by rfl) h65
    · exact bad _ (by rfl) h65
  · rcases hv with hv | hv | hv <;> rw [hv] at h65 ⊢
    · exact put 3 _ (by decide) (by rfl) h65
    · exact bad _ (by rfl) h65
    · exact bad _ (by rfl) h65
  · have a0 : A < 0 ∨ (¬ A < 0 ∧ A > 65535) ∨ (¬ A < 0 ∧ ¬ A > 65535) := by omega
    rcases a0 with a0 | ⟨a0, a1⟩ | ⟨a0, a1⟩
    · rw [decide_eq_false (show ¬ (0 ≤ A ∧ A ≤ 65535) by omega)] at h65
      rw [decide_eq_true a0]
      rcases hv with hv | hv | hv <;> rw [hv] at h65 ⊢ <;> exact same_b n b hL 8 c E A (sl b c) 17 c hc (by omega) (fun h => by omega) _ (by rfl) h65
    · rw [decide_eq_false (show ¬ (0 ≤ A ∧ A ≤ 65535) by omega)] at h65
      rw [decide_eq_false a0, decide_eq_true a1]
      rcases hv with hv | hv | hv <;> rw [hv] at h65 ⊢ <;> exact same_b n b hL 8 c E A (sl b c) 17 c hc (by omega) (fun h => by omega) _ (by rfl) h65
    · rw [decide_eq_true (show (0 ≤ A ∧ A ≤ 65535) by omega)] at h65
      rw [decide_eq_false a0, decide_eq_false a1]
      rcases hv with hv | hv | hv <;> rw [hv] at h65 ⊢
      · exact bad _ (by rfl) h65
      · exact bad _ (by rfl) h65
      · refine same_s n b hL 8 c E A ((sl b c).1, (sl b c).2.1, (sl b c).2.2.1.set E 3, (sl b c).2.2.2.set E A) ((sl b c).1, (sl b c).2.1, (sl b c).2.2.1, (sl b c).2.2.2.set E A) c hc hc0 (by exact ⟨by simpa using l1, by simpa using (hL.2 c hc).2⟩) (by exact ⟨l1, by simpa using (hL.2 c hc).2⟩) (fun hb => ⟨slot_set (hB.2 c hc0 hc).1 (by omega) (by omega) v0 (by decide) (show 0 ≤ A ∧ A ≤ 65535 by omega) (setE 3) (setM A), apart_all hb hc0 hc⟩) ?_ _ (by rfl) h65
        rw [eqS_iff]
        exact ⟨rfl, rfl, idE 3 hv, fun _ _ => rfl⟩
  · rcases hv with hv | hv | hv <;> rw [hv] at h65 ⊢
    · exact put 1 _ (by decide) (by rfl) h65
    · exact bad _ (by rfl) h65
    · exact put 1 _ (by decide) (by rfl) h65
theorem isZ (v : Int) (c : Int) (h : v ≠ c) : (v == c) = false := by simpa using h
theorem main (n : Nat) (hn : 300 < n) (b : Slots) (hL : lenB b) (K S E A : Int) : Same b (F51 n b K S E A) (F25 n b K S E A) := by
  have hl : b.length = 9 := hL.1
  have h65 := c65 n (by omega) b K S E A
  unfold F55_l2 at h65
  simp only [show (decide ((9 : Int) < 9)) = false from rfl, cond_false, b15 n (by omega) b hl, b16, Option.bind_some] at h65
  unfold F51
  rw [b66 n (by omega)]
  simp only [Option.bind_some]
  rcases (Classical.em (boardE b = 0)).symm with hE | hE
  · rw [show (boardE b != 0) = true by simpa using hE] at h65 ⊢
    exact same_b n b hL K S E A no4 0 0 (by omega) (by omega) (fun h => by omega) _ rfl h65
  have hG : boardG b := by
    by_cases q : boardG b
    · exact q
    · unfold boardE at hE; rw [if_neg q] at hE; omega
  obtain ⟨z0, hS⟩ := hG
  obtain ⟨z1, z2, z3, z4⟩ := (eqS_zero _).1 z0
  rw [show (boardE b != 0) = false by simpa using hE] at h65 ⊢
  simp only [cond_false] at h65 ⊢
  by_cases k1 : K = 1
  · rw [show (K == 1) = true by simpa using k1] at h65 ⊢
    exact same_b n b hL K S E A no4 1 0 (by omega) (by omega) (fun _ => rfl) _ rfl h65
  rw [isZ K 1 k1] at h65 ⊢
  simp only [cond_false] at h65 ⊢
  by_cases k2 : K = 2
  · rw [show (K == 2) = true by simpa using k2] at h65 ⊢
    obtain ⟨i, i1, i9, i0, iall⟩ := firstOff b
    have hlf : F87 n (onK b 9) = some (i : Int) := least n (onK b 9) i (by have := onK_len b 9; omega) (by have := onK_len b 9; omega) i1 (by omega) (by omega) (by
      rw [onK_mem]
      intro h
      exact h.2 (i0 h.1)) (fun a a1 a2 => by
      rw [onK_mem]
      exact ⟨by omega, iall a a1 a2⟩)
    rw [hlf] at h65
    simp only [cond_true, Option.bind_some] at h65 ⊢
    rw [enableD n (by omega) b i i1 i9 i0 iall]
    by_cases q : i < 9
    · rw [if_pos q]
      rw [decide_eq_true (show (i : Int) ≤ 8 by omega)] at h65
      refine same_s n b hL K S E A (1, 0, List.replicate 32 (0 : Int), List.replicate 32 (0 : Int)) (1, (sl b i).2) i q (by omega) ⟨rfl, rfl⟩ (hL.2 i q) (fun _ => ⟨.inl ⟨by decide, rfl, fun k hk => rep0 k, fun k hk => rep0 k⟩, fun _ _ _ _ h => absurd rfl h⟩) ?_ _ rfl h65
      rw [eqS_iff]
      rcases (hS i i1 q).1 with ⟨_, r1, r2, r3⟩ | ⟨r, _⟩
      · refine ⟨rfl, r1, fun k hk => ?_, fun k hk => ?_⟩
        · show en (sl b i) k = _
          rw [r2 k hk]; exact (rep0 k).symm
        · show mk' (sl b i) k = _
          rw [r3 k hk]; exact (rep0 k).symm
      · have := i0 q; omega
    · rw [if_neg q]
      rw [decide_eq_false (show ¬ (i : Int) ≤ 8 by omega)] at h65
      exact same_b n b hL K S E A no4 9 0 (by omega) (by omega) (fun h => by omega) _ rfl h65
  rw [isZ K 2 k2] at h65 ⊢
  simp only [cond_false] at h65 ⊢
  have jt : F51_j50 n b K S E A true = some (b, 5, 0) := rfl
  rcases (Classical.em (3 ≤ K ∧ K ≤ 9)).symm with kk | kk
  · rw [decide_eq_false kk] at h65
    have : F55 n b K S E A = some (no4.1, no4.2.1, no4.2.2.1, no4.2.2.2, 5, ((0 : Nat) : Int)) := h65
    refine same_b n b hL K S E A no4 5 0 (by omega) (by omega) (fun h => by omega) _ ?_ this
    by_cases q : K < 1
    · rw [decide_eq_true q]; exact jt
    · rw [decide_eq_false q, decide_eq_true (show K > 9 by omega)]; exact jt
  rw [decide_eq_true kk] at h65
  rw [decide_eq_false (show ¬ K < 1 by omega), decide_eq_false (show ¬ K > 9 by omega)]
  simp only [Bool.not_true, cond_false] at h65 ⊢
  rcases (Classical.em (1 ≤ S ∧ S ≤ 8)).symm with ks | ks
  · rw [decide_eq_false ks] at h65
    have : F55 n b K S E A = some (no4.1, no4.2.1, no4.2.2.1, no4.2.2.2, 5, ((0 : Nat) : Int)) := h65
    refine same_b n b hL K S E A no4 5 0 (by omega) (by omega) (fun h => by omega) _ ?_ this
    by_cases q : S < 1
    · rw [decide_eq_true q]; exact jt
    · rw [decide_eq_false q, decide_eq_true (show S > 8 by omega)]; exact jt
  rw [decide_eq_true ks] at h65
  rw [decide_eq_false (show ¬ S < 1 by omega), decide_eq_false (show ¬ S > 8 by omega)]
  obtain ⟨c, rfl⟩ : ∃ c : Nat, S = (c : Int) := ⟨S.toNat, by omega⟩
  have hc : c < 9 := by omega
  have hc0 : 0 < c := by omega
  rw [inb_true (show (0 : Int) ≤ c by omega) (show (c : Int) < (9 : Nat) by omega)] at h65
  simp only [Bool.not_true, cond_false, cond_true, Int.toNat_natCast] at h65 ⊢
  obtain ⟨l1, l2⟩ := hL.2 c hc
  have e0 : (b.getD c (0, (0, ((List.replicate 32 (0 : Int)), (List.replicate 32 (0 : Int)))))) = sl b c := rfl
  rw [e0] at h65
  by_cases s0 : (sl b c).1 = 0
  · rw [show ((sl b c).1 == 0) = true by simpa using s0] at h65
    refine same_b n b hL K c E A (sl b c) 11 c hc (by omega) (fun h => by omega) _ ?_ h65
    unfold F51_j50
    rw [inb_true (show (0 : Int) ≤ c by omega) (show (c : Int) < (9 : Nat) by omega)]
    simp only [cond_true, cond_false, Int.toNat_natCast]
    rw [e0, show ((sl b c).1 == 0) = true by simpa using s0, j71]; rfl
  have p50 : F51_j50 n b K (c : Int) E A false = (bif K == 3 then pick b 1 c (b.set c zeroS) else bif K == 4 then (bif (sl b c).1 != 1 then pick b 19 c b else loopF (F51_l79 n b (c : Int)) n (1, true)) else bif K == 5 then (bif decide (A < 0) then F51_j83 n b c A true else bif decide (A ≥ 4294967296) then F51_j83 n b c A true else F51_j83 n b c A (bitsI .and .i64 A 3 != 0)) else F51_j50 n b K (c : Int) E A false) := by
    rcases (Classical.em (K = 3 ∨ K = 4 ∨ K = 5)).symm with a3 | a3
    · rw [isZ K 3 (by omega), isZ K 4 (by omega), isZ K 5 (by omega)]; rfl
    conv => lhs; unfold F51_j50
    rw [inb_true (show (0 : Int) ≤ c by omega) (show (c : Int) < (9 : Nat) by omega)]
    simp only [cond_true, cond_false, Int.toNat_natCast]
    rw [e0, isZ _ 0 s0]
    rcases a3 with rfl | rfl | rfl
    · exact j71 n b c 1 _
    · simp only [j71]; rfl
    · rfl
  rw [isZ _ 0 s0] at h65
  simp only [cond_false] at h65
  have hsl := (hS c (by omega) hc).1
  by_cases k3 : K = 3
  · rw [show (K == 3) = true by simpa using k3] at h65 p50
    rw [p50]
    exact same_s n b hL K c E A zeroS zeroS c hc hc0 ⟨rfl, rfl⟩ ⟨rfl, rfl⟩ (fun _ => ⟨.inl ⟨by decide, rfl, fun k hk => rep0 k, fun k hk => rep0 k⟩, fun _ _ _ _ h => absurd rfl h⟩) (eqS_refl _) _ rfl h65
  rw [isZ K 3 k3] at h65 p50
  by_cases k4 : K = 4
  · rw [show (K == 4) = true by simpa using k4] at h65 p50
    rw [p50]
    simp only [cond_true, cond_false] at h65 ⊢
    by_cases s1 : (sl b c).1 = 1
    · rw [show ((sl b c).1 != 1) = false by simpa using s1] at h65 ⊢
      have hall : ∀ k, k < 9 → ((sl b k).2.1 ≤ 127 ∧ ((sl b k).1 = 0 → (sl b k).2.1 = 0)) := fun k hk => by
        by_cases q : k = 0
        · subst q; omega
        · rcases (hS k (by omega) hk).1 with ⟨_, r1, _⟩ | ⟨r, r2, _⟩ <;> omega
      obtain ⟨L, L1, Lm, Lno, Lall⟩ := freeAddr b (fun k hk => (hall k hk).1)
      have hlf : F87 n (adK b 9) = some (L : Int) := least n (adK b 9) L (by have := adK_len b 9; omega) (by have := adK_len b 9; omega) L1 (by omega) (by omega) (by
        rw [adK_mem]
        rintro ⟨k, a1, _, a2⟩
        exact Lno k a1 a2) (fun a a1 a2 => by
        rw [adK_mem]
        obtain ⟨k, b1, b2⟩ := Lall a a1 a2
        exact ⟨k, b1, fun h => by have := (hall k b1).2 h; omega, b2⟩)
      rw [hlf] at h65
      simp only [cond_false]
      rw [addressD n hn b hl c hc L L1 Lm Lno Lall]
      have L10 : L ≤ 10 := Classical.byContradiction fun hno => pig 9 (fun k => (sl b k).2.1) fun a a1 a2 => Lall a a1 (by omega)
      exact same_s n b hL K c E A (2, (L : Int), (sl b c).2.2.1.set 1 1, (sl b c).2.2.2) (2, (L : Int), (sl b c).2.2.1.set 1 1, (sl b c).2.2.2) c hc hc0 ⟨by simpa using l1, l2⟩ ⟨by simpa using l1, l2⟩ (fun _ => ⟨slot_addr hsl s1 (by omega) ⟨l1, l2⟩, fun k _ k9 _ _ he => Lno k k9 he.symm⟩) (eqS_refl _) _ rfl h65
    · rw [show ((sl b c).1 != 1) = true by simpa using s1] at h65 ⊢
      exact same_b n b hL K c E A (sl b c) 19 c hc (by omega) (fun h => by omega) _ rfl h65
  rw [isZ K 4 k4] at h65 p50
  have hen : ∀ k, k < 32 → 0 ≤ en (sl b c) k ∧ en (sl b c) k ≤ 3 := fun k hk => by
    rcases hsl with ⟨_, _, r2, _⟩ | ⟨_, _, _, _, r2, _⟩
    · have := r2 k hk; omega
    · exact (r2 k hk).1
  rcases (Classical.em (K = 5)).symm with k5 | k5
  · rw [isZ K 5 k5] at h65
    exact endD n hn b hL ⟨z0, hS⟩ hl c hc0 hc K E A (by omega) s0 l1 hen h65
  rw [show (K == 5) = true by simpa using k5] at h65 p50
  rw [p50]
  clear p50
  simp only [cond_true, cond_false] at h65 ⊢
  unfold F88 at h65
  rw [show (32 : Int) = ((32 : Nat) : Int) from rfl, two n (by omega) 32 (by omega), Option.bind_some, b16] at h65
  have e32 : IntKind.wrap .i64 (((2 ^ 32 : Nat) : Int) - 1) = 4294967295 := by decide
  rw [e32] at h65
  have bad : ∀ code : Int, (0 ≤ code ∧ code ≤ 255) → code ≠ 1 → F55 n b K c E A = some ((sl b c).1, (sl b c).2.1, (sl b c).2.2.1, (sl b c).2.2.2, code, (c : Int)) → Same b (some (b, code, (c : Int))) (F25 n b K c E A) := fun code hc3 hc1 h => same_b n b hL K c E A (sl b c) code c hc hc3 (fun h => absurd h hc1) _ rfl h
  have jt : F51_j83 n b (c : Int) A true = some (b, 17, (c : Int)) := j71 n b c 17 b
  by_cases a0 : A < 0
  · rw [decide_eq_true a0, jt]
    rw [decide_eq_false (show ¬ (0 ≤ A ∧ A ≤ 4294967295) by omega)] at h65
    exact bad 17 (by omega) (by omega) h65
  by_cases a1 : A ≥ 4294967296
  · rw [decide_eq_false a0, decide_eq_true a1]
    rw [decide_eq_false (show ¬ (0 ≤ A ∧ A ≤ 4294967295) by omega)] at h65
    exact bad 17 (by omega) (by omega) h65
  rw [decide_eq_false a0, decide_eq_false a1]
  rw [decide_eq_true (show 0 ≤ A ∧ A ≤ 4294967295 by omega)] at h65
  have em : bitsI .and .i64 A 3 = A % 4 := by
    obtain ⟨x, rfl⟩ : ∃ x : Nat, A = (x : Int) := ⟨A.toNat, by omega⟩
    have := bMask x 2 (by omega) (by omega)
    have e3 : ((2 ^ 2 - 1 : Nat) : Int) = 3 := rfl
    rw [e3] at this
    rw [this]; simp
  rw [em]
  rw [Option.bind_some, Int.tmod_eq_emod_of_nonneg (by omega)] at h65
  simp only [Bool.not_true, cond_false] at h65 ⊢
  rcases (Classical.em (A % 4 = 0)).symm with a4 | a4
  · rw [show (A % 4 != 0) = true by simpa using a4] at h65 ⊢
    exact bad 17 (by omega) (by omega) h65
  rw [show (A % 4 != 0) = false by simpa using a4] at h65 ⊢
  unfold F51_j83
  simp only [cond_false, Int.toNat_natCast] at h65 ⊢
  rw [e0]
  by_cases s1 : (sl b c).1 = 1
  · rw [show ((sl b c).1 == 1) = true by simpa using s1] at h65 ⊢
    rw [cond_true, j71]
    exact bad 19 (by omega) (by omega) h65
  rw [isZ _ 1 s1] at h65 ⊢
  simp only [cond_false] at h65 ⊢
  obtain ⟨r, hr, E1, M1, rfl, fE, fM, lE1, lM1⟩ := confP n hn b hl c hc l1 l2 A (by omega) (by omega)
  obtain ⟨r2, hr2, st, E2, M2, rfl, hst, gE, gM, lE2, lM2⟩ := confR n hn (sl b c) A (by omega) (by omega) (fun k hk => (hen k hk).1)
  have hr2' : loopF (F88_l2 n (sl b c).2.1 (sl b c).2.2.1 (sl b c).2.2.2 A) n (2, 2, (List.replicate 32 (0 : Int)).set 1 ((sl b c).2.2.1.getD 1 0), (List.replicate 32 (0 : Int)).set 1 ((sl b c).2.2.2.getD 1 0)) = some (st, (sl b c).2.1, E2, M2, 1) := hr2
  rw [hr2'] at h65
  rw [hr]
  refine same_s n b hL K c E A (st, (sl b c).2.1, E2, M2) _ c hc hc0 ⟨lE2, lM2⟩ ⟨lE1, lM1⟩ (fun hb => ⟨slot_conf hsl (by rcases hsl with ⟨hh, _⟩ | ⟨hh, _⟩ <;> omega) hst gE gM, apart_all hb hc0 hc⟩) ?_ _ rfl h65
  rcases hsl with ⟨h, _⟩ | ⟨_, _, r0, r1, r2, _⟩
  · omega
  rw [eqS_iff]
  refine ⟨?_, rfl, fun k hk => ?_, fun k hk => ?_⟩
  · show (if A = 0 then (2 : Int) else 3) = st
    rw [hst]
    by_cases q : A = 0
    · rw [if_pos q, if_neg]
      rintro ⟨k, _, _, h⟩
      unfold bitD at h
      rw [q] at h
      simp at h
    · rw [if_neg q, if_pos]
      by_cases h : ∃ k, 2 ≤ k ∧ k < 32 ∧ bitD A k = true
      · exact h
      · refine absurd (noBits A (by omega) (by omega) a4 fun k h1 h2 => ?_) q
        cases hb : bitD A k
        · rfl
        · exact absurd ⟨k, h1, h2, hb⟩ h
  · show E1.getD k 0 = E2.getD k 0
    rw [fE k hk, gE k hk]
    by_cases q : k < 2
    · rw [if_pos q, if_pos q]
      by_cases q1 : k = 1
      · subst q1; rw [if_pos rfl]
      · obtain rfl : k = 0 := by omega
        rw [if_neg q1, r0]
    · rw [if_neg q, if_neg q]
  · show M1.getD k 0 = M2.getD k 0
    rw [fM k hk, gM k hk]
    by_cases q : k < 2
    · rw [if_pos q, if_pos q]
      by_cases q1 : k = 1
      · subst q1; rw [if_pos rfl]
      · obtain rfl : k = 0 := by omega
        rw [if_neg q1, (r2 0 hk).2.2 r0]
    · rw [if_neg q, if_neg q]
end Go.Proofs.Ytdgdkbpmmemphaa

/- Rings of a host, in plain Lean. -/
namespace Go.Proofs.Ytdgdkbpmmemphaa
open Go Go.RowKit
open Classical
set_option linter.unusedVariables false

abbrev zC : Int × Int × Bool := (0, (0, false))
theorem cset (c : Cells) (i j : Nat) (v : Int × Int × Bool) (hi : i < c.length) : (c.set i v).getD j zC = if i = j then v else c.getD j zC := by
  rw [List.getD_eq_getElem?_getD, List.getElem?_set]
  by_cases h : i = j
  · subst h; simp [hi]
  · simp [h, List.getD_eq_getElem?_getD]
theorem eqC (n : Nat) (a : Cells) (ha : a.length ≤ 1000000000000000) (hn : a.length + 2 < n) : F56 n a a = some true := by
  unfold F56
  simp only [bne_self_eq_false, cond_false]
  refine loopF_eq (F56_l2 n a a) (fun _ => some true) (fun x => ∃ k : Nat, x = (k : Int) ∧ k ≤ a.length) (fun x => a.length - x.toNat) ?_ n 0 ⟨0, rfl, by omega⟩ (by simp; omega)
  rintro kk x ⟨k, rfl, hk⟩ ih
  simp only [F56_l2, Int.toNat_natCast, Sh.beq_self, Bool.not_true, cond_false]
  by_cases hka : k < a.length
  · rw [decide_eq_true (show (k : Int) < (a.length : Int) by omega), inb_true (show (0 : Int) ≤ k by omega) (show (k : Int) < a.length by omega), w64 (n := (k : Int) + 1) (by omega) (by omega)]
    simp only [cond_true]
    exact ih ((k : Int) + 1) ⟨k + 1, by omega, by omega⟩ (by simp only [Int.toNat_natCast]; omega)
  · rw [decide_eq_false (show ¬ (k : Int) < (a.length : Int) by omega)]; rfl
theorem sameR (n : Nat) (a : Cells) (ha : a.length ≤ 1000000000000000) (hn : a.length + 2 < n) (x1 x2 x3 x4 x5 : Int) : F29 n a x1 x2 x3 x4 x5 a x1 x2 x3 x4 x5 = some true := by
  unfold F29
  simp only [Sh.beq_self, BEq.rfl, cond_true]
  rw [eqC n a ha hn]; rfl
theorem cpy (n : Nat) (c : Cells) (hl : c.length ≤ 1000) (a b d e f : Int) : F80 n c a b d e f = some (a, b, d, e, f, c) := by
  unfold F80 F105
  rw [List.nil_append, decide_eq_true (show ([] : Cells).length + c.length ≤ 5864062014805 by simp; omega)]; rfl
/-- a mark, gone on -/
def adv (len : Nat) (a b : Int) : Int × Int := if a + 1 = (len : Int) - 1 then (0, 1 - b) else (a + 1, b)
def putV (c : Cells) (pa pb w : Int) : Cells :=
  if pa + 1 = (c.length : Int) - 1 then (c.set pa.toNat (w, pb, false)).set (c.length - 1) ((c.getD (c.length - 1) zC).1, pb, (c.getD (c.length - 1) zC).2.2) else c.set pa.toNat (w, pb, false)
section
variable {c : Cells} {pa pb ga gb se : Int}
theorem advP (n : Nat) {a b : Int} (hl : 3 ≤ c.length ∧ c.length ≤ 64) (ha : atG c a) (hb : bit01 b) : F79 n a b ((c.length : Nat) : Int) = some (adv c.length a b) := by
  obtain ⟨a0, a1⟩ := ha
  unfold bit01 at hb
  unfold F79 adv
  rw [w64 (n := a + 1) (by omega) (by omega), w64 (n := ((c.length : Nat) : Int) - 1) (by omega) (by omega), w64 (n := 1 - b) (by omega) (by omega)]
  by_cases q : a + 1 = (c.length : Int) - 1
  · rw [show (a + 1 == ((c.length : Nat) : Int) - 1) = true from beq_iff_eq.2 q, if_pos q]; rfl
  · rw [show (a + 1 == ((c.length : Nat) : Int) - 1) = false from beq_eq_false_iff_ne.2 q, if_neg q]; rfl
/-- a word is put -/
noncomputable def putR (c : Cells) (pa pb ga gb se w : Int) : Int × Int × Int × Int × Int × Int × Cells :=
  if (adv c.length pa pb).1 = se then (0, 0, 0, 0, 0, 11, []) else ((adv c.length pa pb).1, (adv c.length pa pb).2, ga, gb, se, 0, putV c pa pb w)
theorem putP (n : Nat) (hn : 100 < n) (h : ringE c pa pb ga gb se = 0) (w : Int) : F48 n c pa pb ga gb se w = some (putR c pa pb ga gb se w) := by
  obtain ⟨hl, hg⟩ := ring0 h
  obtain ⟨hcell, h2, h3, h4, h5, h6, h7⟩ := hg
  have ha := h5
  obtain ⟨a0, a1⟩ := ha
  unfold F48 putR
  rw [g36 n hn, h, advP n hl h5 h2, cpy n c (by omega)]
  simp only [Option.bind_some, bne_self_eq_false, cond_false]
  by_cases q : (adv c.length pa pb).1 = se
  · rw [show ((adv c.length pa pb).1 == se) = true from beq_iff_eq.2 q, if_pos q]; rfl
  · rw [show ((adv c.length pa pb).1 == se) = false from beq_eq_false_iff_ne.2 q, if_neg q]
    have eO : (c.getD pa.toNat (0, (0, false))).2.2 = false := by
      have := (hcell pa.toNat (by omega)).1
      unfold cl at this
      rw [this, decide_eq_false (by omega)]
    have eG : ∀ v, (c.set pa.toNat v).getD pa.toNat (0, (0, false)) = v := fun v => by
      have := cset c pa.toNat pa.toNat v (by omega)
      rwa [if_pos rfl] at this
    have eL : ∀ v, (c.set pa.toNat v).getD (c.length - 1) (0, (0, false)) = c.getD (c.length - 1) zC := fun v => by
      have := cset c pa.toNat (c.length - 1) v (by omega)
      rwa [if_neg (by omega)] at this
    simp only [cond_false, List.length_set, eG, List.set_set, eO, F48_j2]
    rw [inb_true (show (0 : Int) ≤ pa by omega) (show pa < (c.length : Nat) by omega)]
    simp only [cond_true]
    rw [w64 (n := ((c.length : Nat) : Int) - 2) (by omega) (by omega), w64 (n := ((c.length : Nat) : Int) - 1) (by omega) (by omega)]
    unfold putV
    by_cases q2 : pa + 1 = (c.length : Int) - 1
    · rw [show (pa == ((c.length : Nat) : Int) - 2) = true by rw [beq_iff_eq]; omega, inb_true (show (0 : Int) ≤ ((c.length : Nat) : Int) - 1 by omega) (show ((c.length : Nat) : Int) - 1 < (c.length : Nat) by omega), if_pos q2, show (((c.length : Nat) : Int) - 1).toNat = c.length - 1 by omega, eL]
      rfl
    · rw [show (pa == ((c.length : Nat) : Int) - 2) = false by rw [beq_eq_false_iff_ne]; omega, if_neg q2]; rfl
/-- a word is got -/
noncomputable def getR (c : Cells) (pa pb ga gb se : Int) : Int × Int × Int × Int × Int × Int × Bool × Int × Cells :=
  if cb c ga.toNat = gb then (pa, pb, (adv c.length ga gb).1, (adv c.length ga gb).2, se, cw c ga.toNat, true, 0, c) else (pa, pb, ga, gb, se, 0, false, 0, c)
theorem getP (n : Nat) (hn : 100 < n) (h : ringE c pa pb ga gb se = 0) : F49 n c pa pb ga gb se = some (getR c pa pb ga gb se) := by
  obtain ⟨hl, hg⟩ := ring0 h
  obtain ⟨hcell, h2, h3, h4, h5, h6, h7⟩ := hg
  have ha := h6
  obtain ⟨a0, a1⟩ := ha
  unfold F49 getR
  rw [g36 n hn, h, cpy n c (by omega)]
  simp only [Option.bind_some, bne_self_eq_false, cond_false]
  rw [inb_true (show (0 : Int) ≤ ga by omega) (show ga < (c.length : Nat) by omega), advP n hl h6 h3]
  simp only [cond_true, Option.bind_some]
  by_cases q : cb c ga.toNat = gb
  · rw [if_pos q, show ((c.getD ga.toNat (0, (0, false))).2.1 != gb) = false from bne_eq_false_iff_eq.2 q]; rfl
  · rw [if_neg q, show ((c.getD ga.toNat (0, (0, false))).2.1 != gb) = true from bne_iff_ne.2 q]; rfl
theorem learnP (n : Nat) (hn : 100 < n) (h : ringE c pa pb ga gb se = 0) : F52 n c pa pb ga gb se = some (pa, pb, ga, gb, ga, 0, c) := by
  obtain ⟨hl, _⟩ := ring0 h
  unfold F52
  rw [g36 n hn, h, cpy n c (by omega)]; rfl
end
end Go.Proofs.Ytdgdkbpmmemphaa

/- Words and machines of a host, in plain Lean. -/
namespace Go.Proofs.Ytdgdkbpmmemphaa
open Go Go.RowKit
open Classical
set_option linter.unusedVariables false

theorem u64n (x : Nat) (h : x < 18446744073709551616) : IntKind.wrap .u64 (x : Int) = x := by rw [u64w]; omega
theorem uOr (a b : Nat) (ha : a < 18446744073709551616) (hb : b < 18446744073709551616) : bitsI .or .u64 (a : Int) (b : Int) = ((a ||| b : Nat) : Int) := by
  have hx : a ||| b < 2 ^ 64 := Nat.or_lt_two_pow (by omega) (by omega)
  show IntKind.u64.wrap ((BitVec.ofInt 64 (a : Int) ||| BitVec.ofInt 64 (b : Int)).toNat : Int) = _
  rw [BitVec.toNat_or, bv64 a (by omega), bv64 b (by omega), u64n _ (by omega)]
theorem uAnd (a b : Nat) (ha : a < 18446744073709551616) (hb : b < 18446744073709551616) : bitsI .and .u64 (a : Int) (b : Int) = ((a &&& b : Nat) : Int) := by
  have hx : a &&& b < 2 ^ 64 := Nat.and_lt_two_pow _ (by omega)
  show IntKind.u64.wrap ((BitVec.ofInt 64 (a : Int) &&& BitVec.ofInt 64 (b : Int)).toNat : Int) = _
  rw [BitVec.toNat_and, bv64 a (by omega), bv64 b (by omega), u64n _ (by omega)]
theorem uOrAdd (x y i : Nat) (hx : x < 2 ^ i) (h : x + y * 2 ^ i < 18446744073709551616) : bitsI .or .u64 (x : Int) ((y * 2 ^ i : Nat) : Int) = ((x + y * 2 ^ i : Nat) : Int) := by
  rw [uOr x (y * 2 ^ i) (by omega) (by omega), nat_or_add x y i hx]
theorem uMask (x i : Nat) (hx : x < 18446744073709551616) (hi : i ≤ 62) : bitsI .and .u64 (x : Int) ((2 ^ i - 1 : Nat) : Int) = ((x % 2 ^ i : Nat) : Int) := by
  have : (2 : Nat) ^ i ≤ 2 ^ 62 := Nat.pow_le_pow_right (by omega) hi
  rw [uAnd x (2 ^ i - 1) hx (by omega), Nat.and_two_pow_sub_one_eq_mod]
theorem ushl (x j : Nat) (hj : j ≤ 64) (h : x * 2 ^ j < 18446744073709551616) : shlI .u64 (x : Int) (j : Int) = ((x * 2 ^ j : Nat) : Int) := by
  unfold shlI
  rw [Int.toNat_natCast, Nat.min_eq_left (by simpa [IntKind.bits] using hj)]
  have e : (x : Int) * 2 ^ j = ((x * 2 ^ j : Nat) : Int) := by simp
  rw [e, u64n _ h]
theorem ushr (x j : Nat) (hj : j ≤ 64) : shrI .u64 (x : Int) (j : Int) = ((x / 2 ^ j : Nat) : Int) := by
  rw [shr_div .u64 (x : Int) j (by simpa [IntKind.bits] using hj)]
  simp
/-- a command's word -/
def cOk (K S E A : Int) : Prop := (0 ≤ K ∧ K ≤ 15) ∧ (0 ≤ S ∧ S ≤ 15) ∧ (0 ≤ E ∧ E ≤ 31) ∧ (0 ≤ A ∧ A ≤ 4294967295)
noncomputable def packV (K S E A : Int) : Int × Int := if cOk K S E A then (((K * 16 + S) * 32 + E) * 4294967296 + A, 0) else (0, 1)
theorem inP (n : Nat) (v : Int) (b m : Int) (hb : 0 ≤ IntKind.wrap .u64 b) (hm : shlI .i64 1 (IntKind.wrap .u64 b) = m + 1) : F78 n v b = some (decide (0 ≤ v ∧ v ≤ m)) := by
  unfold F78
  rw [decide_eq_true hb, hm]
  by_cases h : 0 ≤ v
  · rw [decide_eq_true (show v ≥ 0 from h)]
    simp only [cond_true, Option.some.injEq]
    exact decide_eq_decide.2 ⟨fun e => ⟨h, by omega⟩, fun e => by omega⟩
  · rw [decide_eq_false (show ¬ v ≥ 0 from h), decide_eq_false (show ¬ (0 ≤ v ∧ v ≤ m) from fun hh => h hh.1)]; rfl
theorem packP (n : Nat) (K S E A : Int) : F47 n K S E A = some (packV K S E A) := by
  have i4 : ∀ v, F78 n v 4 = some (decide (0 ≤ v ∧ v ≤ 15)) := fun v => inP n v 4 15 (by decide) (by decide)
  have i5 : ∀ v, F78 n v 5 = some (decide (0 ≤ v ∧ v ≤ 31)) := fun v => inP n v 5 31 (by decide) (by decide)
  have i32 : ∀ v, F78 n v 32 = some (decide (0 ≤ v ∧ v ≤ 4294967295)) := fun v => inP n v 32 4294967295 (by decide) (by decide)
  have jt : F47_j2 n K S E A true = some (0, 1) := rfl
  unfold F47 packV
  rw [i4, i4, i5, i32]
  simp only [Option.bind_some]
  by_cases h1 : 0 ≤ K ∧ K ≤ 15
  case neg => rw [decide_eq_false h1, if_neg (fun h => h1 h.1)]; exact jt
  by_cases h2 : 0 ≤ S ∧ S ≤ 15
  case neg => rw [decide_eq_true h1, decide_eq_false h2, if_neg (fun h => h2 h.2.1)]; exact jt
  by_cases h3 : 0 ≤ E ∧ E ≤ 31
  case neg => rw [decide_eq_true h1, decide_eq_true h2, decide_eq_false h3, if_neg (fun h => h3 h.2.2.1)]; exact jt
  by_cases h4 : 0 ≤ A ∧ A ≤ 4294967295
  case neg => rw [decide_eq_true h1, decide_eq_true h2, decide_eq_true h3, decide_eq_false h4, if_neg (fun h => h4 h.2.2.2)]; exact jt
  rw [decide_eq_true h1, decide_eq_true h2, decide_eq_true h3, decide_eq_true h4, if_pos ⟨h1, h2, h3, h4⟩]
  simp only [Bool.not_true, cond_false, F47_j2]
  obtain ⟨k, rfl⟩ : ∃ x : Nat, K = (x : Int) := ⟨K.toNat, by omega⟩
  obtain ⟨s, rfl⟩ : ∃ x : Nat, S = (x : Int) := ⟨S.toNat, by omega⟩
  obtain ⟨e, rfl⟩ : ∃ x : Nat, E = (x : Int) := ⟨E.toNat, by omega⟩
  obtain ⟨a, rfl⟩ : ∃ x : Nat, A = (x : Int) := ⟨A.toNat, by omega⟩
  have s32 : shlI .u64 (e : Int) 32 = ((e * 2 ^ 32 : Nat) : Int) := ushl e 32 (by omega) (by omega)
  have s37 : shlI .u64 (s : Int) 37 = ((s * 2 ^ 37 : Nat) : Int) := ushl s 37 (by omega) (by omega)
  have s41 : shlI .u64 (k : Int) 41 = ((k * 2 ^ 41 : Nat) : Int) := ushl k 41 (by omega) (by omega)
  rw [u64n k (by omega), u64n s (by omega), u64n e (by omega), u64n a (by omega), s32, s37, s41, uOrAdd a e 32 (by omega) (by omega), uOrAdd (a + e * 2 ^ 32) s 37 (by omega) (by omega), uOrAdd (a + e * 2 ^ 32 + s * 2 ^ 37) k 41 (by omega) (by omega)]
  have : ((a + e * 2 ^ 32 + s * 2 ^ 37 + k * 2 ^ 41 : Nat) : Int) = (((k : Int) * 16 + (s : Int)) * 32 + (e : Int)) * 4294967296 + (a : Int) := by omega
  rw [this]
theorem wordR (n : Nat) (hn : 100 < n) (K S E A : Int) : F24 n K S E A = some (packV K S E A) := by
  have t32 : F54 n 32 = some 4294967296 := two n hn 32 (by omega)
  have jt : F24_j2 n K S E A true = some (0, 1) := rfl
  unfold F24 packV
  rw [b16, b16, b16, t32]
  simp only [Option.bind_some]
  rw [b16]
  simp only [Option.bind_some]
  rw [show IntKind.wrap .i64 (4294967296 - 1) = 4294967295 by decide]
  by_cases h1 : 0 ≤ K ∧ K ≤ 15
  case neg => rw [decide_eq_false h1, if_neg (fun h => h1 h.1)]; exact jt
  by_cases h2 : 0 ≤ S ∧ S ≤ 15
  case neg => rw [decide_eq_true h1, decide_eq_false h2, if_neg (fun h => h2 h.2.1)]; exact jt
  by_cases h3 : 0 ≤ E ∧ E ≤ 31
  case neg => rw [decide_eq_true h1, decide_eq_true h2, decide_eq_false h3, if_neg (fun h => h3 h.2.2.1)]; exact jt
  by_cases h4 : 0 ≤ A ∧ A ≤ 4294967295
  case neg => rw [decide_eq_true h1, decide_eq_true h2, decide_eq_true h3, decide_eq_false h4, if_neg (fun h => h4 h.2.2.2)]; exact jt
  rw [decide_eq_true h1, decide_eq_true h2, decide_eq_true h3, decide_eq_true h4, if_pos ⟨h1, h2, h3, h4⟩]
  simp only [Bool.not_true, cond_false, F24_j2, t32, Option.bind_some]
  rw [w64 (n := K * 16) (by omega) (by omega), w64 (n := K * 16 + S) (by omega) (by omega), w64 (n := (K * 16 + S) * 32) (by omega) (by omega), w64 (n := (K * 16 + S) * 32 + E) (by omega) (by omega), w64 (n := ((K * 16 + S) * 32 + E) * 4294967296) (by omega) (by omega), w64 (n := ((K * 16 + S) * 32 + E) * 4294967296 + A) (by omega) (by omega), u64w]
  have : (((K * 16 + S) * 32 + E) * 4294967296 + A) % 18446744073709551616 = ((K * 16 + S) * 32 + E) * 4294967296 + A := by omega
  rw [this]
theorem pack_lt {K S E A : Int} (h : (packV K S E A).2 = 0) : 0 ≤ (packV K S E A).1 ∧ (packV K S E A).1 < 35184372088832 := by
  unfold packV at *
  split
  · rename_i hc
    obtain ⟨h1, h2, h3, h4⟩ := hc
    simp only; omega
  · rename_i hc
    rw [if_neg hc] at h
    simp at h
/-- a word's command -/
def unwV (w : Int) : Int × Int × Int × Int × Int := if w ≥ 35184372088832 then (0, 0, 0, 0, 4) else (w / 2199023255552, w / 137438953472 % 16, w / 4294967296 % 32, w % 4294967296, 0)
theorem unP (n : Nat) (w : Int) (h : 0 ≤ w ∧ w < 18446744073709551616) : F50 n w = some (unwV w) := by
  obtain ⟨x, rfl⟩ : ∃ x : Nat, w = (x : Int) := ⟨w.toNat, by omega⟩
  have a45 : shrI .u64 (x : Int) 45 = ((x / 2 ^ 45 : Nat) : Int) := ushr x 45 (by omega)
  have a41 : shrI .u64 (x : Int) 41 = ((x / 2 ^ 41 : Nat) : Int) := ushr x 41 (by omega)
  have a37 : shrI .u64 (x : Int) 37 = ((x / 2 ^ 37 : Nat) : Int) := ushr x 37 (by omega)
  have a32 : shrI .u64 (x : Int) 32 = ((x / 2 ^ 32 : Nat) : Int) := ushr x 32 (by omega)
  have m15 : bitsI .and .u64 ((x / 2 ^ 37 : Nat) : Int) 15 = ((x / 2 ^ 37 % 2 ^ 4 : Nat) : Int) := uMask (x / 2 ^ 37) 4 (by omega) (by omega)
  have m31 : bitsI .and .u64 ((x / 2 ^ 32 : Nat) : Int) 31 = ((x / 2 ^ 32 % 2 ^ 5 : Nat) : Int) := uMask (x / 2 ^ 32) 5 (by omega) (by omega)
  have mlo : bitsI .and .u64 (x : Int) 4294967295 = ((x % 2 ^ 32 : Nat) : Int) := uMask x 32 (by omega) (by omega)
  unfold F50 unwV
  rw [a45, a41, a37, a32, m15, m31, mlo]
  by_cases q : (x : Int) ≥ 35184372088832
  · rw [show (((x / 2 ^ 45 : Nat) : Int) != 0) = true by rw [bne_iff_ne]; omega, if_pos q]; rfl
  · rw [show (((x / 2 ^ 45 : Nat) : Int) != 0) = false by rw [bne_eq_false_iff_eq]; omega, if_neg q, w64n _ (by omega), w64n _ (by omega), w64n _ (by omega), w64n _ (by omega)]
    have e1 : ((x / 2 ^ 41 : Nat) : Int) = (x : Int) / 2199023255552 := by omega
    have e2 : ((x / 2 ^ 37 % 2 ^ 4 : Nat) : Int) = (x : Int) / 137438953472 % 16 := by omega
    have e3 : ((x / 2 ^ 32 % 2 ^ 5 : Nat) : Int) = (x : Int) / 4294967296 % 32 := by omega
    have e4 : ((x % 2 ^ 32 : Nat) : Int) = (x : Int) % 4294967296 := by omega
    rw [e1, e2, e3, e4]; rfl
/-- words of 64 bits -/
def wOK (c : Cells) : Prop := ∀ i, i < c.length → 0 ≤ cw c i ∧ cw c i < 18446744073709551616
def below (c : Cells) (m : Int) : Prop := ∀ i, i < c.length → cw c i < m
noncomputable def machV (c : Cells) (pa pb ga gb se : Int) (e : Cells) (qa qb ra rb te : Int) (b : Slots) : Bool :=
  decide (ringE c pa pb ga gb se = 0 ∧ ringE e qa qb ra rb te = 0 ∧ boardE b = 0 ∧ below c 35184372088832 ∧ below e 16777216)
section
variable {c e : Cells} {pa pb ga gb se qa qb ra rb te : Int} {b : Slots}
theorem evtsP (n : Nat) (hn : 100 < n) (hl : e.length ≤ 64) : loopF (F46_l10 n e) n 0 = some (decide (below e 16777216)) := by
  refine loopF_eq (F46_l10 n e) (fun _ => some (decide (below e 16777216))) (fun x => ∃ k : Nat, x = (k : Int) ∧ k ≤ e.length ∧ ∀ j, j < k → cw e j < 16777216) (fun x => e.length - x.toNat) ?_ n 0 ⟨0, rfl, by omega, fun j h => by omega⟩ (by simp; omega)
  rintro kk x ⟨k, rfl, hk, hall⟩ ih
  simp only [F46_l10, Int.toNat_natCast]
  by_cases hka : k < e.length
  · rw [decide_eq_true (show (k : Int) < ((e.length : Nat) : Int) by omega), inb_true (show (0 : Int) ≤ k by omega) (show (k : Int) < (e.length : Nat) by omega), w64 (n := (k : Int) + 1) (by omega) (by omega)]
    simp only [cond_true]
    by_cases q : cw e k < 16777216
    · rw [decide_eq_false (show ¬ (e.getD k (0, (0, false))).1 ≥ 16777216 from fun h => by unfold cw at q; omega)]
      exact ih _ ⟨k + 1, by omega, by omega, fun j hj => by
        rcases Nat.lt_succ_iff_lt_or_eq.1 hj with h | h
        · exact hall j h
        · subst h; exact q⟩ (by omega)
    · rw [decide_eq_true (show (e.getD k (0, (0, false))).1 ≥ 16777216 from by unfold cw at q; omega), decide_eq_false (fun h => q (h k hka))]; rfl
  · obtain rfl : k = e.length := by omega
    rw [decide_eq_false (by omega), decide_eq_true (show below e 16777216 from hall)]; rfl
theorem unwE (w : Int) : ((unwV w).2.2.2.2 != 0) = decide (¬ w < 35184372088832) := by
  unfold unwV
  by_cases q : w ≥ 35184372088832
  · rw [if_pos q, decide_eq_true (by omega)]; rfl
  · rw [if_neg q, decide_eq_false (by omega)]; rfl
theorem cmdsP (n : Nat) (hn : 100 < n) (hl : c.length ≤ 64) (hw : wOK c) (hl2 : e.length ≤ 64) : loopF (F46_l9 n c e) n 0 = some (decide (below c 35184372088832 ∧ below e 16777216)) := by
  refine loopF_eq (F46_l9 n c e) (fun _ => some (decide (below c 35184372088832 ∧ below e 16777216))) (fun x => ∃ k : Nat, x = (k : Int) ∧ k ≤ c.length ∧ ∀ j, j < k → cw c j < 35184372088832) (fun x => c.length - x.toNat) ?_ n 0 ⟨0, rfl, by omega, fun j h => by omega⟩ (by simp; omega)
  rintro kk x ⟨k, rfl, hk, hall⟩ ih
  simp only [F46_l9, Int.toNat_natCast]
  by_cases hka : k < c.length
  · have hu : F50 n ((c.getD k (0, (0, false))).1) = some (unwV (cw c k)) := unP n _ (hw k hka)
    rw [decide_eq_true (show (k : Int) < ((c.length : Nat) : Int) by omega), inb_true (show (0 : Int) ≤ k by omega) (show (k : Int) < (c.length : Nat) by omega), w64 (n := (k : Int) + 1) (by omega) (by omega), hu]
    simp only [cond_true, Option.bind_some, unwE]
    by_cases q : cw c k < 35184372088832
    · rw [decide_eq_false (fun h => h q)]
      exact ih _ ⟨k + 1, by omega, by omega, fun j hj => by
        rcases Nat.lt_succ_iff_lt_or_eq.1 hj with h | h
        · exact hall j h
        · subst h; exact q⟩ (by omega)
    · rw [decide_eq_true q, decide_eq_false (fun h => q (h.1 k hka))]; rfl
  · obtain rfl : k = c.length := by omega
    rw [decide_eq_false (by omega), cond_false, evtsP n hn hl2]
    congr 1
    exact decide_eq_decide.2 ⟨fun h => ⟨hall, h⟩, fun h => h.2⟩
theorem validP (n : Nat) (hn : 300 < n) (hw : wOK c) : F46 n c pa pb ga gb se e qa qb ra rb te b = some (machV c pa pb ga gb se e qa qb ra rb te b) := by
  have jt : F46_j6 n c e true = some false := rfl
  unfold F46 machV
  rw [g36 n (by omega), g36 n (by omega), b66 n (by omega)]
  simp only [Option.bind_some]
  by_cases h1 : ringE c pa pb ga gb se = 0
  case neg => rw [show (ringE c pa pb ga gb se != 0) = true from bne_iff_ne.2 h1, decide_eq_false (fun h => h1 h.1)]; exact jt
  rw [show (ringE c pa pb ga gb se != 0) = false from bne_eq_false_iff_eq.2 h1]
  by_cases h2 : ringE e qa qb ra rb te = 0
  case neg => rw [show (ringE e qa qb ra rb te != 0) = true from bne_iff_ne.2 h2, decide_eq_false (fun h => h2 h.2.1)]; exact jt
  rw [show (ringE e qa qb ra rb te != 0) = false from bne_eq_false_iff_eq.2 h2]
  by_cases h3 : boardE b = 0
  case neg => rw [show (boardE b != 0) = true from bne_iff_ne.2 h3, decide_eq_false (fun h => h3 h.2.2.1)]; exact jt
  rw [show (boardE b != 0) = false from bne_eq_false_iff_eq.2 h3]
  simp only [cond_false, F46_j6]
  rw [cmdsP n (by omega) (ring0 h1).1.2 hw (ring0 h2).1.2]
  congr 1
  exact decide_eq_decide.2 ⟨fun h => ⟨h1, h2, h3, h⟩, fun h => h.2.2.2⟩
theorem copyM (n : Nat) (hc : c.length ≤ 5864062014805) (he : e.length ≤ 5864062014805) : F45 n c pa pb ga gb se e qa qb ra rb te b = some (pa, pb, ga, gb, se, qa, qb, ra, rb, te, b, c, e) := by
  unfold F45
  rw [decide_eq_true hc, decide_eq_true he]; rfl
end
end Go.Proofs.Ytdgdkbpmmemphaa

/- The law HostSteps, in plain Lean. -/
namespace Go.Proofs.Ytdgdkbpmmemphaa
open Go Go.RowKit
open Classical
set_option linter.unusedVariables false

section
variable {c e : Cells} {pa pb ga gb se qa qb ra rb te : Int} {b : Slots}
theorem sameM (n : Nat) (hc : c.length ≤ 1000000000000000) (he : e.length ≤ 1000000000000000) (hn : c.length + e.length + 4 < n) : F12 n c pa pb ga gb se e qa qb ra rb te b c pa pb ga gb se e qa qb ra rb te b = some true := by
  unfold F12
  rw [sameR n c hc (by omega), sameR n e he (by omega)]
  simp only [Option.bind_some, cond_true, Sh.beq_self]
theorem evWord {code slot g : Int} (hc : 0 ≤ code ∧ code ≤ 255) (hs : 0 ≤ slot ∧ slot ≤ 8) (hg : 0 ≤ g ∧ g ≤ 63) :
    bitsI .or .u64 (bitsI .or .u64 (IntKind.wrap .u64 code) (shlI .u64 (IntKind.wrap .u64 slot) 8)) (shlI .u64 (IntKind.wrap .u64 g) 16) = code + 256 * slot + 65536 * g ∧
    IntKind.wrap .u64 (IntKind.wrap .i64 (IntKind.wrap .i64 (code + IntKind.wrap .i64 (256 * slot)) + IntKind.wrap .i64 (65536 * g))) = code + 256 * slot + 65536 * g := by
  obtain ⟨x, rfl⟩ : ∃ x : Nat, code = (x : Int) := ⟨code.toNat, by omega⟩
  obtain ⟨y, rfl⟩ : ∃ x : Nat, slot = (x : Int) := ⟨slot.toNat, by omega⟩
  obtain ⟨z, rfl⟩ : ∃ x : Nat, g = (x : Int) := ⟨g.toNat, by omega⟩
  constructor
  · have s8 : shlI .u64 (y : Int) 8 = ((y * 2 ^ 8 : Nat) : Int) := ushl y 8 (by omega) (by omega)
    have s16 : shlI .u64 (z : Int) 16 = ((z * 2 ^ 16 : Nat) : Int) := ushl z 16 (by omega) (by omega)
    rw [u64n x (by omega), u64n y (by omega), u64n z (by omega), s8, s16, uOrAdd x y 8 (by omega) (by omega), uOrAdd (x + y * 2 ^ 8) z 16 (by omega) (by omega)]
    omega
  · rw [w64 (n := 256 * (y : Int)) (by omega) (by omega), w64 (n := 65536 * (z : Int)) (by omega) (by omega), w64 (n := (x : Int) + 256 * (y : Int)) (by omega) (by omega), w64 (by omega) (by omega), u64w]
    omega
theorem mkMach (h1 : ringE c pa pb ga gb se = 0) (h2 : ringE e qa qb ra rb te = 0) (h3 : boardE b = 0) (h4 : below c 35184372088832) (h5 : below e 16777216) : machV c pa pb ga gb se e qa qb ra rb te b = true := decide_eq_true ⟨h1, h2, h3, h4, h5⟩
end

end Go.Proofs.Ytdgdkbpmmemphaa
