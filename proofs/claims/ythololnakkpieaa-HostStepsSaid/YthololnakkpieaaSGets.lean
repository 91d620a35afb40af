/- The law RingGets, in plain Lean. -/
import Derived.Test.YthololnakkpieaaFhs
import Derived.Test.YthololnakkpieaaAm26
namespace Go.Proofs.Ythololnakkpieaa
open Go Go.RowKit
open Classical
set_option linter.unusedVariables false

abbrev Cells := List (Int × Int × Bool)
def cw (c : Cells) (i : Nat) : Int := (c.getD i (0, (0, false))).1
def cb (c : Cells) (i : Nat) : Int := (c.getD i (0, (0, false))).2.1
def cl (c : Cells) (i : Nat) : Bool := (c.getD i (0, (0, false))).2.2
def bit01 (x : Int) : Prop := x = 0 ∨ x = 1
def cellG (c : Cells) (i : Nat) : Prop := cl c i = decide (i + 1 = c.length) ∧ bit01 (cb c i)
def atG (c : Cells) (k : Int) : Prop := 0 ≤ k ∧ k < (c.length : Int) - 1
def goodR (c : Cells) (pa pb ga gb se : Int) : Prop := (∀ i, i < c.length → cellG c i) ∧ bit01 pb ∧ bit01 gb ∧ cw c (c.length - 1) = 0 ∧ atG c pa ∧ atG c ga ∧ atG c se
noncomputable def ringE (c : Cells) (pa pb ga gb se : Int) : Int := if ¬ (3 ≤ c.length ∧ c.length ≤ 64) then 1 else if goodR c pa pb ga gb se then 0 else 4
theorem g78 (n : Nat) (b : Int) : F90 n b = some (decide (bit01 b)) := by
  unfold F90
  by_cases h : b = 0
  · rw [show (b == 0) = true by simpa using h, decide_eq_true (show bit01 b from .inl h)]; rfl
  · rw [show (b == 0) = false by simpa using h]
    by_cases h1 : b = 1
    · rw [show (b == 1) = true by simpa using h1, decide_eq_true (show bit01 b from .inr h1)]; rfl
    · rw [show (b == 1) = false by simpa using h1, decide_eq_false (show ¬ bit01 b from fun hh => hh.elim h h1)]; rfl
theorem g79 (n : Nat) (c : Cells) (k : Int) (h : 3 ≤ c.length) (h2 : c.length ≤ 64) : F91 n k ((c.length : Nat) : Int) = some (decide (atG c k)) := by
  unfold F91
  rw [w64 (by omega) (by omega)]
  by_cases h1 : 0 ≤ k
  · rw [decide_eq_true (show k ≥ 0 from h1)]
    simp only [cond_true, Option.some.injEq]
    rw [Bool.eq_iff_iff, decide_eq_true_iff, decide_eq_true_iff]
    exact ⟨fun e => ⟨h1, e⟩, fun e => e.2⟩
  · rw [decide_eq_false (show ¬ k ≥ 0 from h1), decide_eq_false (show ¬ atG c k from fun hh => h1 hh.1)]; rfl
theorem g19 (n : Nat) (v lo hi : Int) : F35 n v lo hi = some (decide (lo ≤ v ∧ v ≤ hi)) := by
  unfold F35
  by_cases h : lo ≤ v
  · rw [decide_eq_true h]
    simp only [cond_true, Option.some.injEq]
    rw [Bool.eq_iff_iff, decide_eq_true_iff, decide_eq_true_iff]
    exact ⟨fun e => ⟨h, e⟩, fun e => e.2⟩
  · rw [decide_eq_false h, decide_eq_false (show ¬ (lo ≤ v ∧ v ≤ hi) from fun hh => h hh.1)]; rfl
section
variable {c : Cells} {pa pb ga gb se : Int}
theorem g36 (n : Nat) (hn : 100 < n) : F64 n c pa pb ga gb se = some (ringE c pa pb ga gb se) := by
  unfold F64 ringE
  by_cases h3 : c.length < 3
  · rw [decide_eq_true (show ((c.length : Nat) : Int) < 3 by omega), if_pos (by omega)]; rfl
  rw [decide_eq_false (show ¬ ((c.length : Nat) : Int) < 3 by omega)]
  by_cases h64 : 64 < c.length
  · rw [decide_eq_true (show ((c.length : Nat) : Int) > 64 by omega), if_pos (by omega)]; rfl
  rw [decide_eq_false (show ¬ ((c.length : Nat) : Int) > 64 by omega), if_neg (by omega)]
  simp only [cond_false]
  refine loopF_eq (F64_l2 n c pa pb ga gb se) (fun _ => some (if goodR c pa pb ga gb se then 0 else 4)) (fun x => ∃ k : Nat, x = (k : Int) ∧ k ≤ c.length ∧ ∀ i, i < k → cellG c i) (fun x => c.length - x.toNat) ?_ n 0 ⟨0, rfl, by omega, fun j hj => by omega⟩ (by simp; omega)
  rintro kk x ⟨k, rfl, hk, hall⟩ ih
  have no : ¬ goodR c pa pb ga gb se → some (4 : Int) = some (if goodR c pa pb ga gb se then 0 else 4) := fun h => by rw [if_neg h]
  simp only [F64_l2, Int.toNat_natCast, g78, g79 n c _ (by omega) (by omega), Option.bind_some]
  by_cases hka : k < c.length
  · rw [decide_eq_true (show (k : Int) < (c.length : Int) by omega), inb_true (show (0 : Int) ≤ k by omega) (show (k : Int) < c.length by omega), w64 (n := ((c.length : Nat) : Int) - 1) (by omega) (by omega), w64 (n := (k : Int) + 1) (by omega) (by omega)]
    simp only [cond_true]
    show (bif !(cl c k == ((k : Int) == ((c.length : Nat) : Int) - 1)) then some 4 else bif !decide (bit01 (cb c k)) then some 4 else kk ((k : Int) + 1)) = _
    have e : ((k : Int) == ((c.length : Nat) : Int) - 1) = decide (k + 1 = c.length) := by
      rw [Bool.eq_iff_iff, beq_iff_eq, decide_eq_true_iff]; omega
    rw [e]
    by_cases g1 : cl c k = decide (k + 1 = c.length)
    · rw [show (cl c k == decide (k + 1 = c.length)) = true by simpa using g1]
      by_cases g2 : bit01 (cb c k)
      · rw [decide_eq_true g2]
        simp only [Bool.not_true, cond_false]
        exact ih _ ⟨k + 1, by omega, by omega, fun j hj => by
          rcases Nat.lt_succ_iff_lt_or_eq.1 hj with h | h
          · exact hall j h
          · subst h; exact ⟨g1, g2⟩⟩ (by simp only [Int.toNat_natCast]; omega)
      · rw [decide_eq_false g2]; exact no (fun h => g2 (h.1 k hka).2)
    · rw [show (cl c k == decide (k + 1 = c.length)) = false by simpa using g1]; exact no (fun h => g1 (h.1 k hka).1)
  · rw [decide_eq_false (show ¬ (k : Int) < (c.length : Int) by omega), w64 (n := ((c.length : Nat) : Int) - 1) (by omega) (by omega), inb_true (show (0 : Int) ≤ ((c.length : Nat) : Int) - 1 by omega) (show ((c.length : Nat) : Int) - 1 < c.length by omega)]
    simp only [cond_false, cond_true]
    rw [show (((c.length : Nat) : Int) - 1).toNat = c.length - 1 by omega]
    show (bif !decide (bit01 pb) then some 4 else bif !decide (bit01 gb) then some 4 else bif cw c (c.length - 1) != 0 then some 4 else bif !decide (atG c pa) then some 4 else bif !decide (atG c ga) then some 4 else bif !decide (atG c se) then some 4 else some 0) = _
    by_cases q1 : bit01 pb
    · rw [decide_eq_true q1]
      by_cases q2 : bit01 gb
      · rw [decide_eq_true q2]
        by_cases q3 : cw c (c.length - 1) = 0
        · rw [q3]
          by_cases q4 : atG c pa
          · rw [decide_eq_true q4]
            by_cases q5 : atG c ga
            · rw [decide_eq_true q5]
              by_cases q6 : atG c se
              · rw [decide_eq_true q6, if_pos ⟨fun i hi => hall i (by omega), q1, q2, q3, q4, q5, q6⟩]; rfl
              · rw [decide_eq_false q6]; exact no (fun h => q6 h.2.2.2.2.2.2)
            · rw [decide_eq_false q5]; exact no (fun h => q5 h.2.2.2.2.2.1)
          · rw [decide_eq_false q4]; exact no (fun h => q4 h.2.2.2.2.1)
        · rw [show (cw c (c.length - 1) != 0) = true by simpa using q3]; exact no (fun h => q3 h.2.2.2.1)
      · rw [decide_eq_false q2]; exact no (fun h => q2 h.2.2.1)
    · rw [decide_eq_false q1]; exact no (fun h => q1 h.2.1)
def cellR (c : Cells) (i : Nat) : Prop := bit01 (cb c i) ∧ cl c i = decide (i + 1 = c.length) ∧ (i + 1 < c.length ∨ cw c i = 0)
theorem good_iff (h3 : 3 ≤ c.length) : goodR c pa pb ga gb se ↔ ((bit01 pb ∧ bit01 gb ∧ atG c pa ∧ atG c ga ∧ atG c se) ∧ ∀ i, i < c.length → cellR c i) := by
  constructor
  · rintro ⟨a1, a2, a3, a4, a5, a6, a7⟩
    refine ⟨⟨a2, a3, a5, a6, a7⟩, fun i hi => ⟨(a1 i hi).2, (a1 i hi).1, ?_⟩⟩
    by_cases h : i + 1 < c.length
    · exact .inl h
    · right; rw [show i = c.length - 1 by omega]; exact a4
  · rintro ⟨⟨a2, a3, a5, a6, a7⟩, a1⟩
    refine ⟨fun i hi => ⟨(a1 i hi).2.1, (a1 i hi).1⟩, a2, a3, ?_, a5, a6, a7⟩
    have := (a1 (c.length - 1) (by omega)).2.2
    rcases this with h | h
    · omega
    · exact h
theorem g37b (n : Nat) (hn : 100 < n) (h3 : 3 ≤ c.length) (h64 : c.length ≤ 64) (fine : Bool) (hf : fine = true ↔ (bit01 pb ∧ bit01 gb ∧ atG c pa ∧ atG c ga ∧ atG c se)) : F69_j3 n c fine = some (if goodR c pa pb ga gb se then 0 else 4) := by
  unfold F69_j3
  refine loopF_eq (F69_l4 n c) (fun _ => some (if goodR c pa pb ga gb se then 0 else 4)) (fun d => ∃ k : Nat, d.2 = (k : Int) ∧ k ≤ c.length ∧ (d.1 = true ↔ (fine = true ∧ ∀ i, i < k → cellR c i))) (fun d => c.length - d.2.toNat) ?_ n (fine, 0) ⟨0, rfl, by omega, ⟨fun h => ⟨h, fun i hi => by omega⟩, fun h => h.1⟩⟩ (by simp; omega)
  rintro kk ⟨fi, x⟩ ⟨k, rfl, hk, hfi⟩ ih
  simp only at hfi
  simp only [F69_l4, Int.toNat_natCast, g19, Option.bind_some]
  by_cases hka : k < c.length
  · rw [decide_eq_true (show (k : Int) < (c.length : Int) by omega), inb_true (show (0 : Int) ≤ k by omega) (show (k : Int) < c.length by omega), w64 (n := (k : Int) + 1) (by omega) (by omega)]
    simp only [cond_true]
    show (bif fi then bif decide (0 ≤ cb c k ∧ cb c k ≤ 1) then bif cl c k == ((k : Int) + 1 == ((c.length : Nat) : Int)) then bif decide ((k : Int) + 1 < ((c.length : Nat) : Int)) then kk (true, (k : Int) + 1) else kk (cw c k == 0, (k : Int) + 1) else kk (false, (k : Int) + 1) else kk (false, (k : Int) + 1) else kk (false, (k : Int) + 1)) = _
    have e : ((k : Int) + 1 == ((c.length : Nat) : Int)) = decide (k + 1 = c.length) := by
      rw [Bool.eq_iff_iff, beq_iff_eq, decide_eq_true_iff]; omega
    have eb : decide (0 ≤ cb c k ∧ cb c k ≤ 1) = decide (bit01 (cb c k)) := by
      rw [Bool.eq_iff_iff, decide_eq_true_iff, decide_eq_true_iff]; unfold bit01; omega
    have go : ∀ b : Bool, (b = true ↔ (fi = true ∧ cellR c k)) → kk (b, (k : Int) + 1) = some (if goodR c pa pb ga gb se then 0 else 4) := fun b hb => ih _ ⟨k + 1, by simp, by omega, by
      rw [hb, hfi]
      constructor
      · rintro ⟨⟨h1, h2⟩, h4⟩
        exact ⟨h1, fun i hi => by
          rcases Nat.lt_succ_iff_lt_or_eq.1 hi with h | h
          · exact h2 i h
          · subst h; exact h4⟩
      · rintro ⟨h1, h2⟩
        exact ⟨⟨h1, fun i hi => h2 i (by omega)⟩, h2 k (by omega)⟩⟩ (by simp only [Int.toNat_natCast]; omega)
    rw [e, eb]
    cases fi
    · exact go false ⟨fun h => (by cases h), fun h => (by cases h.1)⟩
    simp only [cond_true]
    by_cases g2 : bit01 (cb c k)
    · rw [decide_eq_true g2]
      by_cases g1 : cl c k = decide (k + 1 = c.length)
      · rw [show (cl c k == decide (k + 1 = c.length)) = true by simpa using g1]
        by_cases g4 : k + 1 < c.length
        · rw [decide_eq_true (show (k : Int) + 1 < ((c.length : Nat) : Int) by omega)]
          exact go true ⟨fun _ => ⟨rfl, g2, g1, .inl g4⟩, fun _ => rfl⟩
        · rw [decide_eq_false (show ¬ (k : Int) + 1 < ((c.length : Nat) : Int) by omega)]
          exact go _ ⟨fun h => ⟨rfl, g2, g1, .inr (by simpa using h)⟩, fun h => by
            rcases h.2.2.2 with h | h
            · exact absurd h g4
            · simpa using h⟩
      · rw [show (cl c k == decide (k + 1 = c.length)) = false by simpa using g1]
        exact go false ⟨fun h => (by cases h), fun h => absurd h.2.2.1 g1⟩
    · rw [decide_eq_false g2]
      exact go false ⟨fun h => (by cases h), fun h => absurd h.2.1 g2⟩
  · rw [decide_eq_false (show ¬ (k : Int) < (c.length : Int) by omega)]
    simp only [cond_false]
    obtain rfl : k = c.length := by omega
    have hg : fi = true ↔ goodR c pa pb ga gb se := by rw [hfi, good_iff h3, hf]
    cases fi
    · rw [if_neg (fun h => by have := hg.2 h; cases this)]; rfl
    · rw [if_pos (hg.1 rfl)]; rfl
theorem g37 (n : Nat) (hn : 100 < n) : F69 n c pa pb ga gb se = some (ringE c pa pb ga gb se) := by
  unfold F69 ringE
  rw [g19]
  simp only [Option.bind_some]
  by_cases h : 3 ≤ c.length ∧ c.length ≤ 64
  · have hat : ∀ k : Int, decide (0 ≤ k ∧ k ≤ IntKind.wrap .i64 (((c.length : Nat) : Int) - 2)) = decide (atG c k) := by
      intro k
      rw [w64 (by omega) (by omega), Bool.eq_iff_iff, decide_eq_true_iff, decide_eq_true_iff]; unfold atG; omega
    have hbt : ∀ k : Int, decide (0 ≤ k ∧ k ≤ 1) = decide (bit01 k) := by
      intro k
      rw [Bool.eq_iff_iff, decide_eq_true_iff, decide_eq_true_iff]; unfold bit01; omega
    have fin := fun fine hf => g37b (c := c) (pa := pa) (pb := pb) (ga := ga) (gb := gb) (se := se) n hn h.1 h.2 fine hf
    rw [decide_eq_true (show (3 : Int) ≤ (c.length : Nat) ∧ ((c.length : Nat) : Int) ≤ 64 by omega), if_neg (fun hh => hh h)]
    simp only [Bool.not_true, cond_false, g19, Option.bind_some, hat, hbt]
    by_cases q1 : bit01 pb
    · rw [decide_eq_true q1]
      by_cases q2 : bit01 gb
      · rw [decide_eq_true q2]
        by_cases q4 : atG c pa
        · rw [decide_eq_true q4]
          by_cases q5 : atG c ga
          · rw [decide_eq_true q5]
            exact fin _ ⟨fun hh => ⟨q1, q2, q4, q5, by simpa using hh⟩, fun hh => by simpa using hh.2.2.2.2⟩
          · rw [decide_eq_false q5]; exact fin false ⟨fun hh => (by cases hh), fun hh => absurd hh.2.2.2.1 q5⟩
        · rw [decide_eq_false q4]; exact fin false ⟨fun hh => (by cases hh), fun hh => absurd hh.2.2.1 q4⟩
      · rw [decide_eq_false q2]; exact fin false ⟨fun hh => (by cases hh), fun hh => absurd hh.2.1 q2⟩
    · rw [decide_eq_false q1]; exact fin false ⟨fun hh => (by cases hh), fun hh => absurd hh.1 q1⟩
  · rw [decide_eq_false (show ¬ ((3 : Int) ≤ (c.length : Nat) ∧ ((c.length : Nat) : Int) ≤ 64) by omega), if_pos h]; rfl
theorem g80 (n : Nat) (a : Cells) (ha : a.length ≤ 1000) (hn : 1001 < n) : F73 n a a = some true := by
  unfold F73
  simp only [bne_self_eq_false, cond_false]
  refine loopF_eq (F73_l2 n a a) (fun _ => some true) (fun x => ∃ k : Nat, x = (k : Int) ∧ k ≤ a.length) (fun x => a.length - x.toNat) ?_ n 0 ⟨0, rfl, by omega⟩ (by simp; omega)
  rintro kk x ⟨k, rfl, hk⟩ ih
  simp only [F73_l2, Int.toNat_natCast, Sh.beq_self, Bool.not_true, cond_false]
  by_cases hka : k < a.length
  · rw [decide_eq_true (show (k : Int) < (a.length : Int) by omega), inb_true (show (0 : Int) ≤ k by omega) (show (k : Int) < a.length by omega), w64 (n := (k : Int) + 1) (by omega) (by omega)]
    simp only [cond_true]
    exact ih ((k : Int) + 1) ⟨k + 1, by omega, by omega⟩ (by simp only [Int.toNat_natCast]; omega)
  · rw [decide_eq_false (show ¬ (k : Int) < (a.length : Int) by omega)]; rfl
theorem g38 (n : Nat) (a : Cells) (ha : a.length ≤ 1000) (hn : 1001 < n) (x1 x2 x3 x4 x5 : Int) : F46 n a x1 x2 x3 x4 x5 a x1 x2 x3 x4 x5 = some true := by
  unfold F46
  simp only [Sh.beq_self, BEq.rfl, cond_true]
  rw [g80 n a ha hn]; rfl
theorem ring0 (h : ringE c pa pb ga gb se = 0) : (3 ≤ c.length ∧ c.length ≤ 64) ∧ goodR c pa pb ga gb se := by
  unfold ringE at h
  by_cases h1 : 3 ≤ c.length ∧ c.length ≤ 64
  · rw [if_neg (fun hh => hh h1)] at h
    by_cases h2 : goodR c pa pb ga gb se
    · exact ⟨h1, h2⟩
    · rw [if_neg h2] at h; omega
  · rw [if_pos h1] at h; omega
end
end Go.Proofs.Ythololnakkpieaa
