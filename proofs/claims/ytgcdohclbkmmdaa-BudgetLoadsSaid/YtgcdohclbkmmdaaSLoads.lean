/- The law BudgetLoads, in plain Lean. -/
import Derived.Test.YtgcdohclbkmmdaaFb
import Derived.Test.YtgcdohclbkmmdaaAm26
namespace Go.Proofs.Ytgcdohclbkmmdaa
open Go Go.RowKit
open Classical
set_option linter.unusedVariables false

def perOk (p : Int) : Prop := p = 1 ∨ p = 2 ∨ p = 4 ∨ p = 8 ∨ p = 16 ∨ p = 32
theorem per1 : ∀ k : _root_.Fin 32, ((bitsI .and .i64 ((k.val : Int) + 1) (IntKind.wrap .i64 ((k.val : Int) + 1 - 1)) == 0) = true ↔ perOk ((k.val : Int) + 1)) := by
  unfold perOk
  decide +kernel
theorem per2 : ∀ k : _root_.Fin 32, (((32 : Int).tmod ((k.val : Int) + 1) != 0) = false ↔ perOk ((k.val : Int) + 1)) := by
  unfold perOk
  decide +kernel
theorem l115 (n : Nat) (p : Int) : F115 n p = some (decide (perOk p)) := by
  unfold F115
  by_cases h1 : p ≥ 1
  · rw [decide_eq_true h1]
    by_cases h2 : p ≤ 32
    · rw [decide_eq_true h2]
      have := per1 ⟨(p - 1).toNat, by omega⟩
      simp only [show (((p - 1).toNat : Nat) : Int) + 1 = p by omega] at this
      simp only [cond_true, Option.some.injEq]
      rw [Bool.eq_iff_iff, this, decide_eq_true_iff]
    · rw [decide_eq_false h2, decide_eq_false (show ¬ perOk p by unfold perOk; omega)]; rfl
  · rw [decide_eq_false h1, decide_eq_false (show ¬ perOk p by unfold perOk; omega)]; rfl
def allPer (P : List Int) : Prop := ∀ j, j < P.length → perOk (P.getD j 0)
noncomputable def argE (P : List Int) (lanes : Int) : Int := if ¬ (1 ≤ lanes ∧ lanes ≤ 8) then 1 else if 64 < P.length then 2 else if allPer P then 0 else 1
theorem l88 (n : Nat) (hn : 100 < n) (P : List Int) (lanes : Int) : F88 n P lanes = some (argE P lanes) := by
  unfold F88 argE
  by_cases h1 : lanes < 1
  · rw [decide_eq_true h1, if_pos (by omega)]; rfl
  rw [decide_eq_false h1]
  by_cases h2 : lanes > 8
  · rw [decide_eq_true h2, if_pos (by omega)]; rfl
  rw [decide_eq_false h2, if_neg (by omega)]
  by_cases h3 : 64 < P.length
  · rw [decide_eq_true (show ((P.length : Nat) : Int) > 64 by omega), if_pos h3]; rfl
  rw [decide_eq_false (show ¬ ((P.length : Nat) : Int) > 64 by omega), if_neg h3]
  simp only [cond_false]
  refine loopF_eq (F88_l2 n P) (fun _ => some (if allPer P then 0 else 1)) (fun x => ∃ k : Nat, x = (k : Int) ∧ k ≤ P.length ∧ ∀ j, j < k → perOk (P.getD j 0)) (fun x => P.length - x.toNat) ?_ n 0 ⟨0, rfl, by omega, fun j hj => by omega⟩ (by simp; omega)
  rintro kk x ⟨k, rfl, hk, hall⟩ ih
  simp only [F88_l2, Int.toNat_natCast, l115]
  by_cases hka : k < P.length
  · rw [decide_eq_true (show (k : Int) < (P.length : Int) by omega), inb_true (show (0 : Int) ≤ k by omega) (show (k : Int) < P.length by omega)]
    simp only [cond_true, Option.bind_some]
    by_cases hp : perOk (P.getD k 0)
    · rw [decide_eq_true hp, w64 (n := (k : Int) + 1) (by omega) (by omega)]
      exact ih ((k : Int) + 1) ⟨k + 1, by omega, by omega, fun j hj => by
        rcases Nat.lt_succ_iff_lt_or_eq.1 hj with h | h
        · exact hall j h
        · rw [h]; exact hp⟩ (by simp only [Int.toNat_natCast]; omega)
    · rw [decide_eq_false hp, if_neg (fun h => hp (h k hka))]; rfl
  · rw [decide_eq_false (show ¬ (k : Int) < (P.length : Int) by omega), if_pos (show allPer P from fun j hj => hall j (by omega))]; rfl
theorem l16 (n : Nat) (lo hi v : Int) : F16 n v lo hi = some (decide (lo ≤ v ∧ v ≤ hi)) := by
  unfold F16
  by_cases h : lo ≤ v
  · rw [decide_eq_true h]
    simp only [cond_true, Option.some.injEq]
    by_cases h2 : v ≤ hi
    · rw [decide_eq_true h2, decide_eq_true ⟨h, h2⟩]
    · rw [decide_eq_false h2, decide_eq_false (fun hh => h2 hh.2)]
  · rw [decide_eq_false h, decide_eq_false (show ¬ (lo ≤ v ∧ v ≤ hi) from fun hh => h hh.1)]; rfl
theorem l90 (n : Nat) (hn : 100 < n) (P : List Int) (lanes : Int) : F90 n P lanes = some (argE P lanes) := by
  unfold F90 argE
  rw [l16]
  simp only [Option.bind_some]
  rcases (Classical.em (1 ≤ lanes ∧ lanes ≤ 8)).symm with h1 | h1
  · rw [decide_eq_false h1, if_pos h1]; rfl
  rw [decide_eq_true h1, if_neg (fun h => h h1)]
  by_cases h3 : 64 < P.length
  · rw [decide_eq_true (show ((P.length : Nat) : Int) > 64 by omega), if_pos h3]; rfl
  rw [decide_eq_false (show ¬ ((P.length : Nat) : Int) > 64 by omega), if_neg h3]
  simp only [Bool.not_true, cond_false]
  refine loopF_eq (F90_l2 n P) (fun _ => some (if allPer P then 0 else 1)) (fun x => ∃ k : Nat, x = (k : Int) ∧ k ≤ P.length ∧ ∀ j, j < k → perOk (P.getD j 0)) (fun x => P.length - x.toNat) ?_ n 0 ⟨0, rfl, by omega, fun j hj => by omega⟩ (by simp; omega)
  rintro kk x ⟨k, rfl, hk, hall⟩ ih
  simp only [F90_l2, Int.toNat_natCast]
  by_cases hka : k < P.length
  · rw [decide_eq_true (show (k : Int) < (P.length : Int) by omega), inb_true (show (0 : Int) ≤ k by omega) (show (k : Int) < P.length by omega)]
    simp only [cond_true]
    obtain ⟨p, hq⟩ : ∃ p, P.getD k 0 = p := ⟨_, rfl⟩
    simp only [hq]
    have no : ¬ perOk p → some (1 : Int) = some (if allPer P then 0 else 1) := fun hp => by rw [if_neg (fun h => hp (by rw [← hq]; exact h k hka))]
    by_cases g1 : p < 1
    · rw [decide_eq_true g1]; exact no (by unfold perOk; omega)
    rw [decide_eq_false g1]
    by_cases g2 : p > 32
    · rw [decide_eq_true g2]; exact no (by unfold perOk; omega)
    rw [decide_eq_false g2, show (p != 0) = true by simp; omega]
    have := per2 ⟨(p - 1).toNat, by omega⟩
    simp only [show (((p - 1).toNat : Nat) : Int) + 1 = p by omega] at this
    simp only [cond_false, cond_true]
    by_cases hp : perOk p
    · rw [this.2 hp, w64 (n := (k : Int) + 1) (by omega) (by omega)]
      exact ih ((k : Int) + 1) ⟨k + 1, by omega, by omega, fun j hj => by
        rcases Nat.lt_succ_iff_lt_or_eq.1 hj with h | h
        · exact hall j h
        · rw [h, hq]; exact hp⟩ (by simp only [Int.toNat_natCast]; omega)
    · have : ((32 : Int).tmod p != 0) = true := by
        cases h : ((32 : Int).tmod p != 0)
        · exact absurd (this.1 h) hp
        · rfl
      rw [this]; exact no hp
  · rw [decide_eq_false (show ¬ (k : Int) < (P.length : Int) by omega), if_pos (show allPer P from fun j hj => hall j (by omega))]; rfl
section
variable (P : List Int) (L : List (Int × Int)) (lanes frame : Int)
def lane (i : Nat) : Int := (L.getD i (0, 0)).1
def phase (i : Nat) : Int := (L.getD i (0, 0)).2
def per (i : Nat) : Int := P.getD i 0
def inRan (i : Nat) : Prop := (0 ≤ lane L i ∧ lane L i < lanes) ∧ (0 ≤ phase L i ∧ phase L i < per P i)
def minP (i k : Nat) : Int := if per P k < per P i then per P k else per P i
def clash (i k : Nat) : Prop := lane L i = lane L k ∧ (phase L i).tmod (minP P i k) = (phase L k).tmod (minP P i k)
noncomputable def clashE : Int := if ∃ i k, i < L.length ∧ k < i ∧ clash P L i k then 13 else 0
noncomputable def chkE : Int := if argE P lanes ≠ 0 then argE P lanes else if L.length ≠ P.length then 4 else if ∀ i, i < L.length → inRan P L lanes i then clashE P L else 1
end
section
variable {P : List Int} {L : List (Int × Int)} {lanes frame : Int}
theorem per_pos (hP : allPer P) {i : Nat} (hi : i < P.length) : 1 ≤ per P i ∧ per P i ≤ 32 := by
  have := hP i hi
  unfold perOk at this
  unfold per
  omega
theorem l89 (n : Nat) (hP : allPer P) {i k : Nat} (hi : i < P.length) (hk : k < P.length) : F89 n (lane L i) (phase L i) (lane L k) (phase L k) (per P i) (per P k) = some (decide (clash P L i k)) := by
  have h1 := per_pos hP hi
  have h2 := per_pos hP hk
  have hm : ((if per P k < per P i then per P k else per P i) != 0) = true := by
    rw [bne_iff_ne]
    split <;> omega
  unfold F89
  rw [hm]
  by_cases h : lane L i = lane L k
  · rw [show (lane L i == lane L k) = true by simpa using h]
    simp only [cond_true, Option.some.injEq]
    rw [Bool.eq_iff_iff, beq_iff_eq, decide_eq_true_iff]
    exact ⟨fun e => ⟨h, e⟩, fun e => e.2⟩
  · rw [show (lane L i == lane L k) = false by simpa using h, decide_eq_false (fun hh => h hh.1)]; rfl
theorem l91 (n : Nat) (hP : allPer P) {i k : Nat} (hi : i < P.length) (hk : k < P.length) : F91 n (per P i) (lane L i) (phase L i) (per P k) (lane L k) (phase L k) = some (decide (clash P L i k)) := l89 n hP hi hk
theorem in39 (n : Nat) (hn : 100 < n) (hP : allPer P) (h64 : P.length ≤ 64) (hl : L.length = P.length) (K : Int → Option Int) (i : Nat) (hi : i < L.length) :
    loopF (F39_l20 n K P L (i : Int)) n 0 = if ∃ k, k < i ∧ clash P L i k then some 13 else K ((i + 1 : Nat) : Int) := by
  refine loopF_eq (F39_l20 n K P L (i : Int)) (fun _ => if ∃ k, k < i ∧ clash P L i k then some 13 else K ((i + 1 : Nat) : Int)) (fun x => ∃ k : Nat, x = (k : Int) ∧ k ≤ i ∧ ∀ j, j < k → ¬ clash P L i j) (fun x => i - x.toNat) ?_ n 0 ⟨0, rfl, by omega, fun j hj => by omega⟩ (by simp; omega)
  rintro kk x ⟨k, rfl, hk, hall⟩ ih
  simp only [F39_l20, Int.toNat_natCast]
  by_cases hka : k < i
  · rw [decide_eq_true (show (k : Int) < (i : Int) by omega), inb_true (show (0 : Int) ≤ k by omega) (show (k : Int) < L.length by omega), inb_true (show (0 : Int) ≤ i by omega) (show (i : Int) < P.length by omega), inb_true (show (0 : Int) ≤ k by omega) (show (k : Int) < P.length by omega)]
    simp only [cond_true]
    have e := l89 (L := L) n hP (show i < P.length by omega) (show k < P.length by omega)
    unfold lane phase per at e
    rw [e]
    simp only [Option.bind_some]
    by_cases hc : clash P L i k
    · rw [decide_eq_true hc, if_pos ⟨k, hka, hc⟩]; rfl
    · rw [decide_eq_false hc, w64 (n := (k : Int) + 1) (by omega) (by omega)]
      exact ih ((k : Int) + 1) ⟨k + 1, by omega, by omega, fun j hj => by
        rcases Nat.lt_succ_iff_lt_or_eq.1 hj with h | h
        · exact hall j h
        · rw [h]; exact hc⟩ (by simp only [Int.toNat_natCast]; omega)
  · rw [decide_eq_false (show ¬ (k : Int) < (i : Int) by omega), if_neg (by rintro ⟨j, hj, hc⟩; exact hall j (by omega) hc), w64 (n := (i : Int) + 1) (by omega) (by omega)]; rfl
theorem in40 (n : Nat) (hn : 100 < n) (hP : allPer P) (h64 : P.length ≤ 64) (hl : L.length = P.length) (K : Int → Option Int) (i : Nat) (hi : i < L.length) :
    loopF (F40_l20 n K P L (i : Int)) n 0 = if ∃ k, k < i ∧ clash P L i k then some 13 else K ((i + 1 : Nat) : Int) := by
  refine loopF_eq (F40_l20 n K P L (i : Int)) (fun _ => if ∃ k, k < i ∧ clash P L i k then some 13 else K ((i + 1 : Nat) : Int)) (fun x => ∃ k : Nat, x = (k : Int) ∧ k ≤ i ∧ ∀ j, j < k → ¬ clash P L i j) (fun x => i - x.toNat) ?_ n 0 ⟨0, rfl, by omega, fun j hj => by omega⟩ (by simp; omega)
  rintro kk x ⟨k, rfl, hk, hall⟩ ih
  simp only [F40_l20, Int.toNat_natCast]
  by_cases hka : k < i
  · rw [decide_eq_true (show (k : Int) < (i : Int) by omega), inb_true (show (0 : Int) ≤ k by omega) (show (k : Int) < L.length by omega), inb_true (show (0 : Int) ≤ i by omega) (show (i : Int) < P.length by omega), inb_true (show (0 : Int) ≤ k by omega) (show (k : Int) < P.length by omega), inb_true (show (0 : Int) ≤ i by omega) (show (i : Int) < L.length by omega)]
    simp only [cond_true]
    have e := l91 (L := L) n hP (show i < P.length by omega) (show k < P.length by omega)
    unfold lane phase per at e
    rw [e]
    simp only [Option.bind_some]
    by_cases hc : clash P L i k
    · rw [decide_eq_true hc, if_pos ⟨k, hka, hc⟩]; rfl
    · rw [decide_eq_false hc, w64 (n := (k : Int) + 1) (by omega) (by omega)]
      exact ih ((k : Int) + 1) ⟨k + 1, by omega, by omega, fun j hj => by
        rcases Nat.lt_succ_iff_lt_or_eq.1 hj with h | h
        · exact hall j h
        · rw [h]; exact hc⟩ (by simp only [Int.toNat_natCast]; omega)
  · rw [decide_eq_false (show ¬ (k : Int) < (i : Int) by omega), if_neg (by rintro ⟨j, hj, hc⟩; exact hall j (by omega) hc), w64 (n := (i : Int) + 1) (by omega) (by omega)]; rfl
theorem out39 (n : Nat) (hn : 100 < n) (hP : allPer P) (h64 : P.length ≤ 64) (hl : L.length = P.length) : loopF (F39_l19 n P L) n 0 = some (clashE P L) := by
  refine loopF_eq (F39_l19 n P L) (fun _ => some (clashE P L)) (fun x => ∃ k : Nat, x = (k : Int) ∧ k ≤ L.length ∧ ∀ i, i < k → ∀ j, j < i → ¬ clash P L i j) (fun x => L.length - x.toNat) ?_ n 0 ⟨0, rfl, by omega, fun j hj => by omega⟩ (by simp; omega)
  rintro kk x ⟨k, rfl, hk, hall⟩ ih
  simp only [F39_l19]
  by_cases hka : k < L.length
  · rw [decide_eq_true (show (k : Int) < (L.length : Int) by omega), inb_true (show (0 : Int) ≤ k by omega) (show (k : Int) < L.length by omega)]
    simp only [cond_true]
    rw [in39 n hn hP h64 hl kk k hka]
    by_cases hc : ∃ j, j < k ∧ clash P L k j
    · obtain ⟨j, hj, hc'⟩ := hc
      rw [if_pos ⟨j, hj, hc'⟩]
      unfold clashE
      rw [if_pos ⟨k, j, hka, hj, hc'⟩]
    · rw [if_neg hc]
      exact ih _ ⟨k + 1, rfl, by omega, fun i hi j hj h => by
        rcases Nat.lt_succ_iff_lt_or_eq.1 hi with h' | h'
        · exact hall i h' j hj h
        · subst h'; exact hc ⟨j, hj, h⟩⟩ (by simp only [Int.toNat_natCast]; omega)
  · rw [decide_eq_false (show ¬ (k : Int) < (L.length : Int) by omega)]
    unfold clashE
    rw [if_neg (by rintro ⟨i, j, h1, h2, h3⟩; exact hall i (by omega) j h2 h3)]; rfl
theorem out40 (n : Nat) (hn : 100 < n) (hP : allPer P) (h64 : P.length ≤ 64) (hl : L.length = P.length) : loopF (F40_l19 n P L) n 0 = some (clashE P L) := by
  refine loopF_eq (F40_l19 n P L) (fun _ => some (clashE P L)) (fun x => ∃ k : Nat, x = (k : Int) ∧ k ≤ L.length ∧ ∀ i, i < k → ∀ j, j < i → ¬ clash P L i j) (fun x => L.length - x.toNat) ?_ n 0 ⟨0, rfl, by omega, fun j hj => by omega⟩ (by simp; omega)
  rintro kk x ⟨k, rfl, hk, hall⟩ ih
  simp only [F40_l19]
  by_cases hka : k < L.length
  · rw [decide_eq_true (show (k : Int) < (L.length : Int) by omega)]
    simp only [cond_true]
    rw [in40 n hn hP h64 hl kk k hka]
    by_cases hc : ∃ j, j < k ∧ clash P L k j
    · obtain ⟨j, hj, hc'⟩ := hc
      rw [if_pos ⟨j, hj, hc'⟩]
      unfold clashE
      rw [if_pos ⟨k, j, hka, hj, hc'⟩]
    · rw [if_neg hc]
      exact ih _ ⟨k + 1, rfl, by omega, fun i hi j hj h => by
        rcases Nat.lt_succ_iff_lt_or_eq.1 hi with h' | h'
        · exact hall i h' j hj h
        · subst h'; exact hc ⟨j, hj, h⟩⟩ (by simp only [Int.toNat_natCast]; omega)
  · rw [decide_eq_false (show ¬ (k : Int) < (L.length : Int) by omega)]
    unfold clashE
    rw [if_neg (by rintro ⟨i, j, h1, h2, h3⟩; exact hall i (by omega) j h2 h3)]; rfl
theorem arg0 (h : argE P lanes = 0) : (1 ≤ lanes ∧ lanes ≤ 8) ∧ P.length ≤ 64 ∧ allPer P := by
  unfold argE at h
  by_cases h1 : 1 ≤ lanes ∧ lanes ≤ 8
  · rw [if_neg (fun hh => hh h1)] at h
    by_cases h2 : 64 < P.length
    · rw [if_pos h2] at h; omega
    · rw [if_neg h2] at h
      by_cases h3 : allPer P
      · exact ⟨h1, by omega, h3⟩
      · rw [if_neg h3] at h; omega
  · rw [if_pos h1] at h; omega
theorem l39 (n : Nat) (hn : 100 < n) : F39 n P L lanes = some (chkE P L lanes) := by
  unfold F39 chkE
  rw [l88 n hn]
  simp only [Option.bind_some]
  rcases (Classical.em (argE P lanes = 0)).symm with h | h
  · rw [if_pos h, show (argE P lanes != 0) = true by simpa using h]; rfl
  obtain ⟨hla, h64, hP⟩ := arg0 h
  rw [if_neg (fun hh => hh h), h]
  simp only [bne_self_eq_false, cond_false]
  rcases (Classical.em (L.length = P.length)).symm with hl | hl
  · rw [if_pos hl, show (((L.length : Nat) : Int) != ((P.length : Nat) : Int)) = true by simp; omega]; rfl
  rw [if_neg (fun hh => hh hl), show (((L.length : Nat) : Int) != ((P.length : Nat) : Int)) = false by simp [hl]]
  simp only [cond_false]
  refine loopF_eq (F39_l16 n P L lanes) (fun _ => some (if ∀ i, i < L.length → inRan P L lanes i then clashE P L else 1)) (fun x => ∃ k : Nat, x = (k : Int) ∧ k ≤ L.length ∧ ∀ i, i < k → inRan P L lanes i) (fun x => L.length - x.toNat) ?_ n 0 ⟨0, rfl, by omega, fun j hj => by omega⟩ (by simp; omega)
  rintro kk x ⟨k, rfl, hk, hall⟩ ih
  simp only [F39_l16, Int.toNat_natCast]
  by_cases hka : k < L.length
  · rw [decide_eq_true (show (k : Int) < (L.length : Int) by omega), inb_true (show (0 : Int) ≤ k by omega) (show (k : Int) < L.length by omega), inb_true (show (0 : Int) ≤ k by omega) (show (k : Int) < P.length by omega)]
    simp only [cond_true]
    have no : ¬ inRan P L lanes k → some (1 : Int) = some (if ∀ i, i < L.length → inRan P L lanes i then clashE P L else 1) := fun hp => by rw [if_neg (fun h => hp (h k hka))]
    show (bif decide (lane L k < 0) then some 1 else bif decide (lane L k ≥ lanes) then some 1 else bif decide (phase L k < 0) then some 1 else bif decide (phase L k ≥ per P k) then some 1 else kk (IntKind.wrap .i64 ((k : Int) + 1))) = _
    by_cases g1 : lane L k < 0
    · rw [decide_eq_true g1]; exact no (fun h => by unfold inRan at h; omega)
    rw [decide_eq_false g1]
    by_cases g2 : lane L k ≥ lanes
    · rw [decide_eq_true g2]; exact no (fun h => by unfold inRan at h; omega)
    rw [decide_eq_false g2]
    by_cases g3 : phase L k < 0
    · rw [decide_eq_true g3]; exact no (fun h => by unfold inRan at h; omega)
    rw [decide_eq_false g3]
    by_cases g4 : phase L k ≥ per P k
    · rw [decide_eq_true g4]; exact no (fun h => by unfold inRan at h; omega)
    rw [decide_eq_false g4, w64 (n := (k : Int) + 1) (by omega) (by omega)]
    simp only [cond_false]
    exact ih ((k : Int) + 1) ⟨k + 1, by omega, by omega, fun j hj => by
      rcases Nat.lt_succ_iff_lt_or_eq.1 hj with h | h
      · exact hall j h
      · subst h; unfold inRan; omega⟩ (by simp only [Int.toNat_natCast]; omega)
  · rw [decide_eq_false (show ¬ (k : Int) < (L.length : Int) by omega), if_pos (fun i hi => hall i (by omega))]
    simp only [cond_false]
    exact out39 n hn hP h64 hl
theorem l40 (n : Nat) (hn : 100 < n) : F40 n P L lanes = some (chkE P L lanes) := by
  unfold F40 chkE
  rw [l90 n hn]
  simp only [Option.bind_some]
  rcases (Classical.em (argE P lanes = 0)).symm with h | h
  · rw [if_pos h, show (argE P lanes != 0) = true by simpa using h]; rfl
  obtain ⟨hla, h64, hP⟩ := arg0 h
  rw [if_neg (fun hh => hh h), h]
  simp only [bne_self_eq_false, cond_false]
  rcases (Classical.em (L.length = P.length)).symm with hl | hl
  · rw [if_pos hl, show (((L.length : Nat) : Int) != ((P.length : Nat) : Int)) = true by simp; omega]; rfl
  rw [if_neg (fun hh => hh hl), show (((L.length : Nat) : Int) != ((P.length : Nat) : Int)) = false by simp [hl]]
  simp only [cond_false]
  refine loopF_eq (F40_l16 n P L lanes) (fun _ => some (if ∀ i, i < L.length → inRan P L lanes i then clashE P L else 1)) (fun x => ∃ k : Nat, x = (k : Int) ∧ k ≤ L.length ∧ ∀ i, i < k → inRan P L lanes i) (fun x => L.length - x.toNat) ?_ n 0 ⟨0, rfl, by omega, fun j hj => by omega⟩ (by simp; omega)
  rintro kk x ⟨k, rfl, hk, hall⟩ ih
  simp only [F40_l16, Int.toNat_natCast]
  by_cases hka : k < L.length
  · have hpp := per_pos hP (show k < P.length by omega)
    rw [decide_eq_true (show (k : Int) < (L.length : Int) by omega), inb_true (show (0 : Int) ≤ k by omega) (show (k : Int) < L.length by omega), inb_true (show (0 : Int) ≤ k by omega) (show (k : Int) < P.length by omega)]
    simp only [cond_true]
    have no : ¬ inRan P L lanes k → some (1 : Int) = some (if ∀ i, i < L.length → inRan P L lanes i then clashE P L else 1) := fun hp => by rw [if_neg (fun h => hp (h k hka))]
    rw [w64 (n := lanes - 1) (by omega) (by omega), l16, l16]
    simp only [Option.bind_some]
    show (bif !decide (0 ≤ lane L k ∧ lane L k ≤ lanes - 1) then some 1 else bif !decide (0 ≤ phase L k ∧ phase L k ≤ IntKind.wrap .i64 (per P k - 1)) then some 1 else kk (IntKind.wrap .i64 ((k : Int) + 1))) = _
    rw [w64 (n := per P k - 1) (by omega) (by omega)]
    rcases (Classical.em (0 ≤ lane L k ∧ lane L k ≤ lanes - 1)).symm with g1 | g1
    · rw [decide_eq_false g1]; exact no (fun h => by unfold inRan at h; omega)
    rw [decide_eq_true g1]
    rcases (Classical.em (0 ≤ phase L k ∧ phase L k ≤ per P k - 1)).symm with g3 | g3
    · rw [decide_eq_false g3]; exact no (fun h => by unfold inRan at h; omega)
    rw [decide_eq_true g3, w64 (n := (k : Int) + 1) (by omega) (by omega)]
    simp only [Bool.not_true, cond_false]
    exact ih ((k : Int) + 1) ⟨k + 1, by omega, by omega, fun j hj => by
      rcases Nat.lt_succ_iff_lt_or_eq.1 hj with h | h
      · exact hall j h
      · subst h; unfold inRan; omega⟩ (by simp only [Int.toNat_natCast]; omega)
  · rw [decide_eq_false (show ¬ (k : Int) < (L.length : Int) by omega), if_pos (fun i hi => hall i (by omega))]
    simp only [cond_false]
    exact out40 n hn hP h64 hl
end
end Go.Proofs.Ytgcdohclbkmmdaa
