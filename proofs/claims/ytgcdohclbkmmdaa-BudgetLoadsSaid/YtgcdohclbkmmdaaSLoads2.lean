/- The law BudgetLoads, in plain Lean: which tasks come. -/
import Derived.Test.YtgcdohclbkmmdaaSLoads
namespace Go.Proofs.Ytgcdohclbkmmdaa
open Go Go.RowKit
open Classical
set_option linter.unusedVariables false

section
variable (P : List Int) (L : List (Int × Int)) (frame : Int)
/-- does the task come in this lane? -/
def hits (x i : Nat) : Prop := lane L i = (x : Int) ∧ frame % per P i = phase L i
noncomputable def selTo (x : Nat) : Nat → List Int
  | 0 => []
  | m + 1 => if hits P L frame x m then selTo x m ++ [(m : Int)] else selTo x m
noncomputable def lastTo (x : Nat) : Nat → Int
  | 0 => 0
  | m + 1 => if hits P L frame x m then ((m + 1 : Nat) : Int) else lastTo x m
noncomputable def allTo : Nat → List Int
  | 0 => []
  | x + 1 => allTo x ++ selTo P L frame x L.length
end
section
variable {P : List Int} {L : List (Int × Int)} {lanes frame : Int}
theorem sel_len (x : Nat) : ∀ m, (selTo P L frame x m).length ≤ m
  | 0 => by simp [selTo]
  | m + 1 => by
    have := sel_len x m
    simp only [selTo]
    split
    · simp; omega
    · omega
theorem all_len (h : L.length ≤ 64) : ∀ x, (allTo P L frame x).length ≤ 64 * x
  | 0 => by simp [allTo]
  | x + 1 => by
    have := all_len h x
    have := sel_len (P := P) (L := L) (frame := frame) x L.length
    simp only [allTo, List.length_append]
    omega
theorem last_none (x : Nat) : ∀ m, (∀ i, i < m → ¬ hits P L frame x i) → lastTo P L frame x m = 0 ∧ selTo P L frame x m = []
  | 0, _ => ⟨rfl, rfl⟩
  | m + 1, h => by
    have := last_none x m (fun i hi => h i (by omega))
    simp only [lastTo, selTo]
    rw [if_neg (h m (by omega)), if_neg (h m (by omega))]
    exact this
theorem sel_last (x : Nat) : ∀ m, (∀ i k, i < m → k < i → hits P L frame x i → hits P L frame x k → False) → 0 ≤ lastTo P L frame x m ∧ lastTo P L frame x m ≤ m ∧ selTo P L frame x m = if lastTo P L frame x m > 0 then [lastTo P L frame x m - 1] else []
  | 0, _ => by simp [lastTo, selTo]
  | m + 1, h => by
    have ih := sel_last x m (fun i k hi hk => h i k (by omega) hk)
    by_cases hm : hits P L frame x m
    · have := last_none (P := P) (L := L) (frame := frame) x m (fun i hi hh => h m i (by omega) hi hm hh)
      have e1 : lastTo P L frame x (m + 1) = ((m + 1 : Nat) : Int) := if_pos hm
      have e2 : selTo P L frame x (m + 1) = selTo P L frame x m ++ [(m : Int)] := if_pos hm
      rw [e1, e2, this.2, if_pos (show ((m + 1 : Nat) : Int) > 0 by omega)]
      refine ⟨by omega, by omega, ?_⟩
      simp
    · have e1 : lastTo P L frame x (m + 1) = lastTo P L frame x m := if_neg hm
      have e2 : selTo P L frame x (m + 1) = selTo P L frame x m := if_neg hm
      rw [e1, e2]
      exact ⟨ih.1, by have := ih.2.1; omega, ih.2.2⟩
theorem chk0 (h : chkE P L lanes = 0) : (1 ≤ lanes ∧ lanes ≤ 8) ∧ P.length ≤ 64 ∧ allPer P ∧ L.length = P.length ∧ (∀ i, i < L.length → inRan P L lanes i) ∧ ∀ i k, i < L.length → k < i → ¬ clash P L i k := by
  unfold chkE at h
  by_cases h1 : argE P lanes = 0
  · obtain ⟨a1, a2, a3⟩ := arg0 h1
    rw [if_neg (fun hh => hh h1)] at h
    by_cases h2 : L.length = P.length
    · rw [if_neg (fun hh => hh h2)] at h
      by_cases h3 : ∀ i, i < L.length → inRan P L lanes i
      · rw [if_pos h3] at h
        refine ⟨a1, a2, a3, h2, h3, fun i k hi hk hc => ?_⟩
        unfold clashE at h
        rw [if_pos ⟨i, k, hi, hk, hc⟩] at h
        omega
      · rw [if_neg h3] at h; omega
    · rw [if_pos h2] at h; omega
  · rw [if_pos h1] at h; exact absurd h h1
theorem min_dvd {p q : Int} (hp : perOk p) (hq : perOk q) : (if q < p then q else p) ∣ p ∧ (if q < p then q else p) ∣ q := by
  unfold perOk at hp hq
  rcases hp with rfl | rfl | rfl | rfl | rfl | rfl <;> rcases hq with rfl | rfl | rfl | rfl | rfl | rfl <;> decide
/-- no two tasks come in one lane -/
theorem one_hit (h : chkE P L lanes = 0) (h0 : 0 ≤ frame) (x i k : Nat) (hi : i < L.length) (hk : k < i) (h1 : hits P L frame x i) (h2 : hits P L frame x k) : False := by
  obtain ⟨a1, a2, a3, a4, a5, a6⟩ := chk0 h
  refine a6 i k hi hk ⟨by rw [h1.1, h2.1], ?_⟩
  have r1 := a5 i hi
  have r2 := a5 k (by omega)
  unfold inRan at r1 r2
  have d := min_dvd (a3 i (by omega)) (a3 k (by omega))
  unfold minP per
  rw [Int.tmod_eq_emod_of_nonneg r1.2.1, Int.tmod_eq_emod_of_nonneg r2.2.1, ← h1.2, ← h2.2]
  unfold per
  rw [Int.emod_emod_of_dvd _ d.1, Int.emod_emod_of_dvd _ d.2]
theorem in37 (n : Nat) (hn : 1000 < n) (h : chkE P L lanes = 0) (h0 : 0 ≤ frame) (K : Int × List Int → Option (Int × List Int)) (x : Nat) (hx : x < 8) (acc : List Int) (ha : acc.length ≤ 64 * x) :
    loopF (F37_l8 n K P L frame (x : Int)) n (0, acc) = K (((x + 1 : Nat) : Int), acc ++ selTo P L frame x L.length) := by
  obtain ⟨a1, a2, a3, a4, a5, a6⟩ := chk0 h
  refine loopF_eq (F37_l8 n K P L frame (x : Int)) (fun _ => K (((x + 1 : Nat) : Int), acc ++ selTo P L frame x L.length)) (fun d => ∃ k : Nat, d = ((k : Int), acc ++ selTo P L frame x k) ∧ k ≤ L.length) (fun d => L.length - d.1.toNat) ?_ n (0, acc) ⟨0, by simp [selTo], by omega⟩ (by simp; omega)
  rintro kk d ⟨k, rfl, hk⟩ ih
  simp only [F37_l8, Int.toNat_natCast]
  by_cases hka : k < L.length
  · have hpp := per_pos a3 (show k < P.length by omega)
    rw [decide_eq_true (show (k : Int) < (L.length : Int) by omega), inb_true (show (0 : Int) ≤ k by omega) (show (k : Int) < L.length by omega), inb_true (show (0 : Int) ≤ k by omega) (show (k : Int) < P.length by omega), w64 (n := (k : Int) + 1) (by omega) (by omega)]
    simp only [cond_true]
    show (bif lane L k == (x : Int) then bif per P k != 0 then bif frame.tmod (per P k) == phase L k then bif decide ((acc ++ selTo P L frame x k).length + [(k : Int)].length ≤ 17179869184) then kk ((k : Int) + 1, acc ++ selTo P L frame x k ++ [(k : Int)]) else none else kk ((k : Int) + 1, acc ++ selTo P L frame x k) else none else kk ((k : Int) + 1, acc ++ selTo P L frame x k)) = _
    have hsl := sel_len (P := P) (L := L) (frame := frame) x k
    rw [show (per P k != 0) = true by simp; omega, decide_eq_true (show (acc ++ selTo P L frame x k).length + [(k : Int)].length ≤ 17179869184 by simp; omega), Int.tmod_eq_emod_of_nonneg h0]
    simp only [cond_true]
    by_cases hh : hits P L frame x k
    · rw [show (lane L k == (x : Int)) = true by simpa using hh.1, show (frame % per P k == phase L k) = true by simpa using hh.2]
      simp only [cond_true]
      exact ih _ ⟨k + 1, by simp only [selTo]; rw [if_pos hh]; simp, by omega⟩ (by simp only [Int.toNat_natCast]; omega)
    · have hnext := ih ((k : Int) + 1, acc ++ selTo P L frame x k) ⟨k + 1, by simp only [selTo]; rw [if_neg hh]; simp, by omega⟩ (by simp only [Int.toNat_natCast]; omega)
      by_cases g1 : lane L k = (x : Int)
      · rw [show (lane L k == (x : Int)) = true by simpa using g1, show (frame % per P k == phase L k) = false by simpa using fun e => hh ⟨g1, e⟩]
        exact hnext
      · rw [show (lane L k == (x : Int)) = false by simpa using g1]
        exact hnext
  · rw [decide_eq_false (show ¬ (k : Int) < (L.length : Int) by omega), w64 (n := (x : Int) + 1) (by omega) (by omega), show k = L.length by omega]; rfl
theorem l37 (n : Nat) (hn : 1000 < n) (h : chkE P L lanes = 0) (h0 : 0 ≤ frame) : loopF (F37_l7 n P L lanes frame) n (0, []) = some (0, allTo P L frame lanes.toNat) := by
  obtain ⟨a1, a2, a3, a4, a5, a6⟩ := chk0 h
  refine loopF_eq (F37_l7 n P L lanes frame) (fun _ => some (0, allTo P L frame lanes.toNat)) (fun d => ∃ x : Nat, d = ((x : Int), allTo P L frame x) ∧ (x : Int) ≤ lanes) (fun d => lanes.toNat - d.1.toNat) ?_ n (0, []) ⟨0, rfl, by omega⟩ (by simp; omega)
  rintro kk d ⟨x, rfl, hx⟩ ih
  simp only [F37_l7]
  by_cases hxa : (x : Int) < lanes
  · have hal := all_len (P := P) (frame := frame) (show L.length ≤ 64 by omega) x
    rw [decide_eq_true hxa]
    simp only [cond_true]
    rw [in37 n hn h h0 kk x (by omega) _ hal]
    exact ih _ ⟨x + 1, rfl, by omega⟩ (by simp only [Int.toNat_natCast]; omega)
  · rw [decide_eq_false hxa, show lanes.toNat = x by omega]; rfl
theorem l38b (n : Nat) (hn : 1000 < n) (h : chkE P L lanes = 0) (h0 : 0 ≤ frame) (m : List Int) (hm : m.length = lanes.toNat) (hv : ∀ x, x < lanes.toNat → m.getD x 0 = lastTo P L frame x L.length) : loopF (F38_l8 n m) n (0, []) = some (0, allTo P L frame lanes.toNat) := by
  obtain ⟨a1, a2, a3, a4, a5, a6⟩ := chk0 h
  refine loopF_eq (F38_l8 n m) (fun _ => some (0, allTo P L frame lanes.toNat)) (fun d => ∃ x : Nat, d = ((x : Int), allTo P L frame x) ∧ x ≤ lanes.toNat) (fun d => lanes.toNat - d.1.toNat) ?_ n (0, []) ⟨0, rfl, by omega⟩ (by simp; omega)
  rintro kk d ⟨x, rfl, hx⟩ ih
  simp only [F38_l8, Int.toNat_natCast]
  by_cases hxa : x < lanes.toNat
  · have hal := all_len (P := P) (frame := frame) (show L.length ≤ 64 by omega) x
    obtain ⟨s1, s2, s3⟩ := sel_last (P := P) (L := L) (frame := frame) x L.length (fun i k hi hk => one_hit h h0 x i k hi hk)
    have hvx := hv x hxa
    rw [decide_eq_true (show (x : Int) < (m.length : Int) by omega), inb_true (show (0 : Int) ≤ x by omega) (show (x : Int) < m.length by omega), w64 (n := (x : Int) + 1) (by omega) (by omega)]
    simp only [cond_true, hvx]
    by_cases hg : lastTo P L frame x L.length > 0
    · rw [if_pos hg] at s3
      rw [decide_eq_true hg, w64 (n := lastTo P L frame x L.length - 1) (by omega) (by omega), decide_eq_true (show (allTo P L frame x).length + [lastTo P L frame x L.length - 1].length ≤ 17179869184 by simp; omega)]
      simp only [cond_true]
      exact ih _ ⟨x + 1, by simp only [allTo, s3]; simp, by omega⟩ (by simp only [Int.toNat_natCast]; omega)
    · rw [if_neg hg] at s3
      rw [decide_eq_false hg]
      simp only [cond_false]
      exact ih _ ⟨x + 1, by simp only [allTo, s3]; simp, by omega⟩ (by simp only [Int.toNat_natCast]; omega)
  · rw [decide_eq_false (show ¬ (x : Int) < (m.length : Int) by omega), show lanes.toNat = x by omega]; rfl
theorem due_eq {f p q : Int} (hf : 0 ≤ f) (hq : 0 ≤ q) (hqp : q < p) : f % p = q ↔ (f ≥ q ∧ (f - q).tmod p = 0) := by
  constructor
  · intro e
    have h1 : f ≥ q := by
      have e1 := Int.emod_def f p
      have : 0 ≤ p * (f / p) := Int.mul_nonneg (by omega) (Int.ediv_nonneg hf (by omega))
      omega
    refine ⟨h1, ?_⟩
    rw [Int.tmod_eq_emod_of_nonneg (by omega)]
    have : (f - q) % p = (f % p - q % p) % p := Int.sub_emod f q p
    rw [this, e, Int.emod_eq_of_lt hq hqp, Int.sub_self, Int.zero_emod]
  · rintro ⟨h1, h2⟩
    rw [Int.tmod_eq_emod_of_nonneg (by omega)] at h2
    have e : f = q + p * ((f - q) / p) := by
      have := Int.emod_def (f - q) p
      omega
    rw [e, Int.add_mul_emod_self_left, Int.emod_eq_of_lt hq hqp]
theorem getD_setI (m : List Int) (i j : Nat) (v : Int) : (m.set i v).getD j 0 = if j = i ∧ i < m.length then v else m.getD j 0 := by
  simp only [List.getD_eq_getElem?_getD, List.getElem?_set]
  by_cases h : i = j
  · subst h
    by_cases h2 : i < m.length
    · simp [h2]
    · simp [h2]
  · rw [if_neg h, if_neg (fun hh => h hh.1.symm)]
theorem l38 (n : Nat) (hn : 1000 < n) (h : chkE P L lanes = 0) (h0 : 0 ≤ frame) (h1 : frame ≤ 9223372036854775807) : loopF (F38_l7 n P L frame) n (0, List.replicate lanes.toNat 0) = some (0, allTo P L frame lanes.toNat) := by
  obtain ⟨a1, a2, a3, a4, a5, a6⟩ := chk0 h
  refine loopF_eq (F38_l7 n P L frame) (fun _ => some (0, allTo P L frame lanes.toNat)) (fun d => ∃ k : Nat, d.1 = (k : Int) ∧ k ≤ L.length ∧ d.2.length = lanes.toNat ∧ ∀ x, x < lanes.toNat → d.2.getD x 0 = lastTo P L frame x k) (fun d => L.length - d.1.toNat) ?_ n (0, List.replicate lanes.toNat 0) ⟨0, rfl, by omega, by simp, fun x hx => by simp [lastTo, List.getD_eq_getElem?_getD, List.getElem?_replicate, hx]⟩ (by simp; omega)
  rintro kk ⟨d, m⟩ ⟨k, rfl, hk, hml, hv⟩ ih
  simp only at hml hv
  simp only [F38_l7, Int.toNat_natCast]
  by_cases hka : k < L.length
  · have hpp := per_pos a3 (show k < P.length by omega)
    have hr := a5 k hka
    unfold inRan at hr
    rw [decide_eq_true (show (k : Int) < (L.length : Int) by omega), inb_true (show (0 : Int) ≤ k by omega) (show (k : Int) < L.length by omega), inb_true (show (0 : Int) ≤ k by omega) (show (k : Int) < P.length by omega), w64 (n := (k : Int) + 1) (by omega) (by omega)]
    simp only [cond_true]
    show (bif decide (frame ≥ phase L k) then bif per P k != 0 then bif (IntKind.wrap .i64 (frame - phase L k)).tmod (per P k) == 0 then bif inb (lane L k) m.length then kk ((k : Int) + 1, m.set (lane L k).toNat ((k : Int) + 1)) else none else kk ((k : Int) + 1, m) else none else kk ((k : Int) + 1, m)) = _
    rw [show (per P k != 0) = true by simp; omega, inb_true hr.1.1 (show lane L k < (m.length : Int) by omega), w64 (n := frame - phase L k) (by omega) (by omega)]
    simp only [cond_true]
    have hdue := due_eq (p := per P k) h0 hr.2.1 hr.2.2
    by_cases hd : frame % per P k = phase L k
    · obtain ⟨d1, d2⟩ := hdue.1 hd
      rw [decide_eq_true d1, d2]
      simp only [BEq.rfl, cond_true]
      refine ih _ ⟨k + 1, by simp, by omega, by simp [hml], fun x hx => ?_⟩ (by simp only [Int.toNat_natCast]; omega)
      simp only [lastTo]
      rw [getD_setI]
      by_cases hlx : lane L k = (x : Int)
      · rw [if_pos ⟨by omega, by omega⟩, if_pos ⟨hlx, hd⟩]; simp
      · rw [if_neg (fun hh => hlx (by omega)), if_neg (fun hh => hlx hh.1)]
        exact hv x hx
    · have hnext := ih ((k : Int) + 1, m) ⟨k + 1, by simp, by omega, hml, fun x hx => by
        simp only [lastTo]
        rw [if_neg (fun hh => hd hh.2)]
        exact hv x hx⟩ (by simp only [Int.toNat_natCast]; omega)
      by_cases g1 : frame ≥ phase L k
      · rw [decide_eq_true g1, show ((frame - phase L k).tmod (per P k) == 0) = false by simpa using fun e => hd (hdue.2 ⟨g1, e⟩)]
        exact hnext
      · rw [decide_eq_false g1]
        exact hnext
  · rw [decide_eq_false (show ¬ (k : Int) < (L.length : Int) by omega)]
    simp only [cond_false]
    exact l38b n hn h h0 m hml (fun x hx => by rw [hv x hx, show k = L.length by omega])
theorem l25 (n : Nat) (a : List Int) (ha : a.length ≤ 1000) (hn : 1001 < n) : F25 n a a = some true := by
  unfold F25
  simp only [bne_self_eq_false, cond_false]
  refine loopF_eq (F25_l2 n a a) (fun _ => some true) (fun x => ∃ k : Nat, x = (k : Int) ∧ k ≤ a.length) (fun x => a.length - x.toNat) ?_ n 0 ⟨0, rfl, by omega⟩ (by simp; omega)
  rintro kk x ⟨k, rfl, hk⟩ ih
  simp only [F25_l2, Int.toNat_natCast]
  by_cases hka : k < a.length
  · rw [decide_eq_true (show (k : Int) < (a.length : Int) by omega), inb_true (show (0 : Int) ≤ k by omega) (show (k : Int) < a.length by omega), w64 (n := (k : Int) + 1) (by omega) (by omega)]
    simp only [cond_true, bne_self_eq_false, cond_false]
    exact ih ((k : Int) + 1) ⟨k + 1, by omega, by omega⟩ (by simp only [Int.toNat_natCast]; omega)
  · rw [decide_eq_false (show ¬ (k : Int) < (a.length : Int) by omega)]; rfl
end
theorem budgetLoads_says (P : List Int) (g0 : Sh.good (.sl (.int .i64)) P) (L : List (Int × Int)) (g1 : Sh.good (.sl (.st (.pair (.int .i64) (.int .i64)))) L) (lanes : Int) (g2 : Sh.good (.int .i64) lanes) (frame : Int) (g3 : Sh.good (.int .i64) frame) :
    ∃ n, F8 n P L lanes frame = some true := by
  have hf := good_i64 g3
  have main : ∃ r, F37 2000 P L lanes frame = some r ∧ F38 2000 P L lanes frame = some r ∧ r.2.length ≤ 1000 := by
    unfold F37 F38
    rw [l39 2000 (by omega), l40 2000 (by omega)]
    simp only [Option.bind_some]
    by_cases h : chkE P L lanes = 0
    · obtain ⟨a1, a2, a3, a4, a5, a6⟩ := chk0 h
      rw [h]
      simp only [bne_self_eq_false, cond_false]
      by_cases h0 : frame < 0
      · rw [decide_eq_true h0]
        exact ⟨_, rfl, rfl, by simp⟩
      · rw [decide_eq_false h0, decide_eq_true (show 0 ≤ lanes ∧ lanes ≤ 17179869184 by omega)]
        simp only [cond_false, cond_true]
        rw [l37 2000 (by omega) h (by omega), l38 2000 (by omega) h (by omega) hf.2]
        refine ⟨_, rfl, rfl, ?_⟩
        have := all_len (P := P) (frame := frame) (show L.length ≤ 64 by omega) lanes.toNat
        simp only
        omega
    · rw [show (chkE P L lanes != 0) = true by simpa using h]
      exact ⟨_, rfl, rfl, by simp⟩
  obtain ⟨r, e1, e2, hr⟩ := main
  refine ⟨2000, ?_⟩
  unfold F8
  rw [e1, e2, l39 2000 (by omega), l40 2000 (by omega)]
  simp only [Option.bind_some, BEq.rfl, cond_true]
  rw [l25 2000 r.2 hr (by omega)]
  rfl
end Go.Proofs.Ytgcdohclbkmmdaa
