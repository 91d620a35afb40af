/- Rings of a host, in plain Lean. -/
import Derived.Test.YthololnakkpieaaSGets
namespace Go.Proofs.Ythololnakkpieaa
open Go Go.RowKit
open Classical
set_option linter.unusedVariables false

abbrev zC : Int × Int × Bool := (0, (0, false))
theorem cset (c : Cells) (i j : Nat) (v : Int × Int × Bool) (hi : i < c.length) : (c.set i v).getD j zC = if i = j then v else c.getD j zC := by
  rw [List.getD_eq_getElem?_getD, List.getElem?_set]
  by_cases h : i = j
  · subst h; simp [hi]
  · simp [h, List.getD_eq_getElem?_getD]
theorem cExt {a b : Cells} (hl : a.length = b.length) (h : ∀ k, k < a.length → a.getD k zC = b.getD k zC) : a = b := by
  refine List.ext_getElem hl fun k h1 h2 => ?_
  have := h k h1
  rw [List.getD_eq_getElem?_getD, List.getD_eq_getElem?_getD, List.getElem?_eq_getElem h1, List.getElem?_eq_getElem h2] at this
  exact this
theorem eqC (n : Nat) (a : Cells) (ha : a.length ≤ 1000000000000000) (hn : a.length + 2 < n) : F73 n a a = some true := by
  unfold F73
  simp only [bne_self_eq_false, cond_false]
  refine loopF_eq (F73_l2 n a a) (fun _ => some true) (fun x => ∃ k : Nat, x = (k : Int) ∧ k ≤ a.length) (fun x => a.length - x.toNat) ?_ n 0 ⟨0, rfl, by omega⟩ (by simp; omega)
  rintro kk x ⟨k, rfl, hk⟩ ih
  simp only [F73_l2, Int.toNat_natCast, Sh.beq_self, Bool.not_true, cond_false]
  by_cases hka : k < a.length
  · rw [decide_eq_true (show (k : Int) < (a.length : Int) by omega), inb_true (show (0 : Int) ≤ k by omega) (show (k : Int) < a.length by omega), w64 (n := (k : Int) + 1) (by omega) (by omega)]
    simp only [cond_true]
    exact ih ((k : Int) + 1) ⟨k + 1, by omega, by omega⟩ (by simp only [Int.toNat_natCast]; omega)
  · rw [decide_eq_false (show ¬ (k : Int) < (a.length : Int) by omega)]; rfl
theorem sameR (n : Nat) (a : Cells) (ha : a.length ≤ 1000000000000000) (hn : a.length + 2 < n) (x1 x2 x3 x4 x5 : Int) : F46 n a x1 x2 x3 x4 x5 a x1 x2 x3 x4 x5 = some true := by
  unfold F46
  simp only [Sh.beq_self, BEq.rfl, cond_true]
  rw [eqC n a ha hn]; rfl
theorem cpy (n : Nat) (c : Cells) (hl : c.length ≤ 1000) (a b d e f : Int) : F68 n c a b d e f = some (a, b, d, e, f, c) := by
  unfold F68 F93
  rw [List.nil_append, decide_eq_true (show ([] : Cells).length + c.length ≤ 5864062014805 by simp; omega)]; rfl
/-- a mark, gone on -/
def adv (len : Nat) (a b : Int) : Int × Int := if a + 1 = (len : Int) - 1 then (0, 1 - b) else (a + 1, b)
def putV (c : Cells) (pa pb w : Int) : Cells :=
  if pa + 1 = (c.length : Int) - 1 then (c.set pa.toNat (w, pb, false)).set (c.length - 1) ((c.getD (c.length - 1) zC).1, pb, (c.getD (c.length - 1) zC).2.2) else c.set pa.toNat (w, pb, false)
section
variable {c : Cells} {pa pb ga gb se : Int}
theorem advP (n : Nat) {a b : Int} (hl : 3 ≤ c.length ∧ c.length ≤ 64) (ha : atG c a) (hb : bit01 b) : F67 n a b ((c.length : Nat) : Int) = some (adv c.length a b) := by
  obtain ⟨a0, a1⟩ := ha
  unfold bit01 at hb
  unfold F67 adv
  rw [w64 (n := a + 1) (by omega) (by omega), w64 (n := ((c.length : Nat) : Int) - 1) (by omega) (by omega), w64 (n := 1 - b) (by omega) (by omega)]
  by_cases q : a + 1 = (c.length : Int) - 1
  · rw [show (a + 1 == ((c.length : Nat) : Int) - 1) = true from beq_iff_eq.2 q, if_pos q]; rfl
  · rw [show (a + 1 == ((c.length : Nat) : Int) - 1) = false from beq_eq_false_iff_ne.2 q, if_neg q]; rfl
theorem advR (n : Nat) {a b : Int} (hl : 3 ≤ c.length ∧ c.length ≤ 64) (ha : atG c a) (hb : bit01 b) : F52 n a b (IntKind.wrap .i64 (((c.length : Nat) : Int) - 1)) = some (adv c.length a b) := by
  obtain ⟨a0, a1⟩ := ha
  unfold bit01 at hb
  unfold F52 adv
  rw [w64 (n := a + 1) (by omega) (by omega), w64 (n := ((c.length : Nat) : Int) - 1) (by omega) (by omega), w64 (n := 1 - b) (by omega) (by omega)]
  by_cases q : a + 1 = (c.length : Int) - 1
  · rw [decide_eq_false (show ¬ a + 1 < ((c.length : Nat) : Int) - 1 by omega), if_pos q]; rfl
  · rw [decide_eq_true (show a + 1 < ((c.length : Nat) : Int) - 1 by omega), if_neg q]; rfl
theorem adv_good {a b : Int} (hl : 3 ≤ c.length ∧ c.length ≤ 64) (ha : atG c a) (hb : bit01 b) : atG c (adv c.length a b).1 ∧ bit01 (adv c.length a b).2 := by
  obtain ⟨a0, a1⟩ := ha
  unfold bit01 at hb
  unfold adv atG bit01
  split
  · exact ⟨by omega, by show 1 - b = 0 ∨ 1 - b = 1; omega⟩
  · exact ⟨by show 0 ≤ a + 1 ∧ a + 1 < (c.length : Int) - 1; omega, hb⟩
theorem putV_len (w : Int) : (putV c pa pb w).length = c.length := by
  unfold putV; split <;> simp
theorem putV_get (hl : 3 ≤ c.length ∧ c.length ≤ 64) (ha : atG c pa) (w : Int) (i : Nat) (hi : i < c.length) : (putV c pa pb w).getD i zC = if (i : Int) = pa then (w, pb, false) else if i = c.length - 1 ∧ pa = (c.length : Int) - 2 then ((c.getD i zC).1, pb, (c.getD i zC).2.2) else c.getD i zC := by
  obtain ⟨a0, a1⟩ := ha
  unfold putV
  by_cases q : pa + 1 = (c.length : Int) - 1
  · rw [if_pos q, cset _ _ i _ (by simp; omega), cset _ _ i _ (by omega)]
    by_cases q1 : c.length - 1 = i
    · rw [if_pos q1, if_neg (by omega), if_pos ⟨q1.symm, by omega⟩, q1]
    · rw [if_neg q1]
      by_cases q2 : pa.toNat = i
      · rw [if_pos q2, if_pos (by omega)]
      · rw [if_neg q2, if_neg (by omega), if_neg (fun h => q1 h.1.symm)]
  · rw [if_neg q, cset _ _ i _ (by omega)]
    by_cases q2 : pa.toNat = i
    · rw [if_pos q2, if_pos (by omega)]
    · rw [if_neg q2, if_neg (by omega), if_neg (fun h => by omega)]
/-- a word is put -/
noncomputable def putR (c : Cells) (pa pb ga gb se w : Int) : Int × Int × Int × Int × Int × Int × Cells :=
  if (adv c.length pa pb).1 = se then (0, 0, 0, 0, 0, 11, []) else ((adv c.length pa pb).1, (adv c.length pa pb).2, ga, gb, se, 0, putV c pa pb w)
theorem putP (n : Nat) (hn : 100 < n) (h : ringE c pa pb ga gb se = 0) (w : Int) : F42 n c pa pb ga gb se w = some (putR c pa pb ga gb se w) := by
  obtain ⟨hl, hg⟩ := ring0 h
  obtain ⟨hcell, h2, h3, h4, h5, h6, h7⟩ := hg
  have ha := h5
  obtain ⟨a0, a1⟩ := ha
  unfold F42 putR
  rw [g36 n hn, h, advP n hl h5 h2, cpy n c (by omega)]
  simp only [Option.bind_some, bne_self_eq_false, cond_false]
  by_cases q : (adv c.length pa pb).1 = se
  · rw [show ((adv c.length pa pb).1 == se) = true from beq_iff_eq.2 q, if_pos q]; rfl
  · rw [show ((adv c.length pa pb).1 == se) = false from beq_eq_false_iff_ne.2 q, if_neg q]
    have eO : (c.getD pa.toNat (0, (0, false))).2.2 = false := by
      have := (hcell pa.toNat (by omega)).1
      unfold cl at this
      rw [this, decide_eq_false (by omega)]
    have eG : ∀ v, (c.set pa.toNat v).getD pa.toNat (0, (0, false)) = v := fun v => by
      have := cset c pa.toNat pa.toNat v (by omega)
      rwa [if_pos rfl] at this
    have eL : ∀ v, (c.set pa.toNat v).getD (c.length - 1) (0, (0, false)) = c.getD (c.length - 1) zC := fun v => by
      have := cset c pa.toNat (c.length - 1) v (by omega)
      rwa [if_neg (by omega)] at this
    simp only [cond_false, List.length_set, eG, List.set_set, eO, F42_j2]
    rw [inb_true (show (0 : Int) ≤ pa by omega) (show pa < (c.length : Nat) by omega)]
    simp only [cond_true]
    rw [w64 (n := ((c.length : Nat) : Int) - 2) (by omega) (by omega), w64 (n := ((c.length : Nat) : Int) - 1) (by omega) (by omega)]
    unfold putV
    by_cases q2 : pa + 1 = (c.length : Int) - 1
    · rw [show (pa == ((c.length : Nat) : Int) - 2) = true by rw [beq_iff_eq]; omega, inb_true (show (0 : Int) ≤ ((c.length : Nat) : Int) - 1 by omega) (show ((c.length : Nat) : Int) - 1 < (c.length : Nat) by omega), if_pos q2, show (((c.length : Nat) : Int) - 1).toNat = c.length - 1 by omega, eL]
      rfl
    · rw [show (pa == ((c.length : Nat) : Int) - 2) = false by rw [beq_eq_false_iff_ne]; omega, if_neg q2]; rfl
theorem putD (n : Nat) (hn : 100 < n) (h : ringE c pa pb ga gb se = 0) (w : Int) : F45 n c pa pb ga gb se w = some (putR c pa pb ga gb se w) := by
  obtain ⟨hl, hg⟩ := ring0 h
  obtain ⟨hcell, h2, h3, h4, h5, h6, h7⟩ := hg
  have ha := h5
  obtain ⟨a0, a1⟩ := ha
  unfold F45 putR
  rw [g37 n hn, h, advR n hl h5 h2]
  simp only [Option.bind_some, bne_self_eq_false, cond_false]
  by_cases q : (adv c.length pa pb).1 = se
  · rw [show ((adv c.length pa pb).1 == se) = true from beq_iff_eq.2 q, if_pos q]; rfl
  · rw [show ((adv c.length pa pb).1 == se) = false from beq_eq_false_iff_ne.2 q, if_neg q]
    simp only [cond_false]
    refine loopF_eq (F45_l12 n c pa pb ga gb se w (adv c.length pa pb)) (fun _ => some ((adv c.length pa pb).1, (adv c.length pa pb).2, ga, gb, se, 0, putV c pa pb w)) (fun d => ∃ k : Nat, k ≤ c.length ∧ d = ((k : Int), (putV c pa pb w).take k)) (fun d => c.length - d.1.toNat) ?_ n _ ⟨0, by omega, by simp⟩ (by simp; omega)
    rintro kk d ⟨k, hk, rfl⟩ ih
    simp only [F45_l12, F45_j13, F45_j14, Int.toNat_natCast]
    have hpl := putV_len (c := c) (pa := pa) (pb := pb) w
    by_cases hk2 : k < c.length
    · have hnx : (putV c pa pb w).take k ++ [(putV c pa pb w).getD k zC] = (putV c pa pb w).take (k + 1) := by
        rw [List.take_succ_eq_append_getElem (by omega), List.getD_eq_getElem?_getD, List.getElem?_eq_getElem (by omega)]; rfl
      have hgt := putV_get (pb := pb) hl h5 w k hk2
      have htl : ((putV c pa pb w).take k).length = k := by rw [List.length_take]; omega
      have go : ∀ v : Int × Int × Bool, v = (putV c pa pb w).getD k zC → (bif decide (((putV c pa pb w).take k).length + [v].length ≤ 5864062014805) then kk (IntKind.wrap .i64 ((k : Int) + 1), (putV c pa pb w).take k ++ [v]) else none) = some ((adv c.length pa pb).1, (adv c.length pa pb).2, ga, gb, se, 0, putV c pa pb w) := by
        intro v hv
        rw [decide_eq_true (show ((putV c pa pb w).take k).length + [v].length ≤ 5864062014805 by rw [htl]; simp; omega), hv, hnx, w64 (by omega) (by omega)]
        exact ih _ ⟨k + 1, by omega, by simp⟩ (by simp only [Int.toNat_natCast]; omega)
      rw [decide_eq_true (show (k : Int) < ((c.length : Nat) : Int) by omega), inb_true (show (0 : Int) ≤ k by omega) (show (k : Int) < (c.length : Nat) by omega), w64 (n := ((c.length : Nat) : Int) - 1) (by omega) (by omega), w64 (n := ((c.length : Nat) : Int) - 2) (by omega) (by omega)]
      simp only [cond_true]
      by_cases q1 : (k : Int) = pa
      · rw [if_pos q1] at hgt
        rw [show ((k : Int) == pa) = true from beq_iff_eq.2 q1]
        simp only [cond_true]
        rw [show ((k : Int) == ((c.length : Nat) : Int) - 1) = false by rw [beq_eq_false_iff_ne]; omega]
        simp only [cond_false]
        exact go _ hgt.symm
      · rw [if_neg q1] at hgt
        rw [show ((k : Int) == pa) = false from beq_eq_false_iff_ne.2 q1]
        simp only [cond_false]
        by_cases q2 : k = c.length - 1
        · rw [show ((k : Int) == ((c.length : Nat) : Int) - 1) = true by rw [beq_iff_eq]; omega]
          simp only [cond_true]
          by_cases q3 : pa = (c.length : Int) - 2
          · rw [show (pa == ((c.length : Nat) : Int) - 2) = true by rw [beq_iff_eq]; omega]
            rw [if_pos ⟨q2, q3⟩] at hgt
            exact go _ hgt.symm
          · rw [show (pa == ((c.length : Nat) : Int) - 2) = false by rw [beq_eq_false_iff_ne]; omega]
            rw [if_neg (fun h => q3 h.2)] at hgt
            exact go _ hgt.symm
        · rw [show ((k : Int) == ((c.length : Nat) : Int) - 1) = false by rw [beq_eq_false_iff_ne]; omega]
          rw [if_neg (fun h => q2 h.1)] at hgt
          exact go _ hgt.symm
    · obtain rfl : k = c.length := by omega
      rw [decide_eq_false (by omega), List.take_of_length_le (by omega)]; rfl
theorem ringE0 (h1 : 3 ≤ c.length ∧ c.length ≤ 64) (h2 : goodR c pa pb ga gb se) : ringE c pa pb ga gb se = 0 := by
  unfold ringE
  rw [if_neg (fun h => h h1), if_pos h2]
theorem putV_good (h : ringE c pa pb ga gb se = 0) (w : Int) : ringE (putV c pa pb w) (adv c.length pa pb).1 (adv c.length pa pb).2 ga gb se = 0 := by
  obtain ⟨hl, hg⟩ := ring0 h
  obtain ⟨hcell, h2, h3, h4, h5, h6, h7⟩ := hg
  have hpl := putV_len (c := c) (pa := pa) (pb := pb) w
  have hag := adv_good hl h5 h2
  have at' : ∀ x, atG c x → atG (putV c pa pb w) x := fun x hx => by unfold atG at *; rw [hpl]; exact hx
  have hpa := h5
  obtain ⟨a0, a1⟩ := hpa
  refine ringE0 (by rw [hpl]; exact hl) ⟨fun i hi => ?_, hag.2, h3, ?_, at' _ hag.1, at' _ h6, at' _ h7⟩
  · rw [hpl] at hi
    have hgt := putV_get (pb := pb) hl h5 w i hi
    have hc := hcell i hi
    unfold cellG cl cb at *
    have hgt' : (putV c pa pb w).getD i (0, (0, false)) = _ := hgt
    rw [hgt', hpl]
    by_cases q1 : (i : Int) = pa
    · rw [if_pos q1]; exact ⟨by rw [decide_eq_false (by omega)], h2⟩
    · rw [if_neg q1]
      split
      · exact ⟨hc.1, h2⟩
      · exact hc
  · have hgt := putV_get (pb := pb) hl h5 w (c.length - 1) (by omega)
    unfold cw at *
    rw [hpl]
    have hgt' : (putV c pa pb w).getD (c.length - 1) (0, (0, false)) = _ := hgt
    rw [hgt', if_neg (by omega)]
    split
    · exact h4
    · exact h4
/-- a word is got -/
noncomputable def getR (c : Cells) (pa pb ga gb se : Int) : Int × Int × Int × Int × Int × Int × Bool × Int × Cells :=
  if cb c ga.toNat = gb then (pa, pb, (adv c.length ga gb).1, (adv c.length ga gb).2, se, cw c ga.toNat, true, 0, c) else (pa, pb, ga, gb, se, 0, false, 0, c)
theorem getP (n : Nat) (hn : 100 < n) (h : ringE c pa pb ga gb se = 0) : F47 n c pa pb ga gb se = some (getR c pa pb ga gb se) := by
  obtain ⟨hl, hg⟩ := ring0 h
  obtain ⟨hcell, h2, h3, h4, h5, h6, h7⟩ := hg
  have ha := h6
  obtain ⟨a0, a1⟩ := ha
  unfold F47 getR
  rw [g36 n hn, h, cpy n c (by omega)]
  simp only [Option.bind_some, bne_self_eq_false, cond_false]
  rw [inb_true (show (0 : Int) ≤ ga by omega) (show ga < (c.length : Nat) by omega), advP n hl h6 h3]
  simp only [cond_true, Option.bind_some]
  by_cases q : cb c ga.toNat = gb
  · rw [if_pos q, show ((c.getD ga.toNat (0, (0, false))).2.1 != gb) = false from bne_eq_false_iff_eq.2 q]; rfl
  · rw [if_neg q, show ((c.getD ga.toNat (0, (0, false))).2.1 != gb) = true from bne_iff_ne.2 q]; rfl
theorem getG (h : ringE c pa pb ga gb se = 0) : ringE c pa pb (adv c.length ga gb).1 (adv c.length ga gb).2 se = 0 := by
  obtain ⟨hl, hg⟩ := ring0 h
  obtain ⟨hcell, h2, h3, h4, h5, h6, h7⟩ := hg
  have hag := adv_good hl h6 h3
  exact ringE0 hl ⟨hcell, h2, hag.2, h4, h5, hag.1, h7⟩
theorem learnP (n : Nat) (hn : 100 < n) (h : ringE c pa pb ga gb se = 0) : F53 n c pa pb ga gb se = some (pa, pb, ga, gb, ga, 0, c) := by
  obtain ⟨hl, _⟩ := ring0 h
  unfold F53
  rw [g36 n hn, h, cpy n c (by omega)]; rfl
end
end Go.Proofs.Ythololnakkpieaa
