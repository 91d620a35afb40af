/- ReadConfig: the document's way, walked on values; both the same. -/
import Derived.Test.YtghbnolfadnoaaaGreatSRdB
namespace Go.Proofs.YtghbnolfadnoaaaGreat
open Go Go.RowKit
set_option linter.unusedVariables false
def errR : Int × Int × Int × Int × Int × List CFace := (0, 0, 0, 0, 4, [])
theorem tm128 (d : CTx) : (pb d 2).tmod 128 = pb d 2 % 128 := by
 have := pb_in d 2
 rw [Int.tmod_eq_emod_of_nonneg this.1]
section
variable (n : Nat) (K : List CTx × Int × List CFace → Option (Int × Int × Int × Int × Int × List CFace)) (h : CTx) (t : List CTx) (i : Nat) (Fs0 : List CFace) (X : List CTx)
def goOn (r : List CTx) (E : List CEnd) : Option (Int × Int × Int × Int × Int × List CFace) :=
 K (r, ((i + 1 : Nat) : Int), Fs0 ++ [(pb h 5, pb h 6, pb h 7, pb h 8, X, E)])
theorem endsLoop (hi : i ≤ 10) (hF : Fs0.length ≤ 10) : ∀ (k : Nat) (r : List CTx) (j m : Nat) (E : List CEnd), pb h 4 = ((j + k : Nat) : Int) → (∀ d ∈ r, GoodP d) → r.length < m → E.length ≤ j →
  loopF (F83_l155 n K (h :: t) (i : Int) Fs0 X) m (r, (j : Int), E) = match ends k r with
   | none => some errR
   | some (E', r') => goOn K h i Fs0 X r' (E ++ E')
 | k, r, j, 0, E, _, _, hm, _ => by omega
 | 0, r, j, m + 1, E, hk, hg, hm, hE => by
  have hb := pb_in h 4
  have hnot : ¬ (j : Int) < pb h 4 := by omega
  have hc : decide (Fs0.length + [((pb h 5, pb h 6, pb h 7, pb h 8, X, E) : CFace)].length ≤ 1759218604441) = true := decide_eq_true (by simp; omega)
  have hw : IntKind.wrap .i64 ((i : Int) + 1) = ((i + 1 : Nat) : Int) := by rw [w64 (by omega) (by omega)]; omega
  simp only [loopF, F83_l155, List.getD_cons_zero, wpb, wpb2, decide_eq_false hnot, cond_false, hc, cond_true, hw, ends, goOn, List.append_nil]
 | k + 1, [], j, m + 1, E, hk, hg, hm, hE => by
  have hlt : (j : Int) < pb h 4 := by omega
  simp only [loopF, F83_l155, List.getD_cons_zero, wpb, wpb2, decide_eq_true hlt, cond_true, ends]
  rfl
 | k + 1, d :: r, j, m + 1, E, hk, hg, hm, hE => by
  have hb := pb_in h 4
  have hlt : (j : Int) < pb h 4 := by omega
  have hd2 := (hg d (List.mem_cons_self ..)).1
  simp only [List.length_cons] at hm
  have ne0 : ((((d :: r).length : Nat) : Int) == 0) = false := beq_eq_false_iff_ne.2 (by simp only [List.length_cons]; omega)
  simp only [loopF, F83_l155, List.getD_cons_zero, wpb, wpb2, decide_eq_true hlt, cond_true, ne0, cond_false, inb_true (show (0 : Int) ≤ 0 by omega) (show (0 : Int) < (((d :: r).length : Nat) : Int) by simp only [List.length_cons]; omega), epb, inb_true (show (0 : Int) ≤ 1 by omega) (show (1 : Int) < ((d.length : Nat) : Int) by omega), ends]
  have bad : F83_j156 n (loopF (F83_l155 n K (h :: t) (i : Int) Fs0 X) m) (d :: r) (j : Int) E true = some errR := rfl
  by_cases h7 : d.length = 7
  case neg =>
   rw [show (((d.length : Nat) : Int) != 7) = true from bne_iff_ne.2 (by omega), if_neg (fun q => h7 q.1)]
   exact bad
  by_cases h5 : pb d 1 = 5
  case neg =>
   rw [show (((d.length : Nat) : Int) != 7) = false from bne_eq_false_iff_eq.2 (by omega), show (pb d 1 != 5) = true from bne_iff_ne.2 h5, if_neg (fun q => h5 q.2)]
   exact bad
  rw [show (((d.length : Nat) : Int) != 7) = false from bne_eq_false_iff_eq.2 (by omega), show (pb d 1 != 5) = false from bne_eq_false_iff_eq.2 h5, if_pos ⟨h7, h5⟩]
  have w4 := wdR n d 4 (by omega) (by omega)
  simp only [Int.cast_ofNat_Int] at w4
  have hcE : ∀ v : CEnd, decide (E.length + [v].length ≤ 3518437208883) = true := fun v => decide_eq_true (by simp; omega)
  have hwj : IntKind.wrap .i64 ((j : Int) + 1) = ((j + 1 : Nat) : Int) := by rw [w64 (by omega) (by omega)]; omega
  simp only [cond_false, F83_j156, List.getD_cons_zero, wpb, wpb2, epb, w4, Option.bind_some, tm128, hcE, hwj, cond_true, inb_true (show (0 : Int) ≤ 0 by omega) (show (0 : Int) < (((d :: r).length : Nat) : Int) by simp only [List.length_cons]; omega), inb_true (show (0 : Int) ≤ 2 by omega) (show (2 : Int) < ((d.length : Nat) : Int) by omega), inb_true (show (0 : Int) ≤ 3 by omega) (show (3 : Int) < ((d.length : Nat) : Int) by omega), inb_true (show (0 : Int) ≤ 6 by omega) (show (6 : Int) < ((d.length : Nat) : Int) by omega),
   show subB (d :: r).length (some 1) none = true by simp [subB]; omega, List.drop_succ_cons, List.drop_zero]
  have ih := endsLoop hi hF k r (j + 1) m (E ++ [endV d]) (by omega) (fun x hx => hg x (List.mem_cons_of_mem _ hx)) (by omega) (by simp; omega)
  refine Eq.trans ih ?_
  cases ends k r with
  | none => rfl
  | some v => simp
theorem endsLoop2 (hi : i ≤ 10) (hF : Fs0.length ≤ 10) : ∀ (k : Nat) (r : List CTx) (j m : Nat) (E : List CEnd), pb h 4 = ((j + k : Nat) : Int) → (∀ d ∈ r, GoodP d) → r.length < m → E.length ≤ j →
  loopF (F83_l159 n K (h :: t) (i : Int) Fs0 X) m (r, (j : Int), E) = match ends k r with
   | none => some errR
   | some (E', r') => goOn K h i Fs0 X r' (E ++ E')
 | k, r, j, 0, E, _, _, hm, _ => by omega
 | 0, r, j, m + 1, E, hk, hg, hm, hE => by
  have hb := pb_in h 4
  have hnot : ¬ (j : Int) < pb h 4 := by omega
  have hc : decide (Fs0.length + [((pb h 5, pb h 6, pb h 7, pb h 8, X, E) : CFace)].length ≤ 1759218604441) = true := decide_eq_true (by simp; omega)
  have hw : IntKind.wrap .i64 ((i : Int) + 1) = ((i + 1 : Nat) : Int) := by rw [w64 (by omega) (by omega)]; omega
  simp only [loopF, F83_l159, List.getD_cons_zero, wpb, wpb2, decide_eq_false hnot, cond_false, hc, cond_true, hw, ends, goOn, List.append_nil]
 | k + 1, [], j, m + 1, E, hk, hg, hm, hE => by
  have hlt : (j : Int) < pb h 4 := by omega
  simp only [loopF, F83_l159, List.getD_cons_zero, wpb, wpb2, decide_eq_true hlt, cond_true, ends]
  rfl
 | k + 1, d :: r, j, m + 1, E, hk, hg, hm, hE => by
  have hb := pb_in h 4
  have hlt : (j : Int) < pb h 4 := by omega
  have hd2 := (hg d (List.mem_cons_self ..)).1
  simp only [List.length_cons] at hm
  have ne0 : ((((d :: r).length : Nat) : Int) == 0) = false := beq_eq_false_iff_ne.2 (by simp only [List.length_cons]; omega)
  simp only [loopF, F83_l159, List.getD_cons_zero, wpb, wpb2, decide_eq_true hlt, cond_true, ne0, cond_false, inb_true (show (0 : Int) ≤ 0 by omega) (show (0 : Int) < (((d :: r).length : Nat) : Int) by simp only [List.length_cons]; omega), epb, inb_true (show (0 : Int) ≤ 1 by omega) (show (1 : Int) < ((d.length : Nat) : Int) by omega), ends]
  have bad : F83_j160 n (loopF (F83_l159 n K (h :: t) (i : Int) Fs0 X) m) (d :: r) (j : Int) E true = some errR := rfl
  by_cases h7 : d.length = 7
  case neg =>
   rw [show (((d.length : Nat) : Int) != 7) = true from bne_iff_ne.2 (by omega), if_neg (fun q => h7 q.1)]
   exact bad
  by_cases h5 : pb d 1 = 5
  case neg =>
   rw [show (((d.length : Nat) : Int) != 7) = false from bne_eq_false_iff_eq.2 (by omega), show (pb d 1 != 5) = true from bne_iff_ne.2 h5, if_neg (fun q => h5 q.2)]
   exact bad
  rw [show (((d.length : Nat) : Int) != 7) = false from bne_eq_false_iff_eq.2 (by omega), show (pb d 1 != 5) = false from bne_eq_false_iff_eq.2 h5, if_pos ⟨h7, h5⟩]
  have w4 := wdR n d 4 (by omega) (by omega)
  simp only [Int.cast_ofNat_Int] at w4
  have hcE : ∀ v : CEnd, decide (E.length + [v].length ≤ 3518437208883) = true := fun v => decide_eq_true (by simp; omega)
  have hwj : IntKind.wrap .i64 ((j : Int) + 1) = ((j + 1 : Nat) : Int) := by rw [w64 (by omega) (by omega)]; omega
  simp only [cond_false, F83_j160, List.getD_cons_zero, wpb, wpb2, epb, w4, Option.bind_some, tm128, hcE, hwj, cond_true, inb_true (show (0 : Int) ≤ 0 by omega) (show (0 : Int) < (((d :: r).length : Nat) : Int) by simp only [List.length_cons]; omega), inb_true (show (0 : Int) ≤ 2 by omega) (show (2 : Int) < ((d.length : Nat) : Int) by omega), inb_true (show (0 : Int) ≤ 3 by omega) (show (3 : Int) < ((d.length : Nat) : Int) by omega), inb_true (show (0 : Int) ≤ 6 by omega) (show (6 : Int) < ((d.length : Nat) : Int) by omega),
   show subB (d :: r).length (some 1) none = true by simp [subB]; omega, List.drop_succ_cons, List.drop_zero]
  have ih := endsLoop2 hi hF k r (j + 1) m (E ++ [endV d]) (by omega) (fun x hx => hg x (List.mem_cons_of_mem _ hx)) (by omega) (by simp; omega)
  refine Eq.trans ih ?_
  cases ends k r with
  | none => rfl
  | some v => simp
theorem extsLoop (hn : 700 < n) (hi : i ≤ 10) (hF : Fs0.length ≤ 10) : ∀ (r : List CTx) (m : Nat) (X : List CTx), (∀ d ∈ r, GoodP d) → r.length < m → r.length ≤ 600 → X.length + r.length ≤ 1000 →
  loopF (F83_l152 n K (h :: t) (i : Int) Fs0) m (r, X) = match ends (pb h 4).toNat (exts r).2 with
   | none => some errR
   | some (E', r') => goOn K h i Fs0 (X ++ (exts r).1) r' E'
 | r, 0, X, _, hm, _, _ => by omega
 | [], m + 1, X, hg, hm, h6, hX => by
  have hb := pb_in h 4
  simp only [loopF, F83_l152, List.length_nil]
  rw [show decide (((0 : Nat) : Int) > 0) = false from rfl]
  simp only [cond_false, exts, List.append_nil]
  have := endsLoop2 n K h t i Fs0 X hi hF (pb h 4).toNat [] 0 n [] (by omega) (fun d hd' => by cases hd') (by simp; omega) (by simp)
  exact this
 | d :: r, m + 1, X, hg, hm, h6, hX => by
  have hb := pb_in h 4
  have hd2 := (hg d (List.mem_cons_self ..)).1
  simp only [List.length_cons] at hm h6 hX
  simp only [loopF, F83_l152, List.getD_cons_zero, decide_eq_true (show (((d :: r).length : Nat) : Int) > 0 by simp only [List.length_cons]; omega), cond_true, inb_true (show (0 : Int) ≤ 0 by omega) (show (0 : Int) < (((d :: r).length : Nat) : Int) by simp only [List.length_cons]; omega), epb, inb_true (show (0 : Int) ≤ 1 by omega) (show (1 : Int) < ((d.length : Nat) : Int) by omega),
   show subB (d :: r).length (some 1) none = true by simp [subB]; omega, List.drop_succ_cons, List.drop_zero, exts]
  by_cases q : pb d 1 > 5
  ·rw [decide_eq_true q, if_pos q]
   have hc : decide (X.length + [d].length ≤ 8796093022208) = true := decide_eq_true (by simp; omega)
   simp only [cond_true, hc]
   have ih := extsLoop hn hi hF r m (X ++ [d]) (fun x hx => hg x (List.mem_cons_of_mem _ hx)) (by omega) (by omega) (by simp; omega)
   refine Eq.trans ih ?_
   cases ends (pb h 4).toNat (exts r).2 with
   | none => rfl
   | some v => simp
  ·rw [decide_eq_false q, if_neg q]
   simp only [cond_false, List.append_nil]
   have := endsLoop n K h t i Fs0 X hi hF (pb h 4).toNat (d :: r) 0 n [] (by omega) hg (by simp only [List.length_cons]; omega) (by simp)
   exact this
end
def endR (h : CTx) (Fs : List CFace) (r : List CTx) : Int × Int × Int × Int × Int × List CFace :=
 if (confV (pb h 5) (pb h 6) (pb h 7) (pb h 8) Fs).2 = 0 ∧ r = [] then (pb h 5, pb h 6, pb h 7, pb h 8, 0, Fs) else errR
section
variable (n : Nat) (y : Int × List CTx)
theorem ends_sub : ∀ (k : Nat) (l : List CTx) (E : List CEnd) (r : List CTx), ends k l = some (E, r) → ∃ p, l = p ++ r
 | 0, l, E, r, h => by
  simp only [ends, Option.some.injEq, Prod.mk.injEq] at h
  exact ⟨[], by rw [h.2]; rfl⟩
 | k + 1, [], E, r, h => by cases h
 | k + 1, d :: l, E, r, h => by
  unfold ends at h
  split at h
  ·simp only [Option.map_eq_some_iff] at h
   obtain ⟨⟨E', r'⟩, h1, h2⟩ := h
   simp only [Prod.mk.injEq] at h2
   obtain ⟨p, hp⟩ := ends_sub k l E' r' h1
   exact ⟨d :: p, by rw [hp, h2.2]; rfl⟩
  ·cases h
theorem facesLoop (hn : 2000 < n) : ∀ (c : Nat) (l : List CTx) (i m : Nat) (Fs : List CFace), pb (y.2.getD 0 []) 4 = ((i + c : Nat) : Int) → i + c ≤ 4 → (∀ d ∈ l, GoodP d) → l.length ≤ 600 → c < m → Fs.length = i →
  loopF (F83_l134 n y) m (l, (i : Int), Fs) = some (match parseF c i l with
   | none => errR
   | some (Fs', r) => endR (y.2.getD 0 []) (Fs ++ Fs') r)
 | c, l, i, 0, Fs, _, _, _, _, hm, _ => by omega
 | 0, l, i, m + 1, Fs, hc, h4, hg, h6, hm, hF => by
  have hnot : ¬ (i : Int) < pb (y.2.getD 0 []) 4 := by omega
  simp only [loopF, F83_l134, wpb, wpb2, decide_eq_false hnot, cond_false, parseF]
  rw [confR n (by omega)]
  simp only [Option.bind_some, endR, List.append_nil]
  by_cases he : (confV (pb (y.2.getD 0 []) 5) (pb (y.2.getD 0 []) 6) (pb (y.2.getD 0 []) 7) (pb (y.2.getD 0 []) 8) Fs).2 = 0
  case neg =>
   rw [show ((confV (pb (y.2.getD 0 []) 5) (pb (y.2.getD 0 []) 6) (pb (y.2.getD 0 []) 7) (pb (y.2.getD 0 []) 8) Fs).2 != 0) = true from bne_iff_ne.2 he, if_neg (fun q => he q.1)]
   rfl
  rw [show ((confV (pb (y.2.getD 0 []) 5) (pb (y.2.getD 0 []) 6) (pb (y.2.getD 0 []) 7) (pb (y.2.getD 0 []) 8) Fs).2 != 0) = false from bne_eq_false_iff_eq.2 he]
  cases l with
  | nil =>
   rw [if_pos ⟨he, rfl⟩]
   rfl
  | cons d l =>
   rw [if_neg (fun q => by cases q.2), decide_eq_true (show (((d :: l).length : Nat) : Int) > 0 by simp only [List.length_cons]; omega)]
   rfl
 | c + 1, [], i, m + 1, Fs, hc, h4, hg, h6, hm, hF => by
  have hlt : (i : Int) < pb (y.2.getD 0 []) 4 := by omega
  simp only [loopF, F83_l134, wpb, wpb2, decide_eq_true hlt, cond_true, parseF]
  rfl
 | c + 1, d :: l, i, m + 1, Fs, hc, h4, hg, h6, hm, hF => by
  have hlt : (i : Int) < pb (y.2.getD 0 []) 4 := by omega
  have hd2 := (hg d (List.mem_cons_self ..)).1
  simp only [List.length_cons] at h6
  have ne0 : ((((d :: l).length : Nat) : Int) == 0) = false := beq_eq_false_iff_ne.2 (by simp only [List.length_cons]; omega)
  simp only [loopF, F83_l134, List.getD_cons_zero, wpb, wpb2, decide_eq_true hlt, cond_true, ne0, cond_false, inb_true (show (0 : Int) ≤ 0 by omega) (show (0 : Int) < (((d :: l).length : Nat) : Int) by simp only [List.length_cons]; omega), epb, inb_true (show (0 : Int) ≤ 1 by omega) (show (1 : Int) < ((d.length : Nat) : Int) by omega), parseF]
  have bad : F83_j135 n (loopF (F83_l134 n y) m) (d :: l) (i : Int) Fs true = some errR := rfl
  by_cases h9 : d.length = 9
  case neg =>
   rw [show (((d.length : Nat) : Int) != 9) = true from bne_iff_ne.2 (by omega), if_neg (fun q => h9 q.1)]
   exact bad
  rw [show (((d.length : Nat) : Int) != 9) = false from bne_eq_false_iff_eq.2 (by omega)]
  simp only [cond_false]
  by_cases q4 : pb d 1 = 4
  case neg =>
   rw [show (pb d 1 != 4) = true from bne_iff_ne.2 q4, if_neg (fun q => q4 q.2.1)]
   exact bad
  rw [show (pb d 1 != 4) = false from bne_eq_false_iff_eq.2 q4, inb_true (show (0 : Int) ≤ 2 by omega) (show (2 : Int) < ((d.length : Nat) : Int) by omega)]
  simp only [cond_false, cond_true]
  by_cases q2 : pb d 2 = (i : Int)
  case neg =>
   rw [show (pb d 2 != (i : Int)) = true from bne_iff_ne.2 q2, if_neg (fun q => q2 q.2.2.1)]
   exact bad
  rw [show (pb d 2 != (i : Int)) = false from bne_eq_false_iff_eq.2 q2, inb_true (show (0 : Int) ≤ 3 by omega) (show (3 : Int) < ((d.length : Nat) : Int) by omega)]
  simp only [cond_false, cond_true]
  by_cases q3 : pb d 3 = 0
  case neg =>
   rw [show (pb d 3 != 0) = true from bne_iff_ne.2 q3, if_neg (fun q => q3 q.2.2.2)]
   exact bad
  rw [show (pb d 3 != 0) = false from bne_eq_false_iff_eq.2 q3, if_pos ⟨h9, q4, q2, q3⟩]
  simp only [F83_j135, List.getD_cons_zero, cond_false, cond_true, inb_true (show (0 : Int) ≤ 0 by omega) (show (0 : Int) < (((d :: l).length : Nat) : Int) by simp only [List.length_cons]; omega), inb_true (show (0 : Int) ≤ 5 by omega) (show (5 : Int) < ((d.length : Nat) : Int) by omega), inb_true (show (0 : Int) ≤ 6 by omega) (show (6 : Int) < ((d.length : Nat) : Int) by omega), inb_true (show (0 : Int) ≤ 7 by omega) (show (7 : Int) < ((d.length : Nat) : Int) by omega), inb_true (show (0 : Int) ≤ 8 by omega) (show (8 : Int) < ((d.length : Nat) : Int) by omega), inb_true (show (0 : Int) ≤ 4 by omega) (show (4 : Int) < ((d.length : Nat) : Int) by omega),
   show subB (d :: l).length (some 1) none = true by simp [subB]; omega, List.drop_succ_cons, List.drop_zero]
  have hgl : ∀ x ∈ l, GoodP x := fun x hx => hg x (List.mem_cons_of_mem _ hx)
  have hx := extsLoop n (loopF (F83_l134 n y) m) d l i Fs (by omega) (by omega) (by omega) l n [] hgl (by omega) (by omega) (by simp; omega)
  refine Eq.trans hx ?_
  cases he : ends (pb d 4).toNat (exts l).2 with
  | none => rfl
  | some v =>
   obtain ⟨E', r'⟩ := v
   have hl := exts_eq l
   obtain ⟨p, hp⟩ := ends_sub _ _ _ _ he
   have hgr : ∀ x ∈ r', GoodP x := fun x hx => hgl x (by rw [hl]; exact List.mem_append.2 (.inr (by rw [hp]; exact List.mem_append.2 (.inr hx))))
   have hlr : r'.length ≤ 600 := by
    have e1 := congrArg List.length hl
    have e2 := congrArg List.length hp
    simp only [List.length_append] at e1 e2
    omega
   simp only [goOn, List.nil_append]
   have ih := facesLoop hn c r' (i + 1) m (Fs ++ [(pb d 5, pb d 6, pb d 7, pb d 8, (exts l).1, E')]) (by omega) (by omega) hgr hlr (by omega) (by simp [hF])
   refine Eq.trans ih ?_
   cases parseF c (i + 1) r' with
   | none => rfl
   | some w => simp
end
def rdR (s : CTx) : Int × Int × Int × Int × Int × List CFace :=
 if (spV s).1 ≠ 0 then (0, 0, 0, 0, (spV s).1, []) else
 match (spV s).2 with
 | [] => errR
 | h :: ds => if h.length = 9 ∧ pb h 1 = 2 ∧ pb h 2 + 256 * pb h 3 = (s.length : Int) ∧ pb h 4 ≤ 4 then (match parseF (pb h 4).toNat 0 ds with
   | none => errR
   | some (Fs, r) => endR h Fs r) else errR
theorem readR (n : Nat) (hn : 2000 < n) (s : CTx) : F83 n s = some (rdR s) := by
 unfold F83 rdR
 rw [splR n (by omega) s]
 simp only [Option.bind_some]
 by_cases h0 : (spV s).1 = 0
 case neg =>
  rw [show ((spV s).1 != 0) = true from bne_iff_ne.2 h0, if_pos h0]
  rfl
 rw [show ((spV s).1 != 0) = false from bne_eq_false_iff_eq.2 h0, if_neg (by simpa using h0)]
 obtain ⟨g1, g2, g3, g4⟩ := spV_parts h0
 have bad : F83_j81 n (spV s) true = some errR := rfl
 cases hl : (spV s).2 with
 | nil => exact bad
 | cons h ds =>
  rw [hl] at g1 g3
  simp only [List.length_cons] at g3
  have hb := pb_in h 4
  have hd2 := (g1 h (List.mem_cons_self ..)).1
  have ne0 : ((((h :: ds).length : Nat) : Int) == 0) = false := beq_eq_false_iff_ne.2 (by simp only [List.length_cons]; omega)
  have i0 : inb 0 (h :: ds).length = true := inb_true (by omega) (by simp only [List.length_cons]; omega)
  simp only [cond_false, List.getD_cons_zero, ne0, i0, cond_true, epb, wpb, wpb2]
  by_cases h9 : h.length = 9
  case neg =>
   rw [show (((h.length : Nat) : Int) != 9) = true from bne_iff_ne.2 (by omega), if_neg (fun q => h9 q.1)]
   exact bad
  rw [show (((h.length : Nat) : Int) != 9) = false from bne_eq_false_iff_eq.2 (by omega), inb_true (show (0 : Int) ≤ 1 by omega) (show (1 : Int) < ((h.length : Nat) : Int) by omega)]
  simp only [cond_false, cond_true]
  by_cases q1 : pb h 1 = 2
  case neg =>
   rw [show (pb h 1 != 2) = true from bne_iff_ne.2 q1, if_neg (fun q => q1 q.2.1)]
   exact bad
  have w2 := wdR n h 2 (by omega) (by omega)
  simp only [Int.cast_ofNat_Int] at w2
  rw [show (pb h 1 != 2) = false from bne_eq_false_iff_eq.2 q1, w2]
  simp only [cond_false, Option.bind_some]
  by_cases q2 : pb h 2 + 256 * pb h 3 = (s.length : Int)
  case neg =>
   rw [show (pb h 2 + 256 * pb h (2 + 1) != ((s.length : Nat) : Int)) = true from bne_iff_ne.2 q2, if_neg (fun q => q2 q.2.2.1)]
   exact bad
  rw [show (pb h 2 + 256 * pb h (2 + 1) != ((s.length : Nat) : Int)) = false from bne_eq_false_iff_eq.2 q2, inb_true (show (0 : Int) ≤ 4 by omega) (show (4 : Int) < ((h.length : Nat) : Int) by omega)]
  simp only [cond_false, cond_true]
  by_cases q4 : pb h 4 ≤ 4
  case neg =>
   rw [decide_eq_true (show pb h 4 > 4 by omega), if_neg (fun q => q4 q.2.2.2)]
   exact bad
  rw [decide_eq_false (show ¬ pb h 4 > 4 by omega), if_pos ⟨h9, q1, q2, q4⟩]
  have hy : (spV s).2.getD 0 [] = h := by rw [hl]; rfl
  simp only [F83_j81, hl, List.getD_cons_zero, cond_false, i0, cond_true, inb_true (show (0 : Int) ≤ 5 by omega) (show (5 : Int) < ((h.length : Nat) : Int) by omega), inb_true (show (0 : Int) ≤ 6 by omega) (show (6 : Int) < ((h.length : Nat) : Int) by omega), inb_true (show (0 : Int) ≤ 7 by omega) (show (7 : Int) < ((h.length : Nat) : Int) by omega), inb_true (show (0 : Int) ≤ 8 by omega) (show (8 : Int) < ((h.length : Nat) : Int) by omega), inb_true (show (0 : Int) ≤ 4 by omega) (show (4 : Int) < ((h.length : Nat) : Int) by omega),
   show subB (h :: ds).length (some 1) none = true by simp [subB]; omega, List.drop_succ_cons, List.drop_zero]
  have := facesLoop n (spV s) hn (pb h 4).toNat ds 0 n [] (by rw [hy]; omega) (by omega) (fun d hd' => g1 d (List.mem_cons_of_mem _ hd')) (by omega) (by omega) rfl
  rw [hy] at this
  simp only [List.nil_append] at this
  exact this
theorem rd_same (s : CTx) : rdR s = ((rdP s).1, (rdP s).2.1, (rdP s).2.2.1, (rdP s).2.2.2.1, (rdP s).2.2.2.2.2, (rdP s).2.2.2.2.1) := by
 by_cases h0 : (spV s).1 = 0
 case neg =>
  unfold rdR rdP
  rw [if_pos h0, if_pos h0]
 obtain ⟨g1, g2, g3, g4⟩ := spV_parts h0
 have hz : ¬ (spV s).1 ≠ 0 := by simpa using h0
 cases hl : (spV s).2 with
 | nil =>
  unfold rdR rdP
  rw [if_neg hz, if_neg hz, hl]
  rfl
 | cons h ds =>
  rw [hl] at g1 g2
  have eP : rdP s = if h.length = 9 then (match addAll ([], false, (0, 0, 0, 0, [], [])) ds with
   | none => errC
   | some (l', z', f') => endP s h (l' ++ cond z' [f'] [])) else errC := by
   unfold rdP
   rw [if_neg hz, hl]
   rfl
  have eR : rdR s = if h.length = 9 ∧ pb h 1 = 2 ∧ pb h 2 + 256 * pb h 3 = (s.length : Int) ∧ pb h 4 ≤ 4 then (match parseF (pb h 4).toNat 0 ds with
   | none => errR
   | some (Fs, r) => endR h Fs r) else errR := by
   unfold rdR
   rw [if_neg hz, hl]
  have key : ∀ Fs : List CFace, (∃ l' z' f', addAll ([], false, (0, 0, 0, 0, [], [])) ds = some (l', z', f') ∧ l' ++ cond z' [f'] [] = Fs ∧ h.length = 9 ∧ confV (pb h 5) (pb h 6) (pb h 7) (pb h 8) Fs = (s, 0)) ↔
    ((h.length = 9 ∧ pb h 1 = 2 ∧ pb h 2 + 256 * pb h 3 = (s.length : Int) ∧ pb h 4 ≤ 4) ∧ parseF (pb h 4).toNat 0 ds = some (Fs, []) ∧ (confV (pb h 5) (pb h 6) (pb h 7) (pb h 8) Fs).2 = 0) := by
   intro Fs
   constructor
   ·rintro ⟨l', z', f', h1, h2, h9, h3⟩
    obtain ⟨c1, c2, c3, c4, c5⟩ := conf_parts h3
    have hs := spl_flat (hdrP (pb h 5) (pb h 6) (pb h 7) (pb h 8) Fs.length (facesP 0 Fs).flatten.length :: facesP 0 Fs) s.length (fun d hd' => by
     rcases List.mem_cons.1 hd' with e | e
     ·exact e ▸ hdrP_good ..
     ·exact faces_good Fs 0 c5 d e) (by rw [← c1]; exact Nat.le_refl _)
    rw [← c1] at hs
    have hsp : (spV s).2 = hdrP (pb h 5) (pb h 6) (pb h 7) (pb h 8) Fs.length (facesP 0 Fs).flatten.length :: facesP 0 Fs := by
     unfold spV
     rw [if_pos g4, hs]
     rfl
    rw [hl] at hsp
    obtain ⟨hh, hds⟩ := List.cons.inj hsp
    have hlen : s.length = 9 + (facesP 0 Fs).flatten.length := by
     have := congrArg List.length c1
     rw [List.flatten_cons, List.length_append, ← hh, h9] at this
     exact this
    generalize (facesP 0 Fs).flatten.length = L at *
    have b1 : pb h 1 = 2 := by rw [hh]; rfl
    have e2 : pb h 2 = (9 + (L : Int)) % 256 := by
     rw [hh]
     show (((UInt8.ofNat (IntKind.wrap .u8 (9 + (L : Int))).toNat).toNat : Nat) : Int) = _
     rw [← ofV (x := (9 + (L : Int)) % 256) (by omega)]
     rw [u8w, u8w]
     rw [Int.emod_emod_of_dvd _ (by decide)]
    have e3 : pb h 3 = (9 + (L : Int)) / 256 % 256 := by
     rw [hh]
     show (((UInt8.ofNat (IntKind.wrap .u8 (shrI .i64 (9 + (L : Int)) 8)).toNat).toNat : Nat) : Int) = _
     have hsh : shrI .i64 (9 + (L : Int)) 8 = (9 + (L : Int)) / 256 := shr_div .i64 (9 + (L : Int)) 8 (by decide)
     rw [hsh, ← ofV (x := (9 + (L : Int)) / 256 % 256) (by omega)]
     rw [u8w, u8w]
     rw [Int.emod_emod_of_dvd _ (by decide)]
    have e4 : pb h 4 = (Fs.length : Int) := by
     rw [hh]
     exact ofV (x := (Fs.length : Int)) (by omega)
    refine ⟨⟨h9, b1, ?_, by omega⟩, ?_, by rw [h3]⟩
    ·rw [e2, e3, hlen]; omega
    ·rw [hds, e4, Int.toNat_natCast]
     exact parse_of Fs 0 c5 (by omega)
   ·rintro ⟨⟨h9, b1, b2, b4⟩, h1, h2⟩
    have h3 : confV (pb h 5) (pb h 6) (pb h 7) (pb h 8) Fs = ((confV (pb h 5) (pb h 6) (pb h 7) (pb h 8) Fs).1, 0) := by rw [← h2]
    obtain ⟨c1, c2, c3, c4, c5⟩ := conf_parts h3
    obtain ⟨k1, k2⟩ := parse_eq _ 0 ds Fs [] h1 (fun d hd' => g1 d (List.mem_cons_of_mem _ hd')) c5
    rw [List.append_nil] at k1
    have hb := pb_in h 4
    have e4 : (Fs.length : Int) = pb h 4 := by omega
    have hsl : s.length = 9 + (facesP 0 Fs).flatten.length := by
     rw [← g2, List.flatten_cons, List.length_append, h9, ← k1]
    have hhd : hdrP (pb h 5) (pb h 6) (pb h 7) (pb h 8) Fs.length (facesP 0 Fs).flatten.length = h := by
     generalize (facesP 0 Fs).flatten.length = L at *
     have p2 := pb_in h 2
     have p3 := pb_in h 3
     have p0 := (g1 h (List.mem_cons_self ..)).pb0
     rw [h9] at p0
     have hsh : shrI .i64 (9 + (L : Int)) 8 = (9 + (L : Int)) / 256 := shr_div .i64 (9 + (L : Int)) 8 (by decide)
     conv => rhs; rw [nine h9]
     unfold hdrP
     rw [hsh]
     simp only [putV_cons, e4, b1, p0]
     have w2 : IntKind.wrap .u8 (9 + (L : Int)) = IntKind.wrap .u8 (pb h 2) := by rw [u8w, u8w]; omega
     have w3 : IntKind.wrap .u8 ((9 + (L : Int)) / 256) = IntKind.wrap .u8 (pb h 3) := by rw [u8w, u8w]; omega
     rw [w2, w3]
     rfl
    rw [hhd, ← k1, g2] at c1
    obtain ⟨l', z', f', a1, a2⟩ := add_faces Fs 0 [] false (0, 0, 0, 0, [], []) c5 (by omega)
    rw [← k1] at a1
    exact ⟨l', z', f', a1, by rw [a2]; rfl, h9, by rw [h3, c1]⟩
  rw [eP, eR]
  by_cases hP : ∃ Fs, ∃ l' z' f', addAll ([], false, (0, 0, 0, 0, [], [])) ds = some (l', z', f') ∧ l' ++ cond z' [f'] [] = Fs ∧ h.length = 9 ∧ confV (pb h 5) (pb h 6) (pb h 7) (pb h 8) Fs = (s, 0)
  ·obtain ⟨Fs, hF⟩ := hP
   obtain ⟨k1, k2, k3⟩ := (key Fs).1 hF
   obtain ⟨l', z', f', h1, h2, h9, h3⟩ := hF
   rw [if_pos h9, if_pos k1, h1, k2]
   simp only [endP, endR]
   rw [h2, if_pos h3, if_pos ⟨k3, trivial⟩]
  ·have eP2 : (if h.length = 9 then (match addAll ([], false, (0, 0, 0, 0, [], [])) ds with
    | none => errC
    | some (l', z', f') => endP s h (l' ++ cond z' [f'] [])) else errC) = errC := by
    split
    ·rename_i h9
     cases ha : addAll ([], false, (0, 0, 0, 0, [], [])) ds with
     | none => rfl
     | some v =>
      obtain ⟨l', z', f'⟩ := v
      simp only [endP]
      rw [if_neg (fun q => hP ⟨_, l', z', f', ha, rfl, h9, q⟩)]
    ·rfl
   have eR2 : (if h.length = 9 ∧ pb h 1 = 2 ∧ pb h 2 + 256 * pb h 3 = (s.length : Int) ∧ pb h 4 ≤ 4 then (match parseF (pb h 4).toNat 0 ds with
    | none => errR
    | some (Fs, r) => endR h Fs r) else errR) = errR := by
    split
    ·rename_i hc
     cases ha : parseF (pb h 4).toNat 0 ds with
     | none => rfl
     | some v =>
      obtain ⟨Fs, r⟩ := v
      simp only [endR]
      rw [if_neg (fun q => by
       obtain ⟨q1, rfl⟩ := q
       exact hP ⟨Fs, (key Fs).2 ⟨hc, ha, q1⟩⟩)]
    ·rfl
   rw [eP2, eR2]
   rfl
theorem eqTx (n : Nat) (l : List CTx) (hl : l.length ≤ 1000000000000000) (hn : l.length + 1 < n) : F49 n l l = some true := by
 unfold F49
 simp only [bne_self_eq_false, cond_false]
 obtain ⟨r, h1, h2⟩ := loopF_post (F49_l2 n l l) (fun x => 0 ≤ x ∧ x ≤ (l.length : Int)) (fun x r => r = true) (fun x => ((l.length : Int) - x).toNat) (by
  rintro k x ⟨hx0, hx1⟩ ih
  simp only [F49_l2]
  by_cases hx : x < (l.length : Int)
  ·rw [decide_eq_true hx, inb_true hx0 hx, w64 (n := x + 1) (by omega) (by omega)]
   obtain ⟨r, i1, i2⟩ := ih (x + 1) ⟨by omega, by omega⟩ (by omega)
   exact ⟨r, by simpa using i1, i2⟩
  ·rw [decide_eq_false hx]
   exact ⟨true, rfl, rfl⟩) n 0 ⟨by omega, by omega⟩ (by omega)
 rw [h1, h2]
theorem eqEn (n : Nat) (l : List CEnd) (hl : l.length ≤ 1000000000000000) (hn : l.length + 1 < n) : F50 n l l = some true := by
 unfold F50
 simp only [bne_self_eq_false, cond_false]
 obtain ⟨r, h1, h2⟩ := loopF_post (F50_l2 n l l) (fun x => 0 ≤ x ∧ x ≤ (l.length : Int)) (fun x r => r = true) (fun x => ((l.length : Int) - x).toNat) (by
  rintro k x ⟨hx0, hx1⟩ ih
  simp only [F50_l2]
  by_cases hx : x < (l.length : Int)
  ·rw [decide_eq_true hx, inb_true hx0 hx, w64 (n := x + 1) (by omega) (by omega)]
   obtain ⟨r, i1, i2⟩ := ih (x + 1) ⟨by omega, by omega⟩ (by omega)
   exact ⟨r, by simpa [Sh.beq_self] using i1, i2⟩
  ·rw [decide_eq_false hx]
   exact ⟨true, rfl, rfl⟩) n 0 ⟨by omega, by omega⟩ (by omega)
 rw [h1, h2]
theorem sameC (n : Nat) (v nm at' pw : Int) (Fs : List CFace) (hl : Fs.length ≤ 1000000000000000) (hn : Fs.length + 1 < n)
  (hF : ∀ f ∈ Fs, (f.2.2.2.2.1.length ≤ 1000000000000000 ∧ f.2.2.2.2.1.length + 1 < n) ∧ (f.2.2.2.2.2.length ≤ 1000000000000000 ∧ f.2.2.2.2.2.length + 1 < n)) :
  F23 n v nm at' pw Fs v nm at' pw Fs = some true := by
 unfold F23
 simp only [bne_self_eq_false, cond_false]
 obtain ⟨r, h1, h2⟩ := loopF_post (F23_l4 n Fs Fs) (fun x => 0 ≤ x ∧ x ≤ (Fs.length : Int)) (fun x r => r = true) (fun x => ((Fs.length : Int) - x).toNat) (by
  rintro k x ⟨hx0, hx1⟩ ih
  simp only [F23_l4]
  by_cases hx : x < (Fs.length : Int)
  ·rw [decide_eq_true hx, inb_true hx0 hx, w64 (n := x + 1) (by omega) (by omega)]
   obtain ⟨r, i1, i2⟩ := ih (x + 1) ⟨by omega, by omega⟩ (by omega)
   refine ⟨r, ?_, i2⟩
   have hmem : Fs.getD x.toNat ((0 : Int), ((0 : Int), ((0 : Int), ((0 : Int), (([] : List (List UInt8)), ([] : List (Int × Bool × Int × Int × Int))))))) ∈ Fs := by
    rw [List.getD_eq_getElem?_getD, List.getElem?_eq_getElem (by omega)]
    exact List.getElem_mem _
   generalize Fs.getD x.toNat ((0 : Int), ((0 : Int), ((0 : Int), ((0 : Int), (([] : List (List UInt8)), ([] : List (Int × Bool × Int × Int × Int))))))) = f at *
   obtain ⟨⟨a1, a2⟩, a3, a4⟩ := hF f hmem
   have e : F48 n f.1 f.2.1 f.2.2.1 f.2.2.2.1 f.2.2.2.2.1 f.2.2.2.2.2 f.1 f.2.1 f.2.2.1 f.2.2.2.1 f.2.2.2.2.1 f.2.2.2.2.2 = some true := by
    unfold F48
    rw [eqTx n _ a1 a2, eqEn n _ a3 a4]
    simp
   simp only [cond_true, e, Option.bind_some, Bool.not_true, cond_false]
   exact i1
  ·rw [decide_eq_false hx]
   exact ⟨true, rfl, rfl⟩) n 0 ⟨by omega, by omega⟩ (by omega)
 rw [h1, h2]
theorem rdP_small (s : CTx) : (rdP s).2.2.2.2.1.length ≤ 4 ∧ ∀ f ∈ (rdP s).2.2.2.2.1, f.2.2.2.2.1.length ≤ 2 ∧ f.2.2.2.2.2.length ≤ 4 := by
 have he : ∀ x : Int × Int × Int × Int × List CFace × Int, x.2.2.2.2.1 = [] → x.2.2.2.2.1.length ≤ 4 ∧ ∀ f ∈ x.2.2.2.2.1, f.2.2.2.2.1.length ≤ 2 ∧ f.2.2.2.2.2.length ≤ 4 := by
  intro x hx
  rw [hx]
  exact ⟨Nat.zero_le _, fun f hf => by cases hf⟩
 unfold rdP
 split
 ·exact he _ rfl
 ·split
  ·exact he _ rfl
  ·rename_i h ds hl
   split
   ·split
    ·exact he _ rfl
    ·rename_i l' z' f' ha
     unfold endP
     split
     ·rename_i hc
      obtain ⟨_, _, _, c4, c5⟩ := conf_parts hc
      refine ⟨c4, fun f hf => ?_⟩
      obtain ⟨A, hA⟩ := c5 f hf
      obtain ⟨_, g2, _, g4, _⟩ := face_ok hA
      exact ⟨g2, g4⟩
     ·exact he _ rfl
   ·exact he _ rfl
end Go.Proofs.YtghbnolfadnoaaaGreat
