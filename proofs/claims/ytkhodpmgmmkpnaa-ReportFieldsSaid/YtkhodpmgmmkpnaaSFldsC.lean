/- The law ReportFields, in plain Lean: the walk of both state machines side by side. -/
import Derived.Test.YtkhodpmgmmkpnaaSFlds
namespace Go.Proofs.Ytkhodpmgmmkpnaa
open Go Go.RowKit
set_option linter.unusedVariables false

theorem f8 (n : Nat) (a : List Fld) (ha : a.length ≤ 1000) (hn : 1001 < n) : F8 n a a = some true := by
  unfold F8
  simp only [bne_self_eq_false, cond_false]
  refine loopF_eq (F8_l2 n a a) (fun _ => some true) (fun x => ∃ k : Nat, x = (k : Int) ∧ k ≤ a.length) (fun x => a.length - x.toNat) ?_ n 0 ⟨0, rfl, by omega⟩ (by simp; omega)
  rintro kk x ⟨k, rfl, hk⟩ ih
  simp only [F8_l2, Int.toNat_natCast, Sh.beq_self, Bool.not_true, cond_false]
  by_cases hka : k < a.length
  · rw [decide_eq_true (show (k : Int) < (a.length : Int) by omega), inb_true (show (0 : Int) ≤ k by omega) (show (k : Int) < a.length by omega), w64 (n := (k : Int) + 1) (by omega) (by omega)]
    simp only [cond_true]
    exact ih ((k : Int) + 1) ⟨k + 1, by omega, by omega⟩ (by simp only [Int.toNat_natCast]; omega)
  · rw [decide_eq_false (show ¬ (k : Int) < (a.length : Int) by omega)]; rfl
abbrev zS : Stt := (0, (0, (0, (0, 0))))
theorem popS (stk : List Stt) (i : Nat) : (stk.map lst5).getD i (List.replicate 5 0) = lst5 (stk.getD i zS) := by
  rw [List.getD_eq_getElem?_getD, List.getD_eq_getElem?_getD, List.getElem?_map]
  by_cases h : i < stk.length
  · rw [List.getElem?_eq_getElem h]; rfl
  · rw [List.getElem?_eq_none (by omega)]; rfl
theorem mainRel (n : Nat) (hn : 1000 < n) (l : List (Int × Int)) (hl : l.length ≤ 200) :
    ∃ r r', loopF (F6_l203 n l) n (0, 0, 0, 0, 0, 0, 0, 0, ([] : List Stt), ([] : List Int), ([] : List Fld)) = some r ∧ loopF (F7_l28 n l) n (0, 0, (List.replicate 5 0), ([] : List (List Int)), ([] : List Int), ([] : List Fld)) = some r' ∧ (r = r' ∧ r.2.length ≤ 256) := by
  refine loopF_rel (F6_l203 n l) (F7_l28 n l) (Inv l) (fun r r' => r = r' ∧ r.2.length ≤ 256) (fun d => l.length - d.1.toNat) ?_ n n _ _
    ⟨0, 0, 0, 0, 0, 0, 0, 0, [], [], [], rfl, rfl, by omega, ⟨by simp, by simp, by simp, by simp⟩, by simp, by simp, by simp, by simp, by omega, by omega, rfl, fun f hf => absurd hf (by simp), by omega⟩ (by simp only; omega) (by simp only; omega)
  rintro K K' d d' ⟨k, s0, s1, s2, s3, s4, deep, bits, stk, us, out, rfl, rfl, hk, hs, hst, h4, hu, ho, h0, h8, hb, hp, h5⟩ ih
  simp only [F6_l203, F7_l28, F6_j223, F6_j233, Int.toNat_natCast]
  have stop : ∀ e : Int, ∃ r r' : Int × List Fld, some (e, ([] : List Fld)) = some r ∧ some (e, ([] : List Fld)) = some r' ∧ (r = r' ∧ r.2.length ≤ 256) := fun e => ⟨_, _, rfl, rfl, rfl, by simp⟩
  by_cases hk2 : k < l.length
  · rw [decide_eq_true (show (k : Int) < (l.length : Int) by omega), inb_true (show (0 : Int) ≤ k by omega) (show (k : Int) < l.length by omega), w64 (n := (k : Int) + 1) (by omega) (by omega)]
    have inner := fun (hz : s3 ≠ 0) hc hm => fieldsRel n hn (fun r r' => r = r' ∧ r.2.length ≤ 256) K K' k s0 s1 s2 s3 s4 deep bits stk us out hk2 hl hs hst h4 hu h0 h8 hb hp h5 hz hc hm
    obtain ⟨kd, v, hit⟩ : ∃ kd v, l.getD k (0, 0) = (kd, v) := ⟨_, _, rfl⟩
    simp only [hit]
    have go : ∀ (s0' s1' s2' s3' s4' deep' : Int) (stk' : List Stt) (us' : List Int), sOk (s0', s1', s2', s3', s4') → (∀ t ∈ stk', sOk t) → stk'.length ≤ 4 → us'.length ≤ 256 → 0 ≤ deep' → deep' ≤ 8 →
        ∃ r r', K ((k : Int) + 1, s0', s1', s2', s3', s4', deep', bits, stk', us', out) = some r ∧ K' (deep', (k : Int) + 1, [s0', s1', s2', s3', s4'], stk'.map lst5, us', out) = some r' ∧ (r = r' ∧ r.2.length ≤ 256) := by
      intro s0' s1' s2' s3' s4' deep' stk' us' a1 a2 a3 a4 a5 a6
      exact ih _ _ ⟨k + 1, s0', s1', s2', s3', s4', deep', bits, stk', us', out, by simp, by simp, by omega, a1, a2, a3, a4, ho, a5, a6, hb, hp, h5⟩ (by simp only; omega)
    obtain ⟨z1, z2, z3, z4⟩ := hs
    simp only at z1 z2 z3 z4
    simp only [cond_true, f18, Option.bind_some]
    by_cases c1 : kd = 1
    · subst c1; simp only [Int.reduceBEq, Int.reduceBNe, cond_true, cond_false]
      exact go v s1 s2 s3 s4 deep stk us ⟨z1, z2, z3, z4⟩ hst h4 hu h0 h8
    by_cases c5 : kd = 5
    · subst c5; simp only [Int.reduceBEq, Int.reduceBNe, cond_true, cond_false]
      exact go s0 v s2 s3 s4 deep stk us ⟨z1, z2, z3, z4⟩ hst h4 hu h0 h8
    by_cases c9 : kd = 9
    · subst c9; simp only [Int.reduceBEq, Int.reduceBNe, cond_true, cond_false]
      exact go s0 s1 v s3 s4 deep stk us ⟨z1, z2, z3, z4⟩ hst h4 hu h0 h8
    by_cases c29 : kd = 29
    · subst c29; simp only [Int.reduceBEq, Int.reduceBNe, cond_true, cond_false]
      by_cases a : v < 1
      · rw [decide_eq_true a, decide_eq_false (show ¬ (1 ≤ v ∧ v ≤ 32) by omega)]; exact stop 1
      by_cases b : v > 32
      · rw [decide_eq_false a, decide_eq_true b, decide_eq_false (show ¬ (1 ≤ v ∧ v ≤ 32) by omega)]; exact stop 1
      rw [decide_eq_false a, decide_eq_false b, decide_eq_true (show 1 ≤ v ∧ v ≤ 32 by omega)]
      exact go s0 s1 s2 v s4 deep stk us ⟨show 0 ≤ v by omega, show v ≤ 32 by omega, z3, z4⟩ hst h4 hu h0 h8
    by_cases c37 : kd = 37
    · subst c37; simp only [Int.reduceBEq, Int.reduceBNe, cond_true, cond_false]
      by_cases a : v < 0
      · rw [decide_eq_true a, decide_eq_false (show ¬ (0 ≤ v ∧ v ≤ 256) by omega)]; exact stop 1
      by_cases b : v > 256
      · rw [decide_eq_false a, decide_eq_true b, decide_eq_false (show ¬ (0 ≤ v ∧ v ≤ 256) by omega)]; exact stop 1
      rw [decide_eq_false a, decide_eq_false b, decide_eq_true (show 0 ≤ v ∧ v ≤ 256 by omega)]
      exact go s0 s1 s2 s3 v deep stk us ⟨z1, z2, show 0 ≤ v by omega, show v ≤ 256 by omega⟩ hst h4 hu h0 h8
    by_cases c41 : kd = 41
    · subst c41; simp only [Int.reduceBEq, Int.reduceBNe, cond_true, cond_false, List.length_map]
      by_cases a : stk.length = 4
      · rw [show (((stk.length : Nat) : Int) == 4) = true by rw [beq_iff_eq]; omega, decide_eq_true (show ((stk.length : Nat) : Int) ≥ 4 by omega)]; exact stop 11
      rw [show (((stk.length : Nat) : Int) == 4) = false by rw [beq_eq_false_iff_ne]; omega, decide_eq_false (show ¬ ((stk.length : Nat) : Int) ≥ 4 by omega),
        decide_eq_true (show stk.length + [(s0, s1, s2, s3, s4)].length ≤ 3518437208883 by simp; omega), decide_eq_true (show stk.length + [[s0, s1, s2, s3, s4]].length ≤ 3518437208883 by simp; omega)]
      have := go s0 s1 s2 s3 s4 deep (stk ++ [(s0, s1, s2, s3, s4)]) us ⟨z1, z2, z3, z4⟩ (fun t ht => by
        rcases List.mem_append.1 ht with ht | ht
        · exact hst t ht
        · simp only [List.mem_singleton] at ht; subst ht; exact ⟨z1, z2, z3, z4⟩) (by simp; omega) hu h0 h8
      rw [List.map_append] at this
      exact this
    by_cases c45 : kd = 45
    · subst c45; simp only [Int.reduceBEq, Int.reduceBNe, cond_true, cond_false, List.length_map]
      by_cases a : stk.length = 0
      · rw [show (((stk.length : Nat) : Int) == 0) = true by rw [beq_iff_eq]; omega]; exact stop 12
      have eW : IntKind.wrap .i64 (((stk.length : Nat) : Int) - 1) = ((stk.length - 1 : Nat) : Int) := by rw [w64 (by omega) (by omega)]; omega
      have eS : subB stk.length none (some ((stk.length - 1 : Nat) : Int)) = true := by
        simp [subB]
      rw [show (((stk.length : Nat) : Int) == 0) = false by rw [beq_eq_false_iff_ne]; omega, eW, inb_true (by omega) (by omega), eS]
      simp only [Int.toNat_natCast, cond_true, cond_false, popS]
      have hm : stk.getD (stk.length - 1) zS ∈ stk := by
        rw [List.getD_eq_getElem?_getD, List.getElem?_eq_getElem (by omega)]; exact List.getElem_mem _
      have := go _ _ _ _ _ deep (stk.take (stk.length - 1)) us (hst _ hm) (fun t ht => hst t (List.mem_of_mem_take ht)) (by simp; omega) hu h0 h8
      rw [List.map_take] at this
      exact this
    by_cases c2 : kd = 2
    · subst c2; simp only [Int.reduceBEq, Int.reduceBNe, cond_true, cond_false]
      by_cases a : us.length = 256
      · rw [show (((us.length : Nat) : Int) == 256) = true by rw [beq_iff_eq]; omega, decide_eq_true (show ((us.length : Nat) : Int) ≥ 256 by omega)]; exact stop 2
      rw [show (((us.length : Nat) : Int) == 256) = false by rw [beq_eq_false_iff_ne]; omega, decide_eq_false (show ¬ ((us.length : Nat) : Int) ≥ 256 by omega), decide_eq_true (show us.length + [v].length ≤ 17592186044416 by simp; omega)]
      exact go s0 s1 s2 s3 s4 deep stk (us ++ [v]) ⟨z1, z2, z3, z4⟩ hst h4 (by simp; omega) h0 h8
    by_cases c40 : kd = 40
    · subst c40; simp only [Int.reduceBEq, Int.reduceBNe, cond_true, cond_false]
      by_cases a : deep = 8
      · rw [show (deep == 8) = true by rw [beq_iff_eq]; omega, decide_eq_true (show deep ≥ 8 by omega)]; exact stop 11
      rw [show (deep == 8) = false by rw [beq_eq_false_iff_ne]; omega, decide_eq_false (show ¬ deep ≥ 8 by omega), w64 (n := deep + 1) (by omega) (by omega)]
      exact go s0 s1 s2 s3 s4 (deep + 1) stk [] ⟨z1, z2, z3, z4⟩ hst h4 (by simp) (by omega) (by omega)
    by_cases c48 : kd = 48
    · subst c48; simp only [Int.reduceBEq, Int.reduceBNe, cond_true, cond_false]
      by_cases a : deep = 0
      · rw [show (deep == 0) = true by rw [beq_iff_eq]; omega]; exact stop 12
      rw [show (deep == 0) = false by rw [beq_eq_false_iff_ne]; omega, w64 (n := deep - 1) (by omega) (by omega)]
      exact go s0 s1 s2 s3 s4 (deep - 1) stk [] ⟨z1, z2, z3, z4⟩ hst h4 (by simp) (by omega) (by omega)
    by_cases c32 : kd = 32
    · subst c32; simp only [Int.reduceBEq, Int.reduceBNe, cond_true, cond_false]
      rw [show ([s0, s1, s2, s3, s4].getD 4 0) = s4 from rfl, show ([s0, s1, s2, s3, s4].getD 3 0) = s3 from rfl, show ([s0, s1, s2, s3, s4].getD 2 0) = s2 from rfl, show ([s0, s1, s2, s3, s4].getD 1 0) = s1 from rfl]
      simp only [F6_j238, F6_j223, Int.reduceBNe, cond_true]
      by_cases a : s3 = 0
      · rw [show (s3 == 0) = true by rw [beq_iff_eq]; omega]; exact stop 1
      rw [show (s3 == 0) = false by rw [beq_eq_false_iff_ne]; omega]
      by_cases b : s1 > s2
      · rw [decide_eq_true b]; exact stop 1
      have hpr : s4 * s3 ≤ 256 * 32 := Int.mul_le_mul z4 z2 z1 (by omega)
      have hpr0 : 0 ≤ s4 * s3 := Int.mul_nonneg z3 z1
      rw [decide_eq_false b, w64 (n := ((out.length : Nat) : Int) + s4) (by omega) (by omega), w64 (n := 256 - ((out.length : Nat) : Int)) (by omega) (by omega), w64 (n := s4 * s3) (by omega) (by omega)]
      by_cases c : ((out.length : Nat) : Int) + s4 > 256
      · rw [decide_eq_true c, decide_eq_true (show s4 > 256 - ((out.length : Nat) : Int) by omega)]; exact stop 2
      have hsp := sumB_pos out hp
      rw [decide_eq_false c, decide_eq_false (show ¬ s4 > 256 - ((out.length : Nat) : Int) by omega), bitsN n out (by omega) (by omega) hp (by omega)]
      simp only [Option.bind_some, cond_false]
      rw [w64 (n := bits + s4 * s3) (by omega) (by omega), w64 (n := 512 - sumB out) (by omega) (by omega)]
      by_cases d : bits + s4 * s3 > 512
      · rw [decide_eq_true d, decide_eq_true (show s4 * s3 > 512 - sumB out by omega)]; exact stop 2
      rw [decide_eq_false d, decide_eq_false (show ¬ s4 * s3 > 512 - sumB out by omega)]
      simp only [cond_false]
      obtain ⟨r, r', e1, e2, e3⟩ := inner a (by omega) (by omega) fun e e' he hm => ih e e' he (by simpa using hm)
      exact ⟨r, r', e1, e2, e3⟩
    simp only [show (kd == 1) = false by simpa using c1, show (kd == 5) = false by simpa using c5, show (kd == 9) = false by simpa using c9, show (kd == 29) = false by simpa using c29, show (kd == 37) = false by simpa using c37,
      show (kd == 41) = false by simpa using c41, show (kd == 45) = false by simpa using c45, show (kd == 2) = false by simpa using c2, show (kd == 40) = false by simpa using c40, show (kd == 48) = false by simpa using c48, show (kd == 32) = false by simpa using c32, cond_false, Int.reduceBNe]
    exact go s0 s1 s2 s3 s4 deep stk us ⟨z1, z2, z3, z4⟩ hst h4 hu h0 h8
  · rw [decide_eq_false (show ¬ (k : Int) < (l.length : Int) by omega)]
    by_cases a : deep = 0
    · rw [show (deep != 0) = false by rw [a]; rfl, decide_eq_false (show ¬ deep > 0 by omega)]
      exact ⟨_, _, rfl, rfl, rfl, ho⟩
    · rw [show (deep != 0) = true by rw [bne_iff_ne]; exact a, decide_eq_true (show deep > 0 by omega)]
      exact stop 4
theorem reportFields_says (a0 : Sh.T ((.sl (.st (.pair (.int .i64) (.int .i64)))))) (g0 : Sh.good ((.sl (.st (.pair (.int .i64) (.int .i64))))) a0) :
    ∃ n, F3 n a0 = some true := by
  refine ⟨2000, ?_⟩
  unfold F3 F6 F7
  by_cases h : ((a0.length : Nat) : Int) > 200
  · simp only [decide_eq_true h, cond_true, Option.bind_some, f8 2000 [] (by simp) (by omega)]; rfl
  · simp only [decide_eq_false h, cond_false]
    obtain ⟨r, r', e1, e2, rfl, e3⟩ := mainRel 2000 (by omega) a0 (by omega)
    rw [e1, e2]
    simp only [Option.bind_some, f8 2000 r.2 (by omega) (by omega), cond_true, BEq.rfl]
end Go.Proofs.Ytkhodpmgmmkpnaa
