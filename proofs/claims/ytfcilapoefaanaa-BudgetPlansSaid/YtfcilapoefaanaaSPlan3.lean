/- The law BudgetPlans, in plain Lean, part 3. -/
import Derived.Test.YtfcilapoefaanaaSPlan2
namespace Go.Proofs.Ytfcilapoefaanaa
open Go Go.RowKit
set_option linter.unusedVariables false

theorem part_perm (f : Int → Int) : ∀ (qs : List Nat) (l : IL), qs.Nodup → (∀ x ∈ l, ∃ q ∈ qs, f x = ((q : Nat) : Int)) → (qs.flatMap fun (q : Nat) => l.filter fun x => f x == (q : Int)).Perm l
  | [], l, _, h => by
    have : l = [] := by
      cases l with
      | nil => rfl
      | cons a l => obtain ⟨q, hq, _⟩ := h a (by simp); cases hq
    subst this; simp
  | q :: qs, l, hn, h => by
    obtain ⟨hq, hn2⟩ := List.nodup_cons.1 hn
    rw [List.flatMap_cons]
    have ih := part_perm f qs (l.filter fun x => !(f x == (q : Int))) hn2 (fun x hx => by
      rw [List.mem_filter] at hx
      obtain ⟨q', hq', e⟩ := h x hx.1
      rcases List.mem_cons.1 hq' with rfl | hq'
      · simp [e] at hx
      · exact ⟨q', hq', e⟩)
    have e : (qs.flatMap fun (r : Nat) => (l.filter fun x => !(f x == (q : Int))).filter fun x => f x == (r : Int)) = qs.flatMap fun (r : Nat) => l.filter fun x => f x == (r : Int) := by
      unfold List.flatMap
      congr 1
      refine List.map_congr_left fun r hr => ?_
      rw [List.filter_filter]
      refine List.filter_congr fun x _ => ?_
      by_cases hx : f x = (r : Int)
      · have : r ≠ q := fun e => hq (e ▸ hr)
        simp [hx]; omega
      · simp [hx]
    rw [e] at ih
    refine (List.Perm.append_left _ ih).trans ?_
    exact List.filter_append_perm (fun x => f x == (q : Int)) l
theorem tfrom_srt {P : IL} (hP : allPer P) : srt P (seg 0 P.length) = tfrom P qsL := by
  refine srt_eq (part_perm (pk P) qsL (seg 0 P.length) (by decide) (fun x hx => ?_)) ?_
  · have hm := seg_mem hx
    have := hP x.toNat (by omega)
    unfold perOk at this
    rcases this with h | h | h | h | h | h
    · exact ⟨1, by decide, h⟩
    · exact ⟨2, by decide, h⟩
    · exact ⟨4, by decide, h⟩
    · exact ⟨8, by decide, h⟩
    · exact ⟨16, by decide, h⟩
    · exact ⟨32, by decide, h⟩
  · unfold tfrom
    rw [List.pairwise_flatMap]
    refine ⟨fun q _ => ?_, ?_⟩
    · refine List.Pairwise.imp_of_mem (R := fun a b : Int => a < b) (fun {a b} ha hb h => ?_) ((seg_lt 0 P.length).filter _)
      rw [List.mem_filter] at ha hb
      have h1 : pk P a = q := by simpa using ha.2
      have h2 : pk P b = q := by simpa using hb.2
      exact .inr ⟨by omega, h⟩
    · have : qsL.Pairwise (· < ·) := by decide
      refine this.imp fun {a b} h x hx y hy => ?_
      rw [List.mem_filter] at hx hy
      have h1 : pk P x = a := by simpa using hx.2
      have h2 : pk P y = b := by simpa using hy.2
      exact .inl (by omega)
theorem okT_of {P : IL} (hP : allPer P) : okT P := fun x hx => by
  obtain ⟨i, hi, rfl⟩ := List.getElem_of_mem hx
  have := hP i hi
  rw [List.getD_eq_getElem?_getD, List.getElem?_eq_getElem hi] at this
  have h : perOk P[i] := this
  unfold perOk at h
  omega
theorem tfrom_len {P : IL} (hP : allPer P) : (tfrom P qsL).length = P.length := by
  rw [← tfrom_srt hP, srt_len, seg_len]
theorem progPl (g : Nat) (hg : 3000 < g) {P : IL} (hP : allPer P) (h64 : P.length ≤ 64) (lanes : Nat) (hla : 1 ≤ lanes ∧ lanes ≤ 8) (ha : F43 (g + 10) P lanes = some 0) :
    F12 (g + 10) P lanes = some (runT P lanes (tfrom P qsL) [] (List.replicate P.length (0, 0))) := by
  unfold F12
  rw [ha, Option.bind_some]
  simp only [bne_self_eq_false, cond_false]
  rw [decide_eq_true (show (0 : Int) ≤ ((P.length : Nat) : Int) ∧ (((P.length : Nat) : Int) ≤ ((P.length : Nat) : Int) ∧ ((P.length : Nat) : Int) * 9 ≤ 140737488355328) by omega), cond_true, Int.toNat_natCast]
  refine (loopF_eq (F12_l7 (g + 10) P lanes) (fun _ => some (runT P lanes (tfrom P qsL) [] (List.replicate P.length (0, 0)))) (fun d => ∃ k : Nat, d = ((k : Int), seg 0 k ++ List.replicate (P.length - k) 0) ∧ k ≤ P.length) (fun d => P.length - d.1.toNat) ?_ (g + 10) (0, List.replicate P.length 0) ⟨0, by simp [seg], by omega⟩ (by show P.length - (0 : Int).toNat < g + 10; omega))
  rintro kk d ⟨k, rfl, hk⟩ ih
  simp only [F12_l7]
  rw [Int.toNat_natCast, List.length_replicate]
  by_cases hkl : k < P.length
  · have wk : IntKind.wrap .i64 ((k : Int) + 1) = ((k + 1 : Nat) : Int) := by rw [w64 (by omega) (by omega)]; omega
    have e : List.replicate (P.length - k) (0 : Int) = 0 :: List.replicate (P.length - (k + 1)) 0 := by
      rw [show P.length - k = (P.length - (k + 1)) + 1 by omega, List.replicate_succ]
    have hA : (k : Int) = (seg 0 k).length := by rw [seg_len]
    rw [decide_eq_true (show (k : Int) < (P.length : Nat) by omega), e, inb_mid (seg 0 k) _ 0 _ hA, set_mid (seg 0 k) _ 0 (k : Int) _ hA, wk]
    simp only [cond_true]
    refine ih _ ⟨k + 1, ?_, hkl⟩ (by show P.length - ((k + 1 : Nat) : Int).toNat < P.length - (k : Int).toNat; omega)
    rw [seg_app 0 k 1, show seg (0 + k) 1 = [(k : Int)] by rw [Nat.zero_add]; rfl]
    simp
  · obtain rfl : k = P.length := by omega
    rw [decide_eq_false (show ¬ ((P.length : Nat) : Int) < ((P.length : Nat) : Int) by omega), cond_false, Nat.sub_self, List.replicate_zero, List.append_nil]
    have hs : F44 (g + 10) (seg 0 P.length) P = some (srt P (seg 0 P.length)) := by
      unfold F44
      rw [seg_len, stabR g (by omega) P (okT_of hP) h64]; rfl
    rw [hs, Option.bind_some, decide_eq_true (show (0 : Int) ≤ ((P.length : Nat) : Int) ∧ (((P.length : Nat) : Int) ≤ ((P.length : Nat) : Int) ∧ ((P.length : Nat) : Int) * 17 ≤ 140737488355328) by omega), cond_true, tfrom_srt hP]
    refine planL (g + 10) (by omega) hP lanes hla (tfrom P qsL) (by rw [tfrom_len hP]; omega) (fun o ho => ?_) _ (by simp)
    rw [← tfrom_srt hP] at ho
    have := seg_mem ((srt_perm P _).subset ho)
    exact ⟨by omega, by omega⟩
theorem docPl (n : Nat) (hn : 2000 < n) {P : IL} (hP : allPer P) (h64 : P.length ≤ 64) (lanes : Nat) (hla : 1 ≤ lanes ∧ lanes ≤ 8) (ha : F47 n P lanes = some 0) :
    F13 n P lanes = some (runT P lanes (tfrom P qsL) [] (List.replicate P.length (0, 0))) := by
  unfold F13
  rw [ha, Option.bind_some]
  simp only [bne_self_eq_false, cond_false]
  rw [decide_eq_true (show (0 : Int) ≤ ((P.length : Nat) : Int) ∧ (((P.length : Nat) : Int) ≤ ((P.length : Nat) : Int) ∧ ((P.length : Nat) : Int) * 17 ≤ 140737488355328) by omega), cond_true, Int.toNat_natCast]
  exact docA n hn hP h64 lanes hla _ (by simp) (by rw [tfrom_len hP]; omega)
theorem runT_len (P : IL) (lanes : Nat) : ∀ (ts done : IL) (plan : PL), (runT P lanes ts done plan).2.length ≤ plan.length
  | [], done, plan => Nat.le_refl _
  | t :: ts, done, plan => by
    rw [runT]
    split
    · simp
    · exact Nat.le_trans (runT_len P lanes ts _ _) (by simp)
theorem eqBe (n : Nat) (l : PL) (hl : l.length ≤ 65) (hn : 100 < n) : F14 n l l = some true := by
  unfold F14
  rw [show ((((l.length : Nat)) : Int) != ((l.length : Nat) : Int)) = false by simp, cond_false]
  refine loopF_eq (F14_l2 n l l) (fun _ => some true) (fun x => ∃ k : Nat, x = (k : Int) ∧ k ≤ l.length) (fun x => l.length - x.toNat) ?_ n 0 ⟨0, rfl, by omega⟩ (by simp; omega)
  rintro kk x ⟨k, rfl, hk⟩ ih
  simp only [F14_l2]
  by_cases hkl : k < l.length
  · have wk : IntKind.wrap .i64 ((k : Int) + 1) = ((k + 1 : Nat) : Int) := by rw [w64 (by omega) (by omega)]; omega
    rw [decide_eq_true (show (k : Int) < (l.length : Nat) by omega), inb_true (by omega) (show (k : Int) < ((l.length : Nat) : Int) by omega), Sh.beq_self, wk]
    exact ih _ ⟨k + 1, rfl, hkl⟩ (by simp only [Int.toNat_natCast]; omega)
  · obtain rfl : k = l.length := by omega
    rw [decide_eq_false (show ¬ ((l.length : Nat) : Int) < ((l.length : Nat) : Int) by omega)]; rfl
theorem plansN (g : Nat) (hg : 3000 < g) (P : IL) (lanes : Int) : F5 (g + 10) P lanes = some true := by
  have key : ∃ r, F12 (g + 10) P lanes = some r ∧ F13 (g + 10) P lanes = some r ∧ r.2.length ≤ 64 := by
    have a1 := l88 (g + 10) (by omega) P lanes
    have a2 := l90 (g + 10) (by omega) P lanes
    by_cases h0 : argE P lanes = 0
    · rw [h0] at a1 a2
      obtain ⟨hla, h64, hP⟩ := arg0 h0
      obtain ⟨ln, rfl⟩ : ∃ k : Nat, lanes = k := ⟨lanes.toNat, by omega⟩
      refine ⟨_, progPl g hg hP h64 ln ⟨by omega, by omega⟩ a1, docPl (g + 10) (by omega) hP h64 ln ⟨by omega, by omega⟩ a2, ?_⟩
      have := runT_len P ln (tfrom P qsL) [] (List.replicate P.length (0, 0))
      rw [List.length_replicate] at this
      omega
    · unfold F12 F13
      rw [a1, a2]
      simp only [Option.bind_some]
      rw [show (argE P lanes != 0) = true by simp [h0]]
      exact ⟨_, rfl, rfl, by simp⟩
  obtain ⟨r, e1, e2, e3⟩ := key
  unfold F5
  rw [e1, e2]
  simp only [Option.bind_some]
  rw [eqBe (g + 10) r.2 (by omega) (by omega)]
  simp
theorem budgetPlans_says (a0 : Sh.T (.sl (.int .i64))) (g0 : Sh.good (.sl (.int .i64)) a0) (a1 : Sh.T (.int .i64)) (g1 : Sh.good (.int .i64) a1) :
    ∃ n, F5 n a0 a1 = some true := ⟨3011, plansN 3001 (by omega) a0 a1⟩
end Go.Proofs.Ytfcilapoefaanaa
