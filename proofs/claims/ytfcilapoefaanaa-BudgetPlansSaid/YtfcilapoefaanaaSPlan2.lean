/- The law BudgetPlans, in plain Lean, part 2: the document's way; the law. -/
import Derived.Test.YtfcilapoefaanaaSPlan
namespace Go.Proofs.Ytfcilapoefaanaa
open Go Go.RowKit
set_option linter.unusedVariables false

theorem docS (n : Nat) (hn : 2000 < n) {P : IL} (hP : allPer P) (h64 : P.length ≤ 64) (plan : PL) (hl : plan.length = P.length) (done : IL) (hd : done.length ≤ 1000) (hD : ∀ o ∈ done, inP P o) (j : Nat) (hj : j < P.length) (lanes p : Nat) (hla : 1 ≤ lanes ∧ lanes ≤ 8) (hp : pk P j = p) (K : (Int × PL × IL) → Option (Int × PL)) :
    loopF (F13_l79 n K P lanes p j plan done) n (-1, 0) = match fstG (badK P plan done j) (lanes * p) 0 with
      | none => some (11, [])
      | some k => K (((j + 1 : Nat) : Int), plan.set j (((k / p : Nat) : Int), ((k % p : Nat) : Int)), done ++ [(j : Int)]) := by
  have ht : inP P j := ⟨by omega, by omega⟩
  have hpb := per_bd hP ht
  rw [hp] at hpb
  have hN : lanes * p ≤ 8 * 32 := Nat.mul_le_mul hla.2 (by omega)
  obtain ⟨bad, hbad⟩ : ∃ bad, badK P plan done j = bad := ⟨_, rfl⟩
  rw [hbad]
  obtain ⟨N, hNe⟩ : ∃ N, lanes * p = N := ⟨_, rfl⟩
  have wN : IntKind.wrap .i64 ((lanes : Int) * (p : Int)) = (N : Int) := by
    have : (lanes : Int) * (p : Int) = ((lanes * p : Nat) : Int) := by simp
    rw [this, hNe, w64 (by omega) (by omega)]
  rw [hNe] at hN ⊢
  have hb : ∀ k : Nat, bad k = badB P plan done j ((k / p : Nat) : Int) ((k % p : Nat) : Int) := fun k => by
    rw [← hbad, badK, hp, Int.toNat_natCast]
  obtain ⟨KK, hKK⟩ : ∃ KK : Option Nat → Option (Int × PL), KK = fun r => match r with
      | none => some (11, [])
      | some k => K (((j + 1 : Nat) : Int), plan.set j (((k / p : Nat) : Int), ((k % p : Nat) : Int)), done ++ [(j : Int)]) := ⟨_, rfl⟩
  suffices h : loopF (F13_l79 n K P lanes p j plan done) n (-1, 0) = KK (fstG bad N 0) by rw [h, hKK]
  have wj : IntKind.wrap .i64 ((j : Int) + 1) = ((j + 1 : Nat) : Int) := by rw [w64 (by omega) (by omega)]; omega
  have tdv : ∀ k : Nat, k ≤ 300 → IntKind.wrap .i64 ((k : Int).tdiv (p : Int)) = ((k / p : Nat) : Int) ∧ (k : Int).tmod (p : Int) = ((k % p : Nat) : Int) := fun k hk => by
    rw [Int.tdiv_eq_ediv_of_nonneg (by omega), Int.tmod_eq_emod_of_nonneg (by omega), ← Int.natCast_ediv, ← Int.natCast_emod]
    have h2 := Nat.div_le_self k p
    generalize k / p = z at h2 ⊢
    exact ⟨w64 (by omega) (by omega), rfl⟩
  -- what is done with the place that was found
  have fin : ∀ k : Nat, k < N → (bif ((p : Int) != 0) then (bif inb (j : Int) plan.length then (bif decide (done.length + [(j : Int)].length ≤ 17592186044416) then K (IntKind.wrap .i64 ((j : Int) + 1), plan.set (j : Int).toNat (IntKind.wrap .i64 ((k : Int).tdiv (p : Int)), (k : Int).tmod (p : Int)), done ++ [(j : Int)]) else none) else none) else none) = KK (some k) := fun k hk => by
    rw [show ((p : Int) != 0) = true by rw [bne_iff_ne]; omega, inb_true (show (0 : Int) ≤ (j : Int) by omega) (show (j : Int) < (plan.length : Int) by omega), decide_eq_true (show done.length + [(j : Int)].length ≤ 17592186044416 by simp; omega), wj, (tdv k (by omega)).1, (tdv k (by omega)).2, hKK, Int.toNat_natCast]
    rfl
  refine (loopF_eq (F13_l79 n K P lanes p j plan done) (fun d => if d.1 < 0 then KK (fstG bad N d.2.toNat) else KK (some d.1.toNat)) (fun d => (d.1 = -1 ∧ ∃ k : Nat, d.2 = k ∧ k ≤ N) ∨ ∃ k : Nat, d = ((k : Int), ((k + 1 : Nat) : Int)) ∧ k < N) (fun d => 400 - d.2.toNat) ?_ n (-1, 0) (.inl ⟨rfl, 0, rfl, by omega⟩) (by show 400 - (0 : Int).toNat < n; omega)).trans rfl
  rintro kk ⟨_, _⟩ hI ih
  rcases hI with ⟨rfl, k, rfl, hk⟩ | ⟨k, e, hk⟩
  · simp only [F13_l79]
    rw [wN]
    simp only [show ((-1 : Int) < 0) from by decide, if_true, decide_true, cond_true, Int.toNat_natCast]
    by_cases hkN : k < N
    · rw [decide_eq_true (show (k : Int) < (N : Int) by omega), cond_true, fstG_step bad N k hkN]
      have wk : IntKind.wrap .i64 ((k : Int) + 1) = ((k + 1 : Nat) : Int) := by rw [w64 (by omega) (by omega)]; omega
      have n1 := ih (-1, ((k + 1 : Nat) : Int)) (.inl ⟨rfl, k + 1, rfl, hkN⟩) (by show 400 - ((k + 1 : Nat) : Int).toNat < 400 - (k : Int).toNat; omega)
      have n2 := ih ((k : Int), ((k + 1 : Nat) : Int)) (.inr ⟨k, rfl, hkN⟩) (by show 400 - ((k + 1 : Nat) : Int).toNat < 400 - (k : Int).toNat; omega)
      simp only [show ((-1 : Int) < 0) from by decide, if_true, Int.toNat_natCast] at n1
      simp only [show ¬ ((k : Int) < 0) from by omega, if_false, Int.toNat_natCast] at n2
      refine loopF_eq (F13_l80 n kk P p plan done k) (fun _ => if bad k = true then KK (fstG bad N (k + 1)) else KK (some k)) (fun z => ∃ q : Nat, z = q ∧ q ≤ done.length ∧ ∀ o ∈ done.take q, clB ((k / p : Nat) : Int) ((k % p : Nat) : Int) (atL plan o).1 (atL plan o).2 (pk P j) (pk P o) = false) (fun z => done.length - z.toNat) ?_ n 0 ⟨0, rfl, by omega, by simp⟩ (by simp; omega) |>.trans (by split <;> rfl)
      rintro k3 z ⟨q, rfl, hq, hall⟩ ih3
      simp only [F13_l80, Int.toNat_natCast]
      by_cases hql : q < done.length
      · rw [decide_eq_true (show (q : Int) < (done.length : Nat) by omega), inb_true (by omega) (show (q : Int) < ((done.length : Nat) : Int) by omega), show ((p : Int) != 0) = true by rw [bne_iff_ne]; omega]
        simp only [cond_true]
        have ho := getD_mem' done q hql
        have htk : done.take (q + 1) = done.take q ++ [done.getD q 0] := by
          rw [List.take_add_one, List.getElem?_eq_getElem hql, List.getD_eq_getElem?_getD, List.getElem?_eq_getElem hql]; rfl
        generalize done.getD q 0 = o at *
        have hio := hD o ho
        rw [inb_true hio.1 hio.2, inb_true hio.1 (show o < ((plan.length : Nat) : Int) by rw [hl]; exact hio.2), (tdv k (by omega)).1, (tdv k (by omega)).2]
        simp only [cond_true]
        have hcl := cl_ok2 n ((k / p : Nat) : Int) ((k % p : Nat) : Int) (atL plan o).1 (atL plan o).2 (p : Int) (pk P o) hpb.1 (per_bd hP hio).1
        have hcl' : F48 n (p : Int) ((k / p : Nat) : Int) ((k % p : Nat) : Int) (P.getD o.toNat 0) (plan.getD o.toNat (0, 0)).1 (plan.getD o.toNat (0, 0)).2 = some (clB ((k / p : Nat) : Int) ((k % p : Nat) : Int) (atL plan o).1 (atL plan o).2 (p : Int) (pk P o)) := hcl
        rw [hcl', Option.bind_some]
        cases hc : clB ((k / p : Nat) : Int) ((k % p : Nat) : Int) (atL plan o).1 (atL plan o).2 (p : Int) (pk P o) with
        | true =>
          rw [cond_true, wk, n1, hb k, show badB P plan done j ((k / p : Nat) : Int) ((k % p : Nat) : Int) = true from List.any_eq_true.2 ⟨o, ho, by rw [hp]; exact hc⟩, if_pos rfl]
        | false =>
          have wq : IntKind.wrap .i64 ((q : Int) + 1) = ((q + 1 : Nat) : Int) := by rw [w64 (by omega) (by omega)]; omega
          rw [cond_false, wq]
          refine ih3 _ ⟨q + 1, rfl, hql, fun w hw => ?_⟩ (by simp only [Int.toNat_natCast]; omega)
          rw [htk] at hw
          rcases List.mem_append.1 hw with hw | hw
          · exact hall w hw
          · obtain rfl := List.mem_singleton.1 hw; rw [hp]; exact hc
      · obtain rfl : q = done.length := by omega
        rw [decide_eq_false (show ¬ ((done.length : Nat) : Int) < ((done.length : Nat) : Int) by omega), cond_false, wk, n2]
        rw [List.take_length] at hall
        have hbf : bad k = false := by
          rw [hb k]; unfold badB
          rw [List.any_eq_false]
          intro w hw; rw [hall w hw]; simp
        rw [hbf]; rfl
    · obtain rfl : k = N := by omega
      rw [decide_eq_false (show ¬ (k : Int) < (k : Int) by omega), cond_false, fstG_end bad k k (Nat.le_refl _), hKK]
  · simp only [Prod.mk.injEq] at e
    obtain ⟨rfl, rfl⟩ := e
    simp only [F13_l79]
    rw [wN, decide_eq_false (show ¬ (k : Int) < 0 by omega)]
    simp only [cond_false, show ¬ ((k : Int) < 0) from by omega, if_false]
    rw [fin k hk, Int.toNat_natCast]
    cases decide (((k + 1 : Nat) : Int) < (N : Int)) <;> rfl
def tfrom (P : IL) (qs : List Nat) : IL := qs.flatMap fun (q : Nat) => (seg 0 P.length).filter fun x => pk P x == (q : Int)
theorem seg_cons (j k : Nat) : seg j (k + 1) = (j : Int) :: seg (j + 1) k := by
  rw [Nat.add_comm k 1, seg_app]; rfl
theorem docP (n : Nat) (hn : 2000 < n) {P : IL} (hP : allPer P) (h64 : P.length ≤ 64) (lanes p : Nat) (hla : 1 ≤ lanes ∧ lanes ≤ 8) (rest : IL) (K : (Int × PL × IL) → Option (Int × PL)) (hp : p ≤ 32)
    (hK : ∀ (plan : PL) (done : IL), plan.length = P.length → (∀ o ∈ done, inP P o) → done.length + rest.length ≤ 1000 → K (IntKind.wrap .i64 ((p : Int) * 2), plan, done) = some (runT P lanes rest done plan))
    (plan : PL) (hl : plan.length = P.length) (done : IL) (hD : ∀ o ∈ done, inP P o) (hd : done.length + (((seg 0 P.length).filter fun x => pk P x == (p : Int)) ++ rest).length ≤ 1000) :
    loopF (F13_l76 n K P lanes p) n (0, plan, done) = some (runT P lanes (((seg 0 P.length).filter fun x => pk P x == (p : Int)) ++ rest) done plan) := by
  refine (loopF_eq (F13_l76 n K P lanes p) (fun d => some (runT P lanes (((seg d.1.toNat (P.length - d.1.toNat)).filter fun x => pk P x == (p : Int)) ++ rest) d.2.2 d.2.1)) (fun d => ∃ j : Nat, d.1 = j ∧ j ≤ P.length ∧ d.2.1.length = P.length ∧ (∀ o ∈ d.2.2, inP P o) ∧ d.2.2.length + (((seg j (P.length - j)).filter fun x => pk P x == (p : Int)) ++ rest).length ≤ 1000) (fun d => P.length - d.1.toNat) ?_ n (0, plan, done) ⟨0, rfl, by omega, hl, hD, hd⟩ (by show P.length - (0 : Int).toNat < n; omega)).trans rfl
  rintro kk ⟨_, pl, dn⟩ ⟨j, rfl, hj, hpl, hdn, hlen⟩ ih
  simp only at hpl hdn hlen
  simp only [F13_l76, Int.toNat_natCast]
  by_cases hjl : j < P.length
  · have wj : IntKind.wrap .i64 ((j : Int) + 1) = ((j + 1 : Nat) : Int) := by rw [w64 (by omega) (by omega)]; omega
    have es : seg j (P.length - j) = (j : Int) :: seg (j + 1) (P.length - (j + 1)) := by
      rw [show P.length - j = (P.length - (j + 1)) + 1 by omega, seg_cons]
    rw [es, List.filter_cons] at hlen
    rw [decide_eq_true (show (j : Int) < (P.length : Nat) by omega), inb_true (by omega) (show (j : Int) < ((P.length : Nat) : Int) by omega), es, List.filter_cons]
    simp only [cond_true]
    have hpk : P.getD j 0 = pk P j := by unfold pk; rw [Int.toNat_natCast]
    rw [hpk]
    by_cases he : pk P j = p
    · rw [show ((p : Int) != pk P j) = false by rw [bne_eq_false_iff_eq]; exact he.symm, cond_false]
      rw [if_pos (show (pk P j == (p : Int)) = true by simpa using he)] at hlen ⊢
      simp only [List.cons_append, List.length_cons, List.length_append] at hlen
      rw [docS n hn hP h64 pl hpl dn (by omega) hdn j hjl lanes p hla he kk, List.cons_append, runT, he, Int.toNat_natCast]
      cases hf : fstG (badK P pl dn j) (lanes * p) 0 with
      | none => rfl
      | some k =>
        simp only
        rw [ih _ ⟨j + 1, rfl, hjl, by simpa using hpl, fun o ho => ?_, by simp only [List.length_append, List.length_cons, List.length_nil]; omega⟩ (by show P.length - ((j + 1 : Nat) : Int).toNat < P.length - (j : Int).toNat; omega)]
        · simp only [Int.toNat_natCast]
        · rcases List.mem_append.1 ho with ho | ho
          · exact hdn o ho
          · obtain rfl := List.mem_singleton.1 ho; exact ⟨by omega, by omega⟩
    · rw [show ((p : Int) != pk P j) = true by rw [bne_iff_ne]; exact fun h => he h.symm, cond_true, wj]
      rw [if_neg (show ¬ (pk P j == (p : Int)) = true by simpa using he)] at hlen ⊢
      rw [ih _ ⟨j + 1, rfl, hjl, hpl, hdn, hlen⟩ (by show P.length - ((j + 1 : Nat) : Int).toNat < P.length - (j : Int).toNat; omega)]
      simp only [Int.toNat_natCast]
  · obtain rfl : j = P.length := by omega
    rw [decide_eq_false (show ¬ ((P.length : Nat) : Int) < ((P.length : Nat) : Int) by omega), cond_false]
    rw [show seg P.length (P.length - P.length) = [] by rw [Nat.sub_self]; rfl] at hlen ⊢
    rw [hK pl dn hpl hdn (by simpa using hlen)]; rfl
def qsL : List Nat := [1, 2, 4, 8, 16, 32]
def qsF (p : Int) : List Nat := qsL.filter fun q => decide (p ≤ (q : Int))
theorem docA (n : Nat) (hn : 2000 < n) {P : IL} (hP : allPer P) (h64 : P.length ≤ 64) (lanes : Nat) (hla : 1 ≤ lanes ∧ lanes ≤ 8) (plan : PL) (hl : plan.length = P.length) (hd : (tfrom P qsL).length ≤ 1000) :
    loopF (F13_l67 n P lanes) n (1, plan, []) = some (runT P lanes (tfrom P qsL) [] plan) := by
  refine (loopF_eq (F13_l67 n P lanes) (fun d => some (runT P lanes (tfrom P (qsF d.1)) d.2.2 d.2.1)) (fun d => (d.1 = 1 ∨ d.1 = 2 ∨ d.1 = 4 ∨ d.1 = 8 ∨ d.1 = 16 ∨ d.1 = 32 ∨ d.1 = 64) ∧ d.2.1.length = P.length ∧ (∀ o ∈ d.2.2, inP P o) ∧ d.2.2.length + (tfrom P (qsF d.1)).length ≤ 1000) (fun d => 100 - d.1.toNat) ?_ n (1, plan, []) ⟨.inl rfl, hl, by simp, by show ([] : IL).length + (tfrom P (qsF 1)).length ≤ 1000; rw [show qsF 1 = qsL from rfl]; simpa using hd⟩ (by show 100 - (1 : Int).toNat < n; omega)).trans rfl
  rintro kk ⟨p, pl, dn⟩ ⟨hp, hpl, hdn, hlen⟩ ih
  simp only at hp hpl hdn hlen
  simp only [F13_l67]
  have step : ∀ (p q : Nat), (p : Int) * 2 = q → p ≤ 32 → 1 ≤ p → (q = 2 ∨ q = 4 ∨ q = 8 ∨ q = 16 ∨ q = 32 ∨ q = 64) → qsF p = p :: qsF q → dn.length + (tfrom P (qsF p)).length ≤ 1000 → (∀ d', ((d'.1 = 1 ∨ d'.1 = 2 ∨ d'.1 = 4 ∨ d'.1 = 8 ∨ d'.1 = 16 ∨ d'.1 = 32 ∨ d'.1 = 64) ∧ d'.2.1.length = P.length ∧ (∀ o ∈ d'.2.2, inP P o) ∧ d'.2.2.length + (tfrom P (qsF d'.1)).length ≤ 1000) → 100 - d'.1.toNat < 100 - (p : Int).toNat → kk d' = some (runT P lanes (tfrom P (qsF d'.1)) d'.2.2 d'.2.1)) →
      (bif decide ((p : Int) ≤ 32) then loopF (F13_l76 n kk P lanes p) n (0, pl, dn) else some (0, pl)) = some (runT P lanes (tfrom P (qsF p)) dn pl) := by
    intro p q hpq h32 h1 hq hqs hlen ih
    rw [decide_eq_true (show (p : Int) ≤ 32 by omega), cond_true]
    have e : tfrom P (qsF p) = ((seg 0 P.length).filter fun x => pk P x == (p : Int)) ++ tfrom P (qsF q) := by rw [hqs]; rfl
    rw [e] at hlen ⊢
    refine docP n hn hP h64 lanes p hla (tfrom P (qsF q)) kk h32 (fun pl' dn' k1 k2 k3 => ?_) pl hpl dn hdn hlen
    rw [hpq, w64 (by omega) (by omega)]
    exact ih ((q : Int), pl', dn') ⟨by omega, k1, k2, k3⟩ (by show 100 - (q : Int).toNat < 100 - (p : Int).toNat; omega)
  rcases hp with rfl | rfl | rfl | rfl | rfl | rfl | rfl
  · exact step 1 2 rfl (by omega) (by omega) (by omega) rfl hlen ih
  · exact step 2 4 rfl (by omega) (by omega) (by omega) rfl hlen ih
  · exact step 4 8 rfl (by omega) (by omega) (by omega) rfl hlen ih
  · exact step 8 16 rfl (by omega) (by omega) (by omega) rfl hlen ih
  · exact step 16 32 rfl (by omega) (by omega) (by omega) rfl hlen ih
  · exact step 32 64 rfl (by omega) (by omega) (by omega) rfl hlen ih
  · rw [show decide ((64 : Int) ≤ 32) = false by decide, cond_false]; rfl
end Go.Proofs.Ytfcilapoefaanaa
