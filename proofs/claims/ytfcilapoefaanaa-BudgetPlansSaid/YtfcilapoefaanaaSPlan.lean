/- The law BudgetPlans, in plain Lean. -/
import Derived.Test.YtfcilapoefaanaaSPlanA
namespace Go.Proofs.Ytfcilapoefaanaa
open Go Go.RowKit
set_option linter.unusedVariables false

abbrev PL := List (Int × Int)
/-- do two berths meet? -/
def clB (al ap bl bp p q : Int) : Bool := (al == bl) && (ap.tmod (if q < p then q else p) == bp.tmod (if q < p then q else p))
def atL (L : PL) (i : Int) : Int × Int := L.getD i.toNat (0, 0)
/-- does a berth meet one that is taken? -/
def badB (P : IL) (plan : PL) (done : IL) (t x y : Int) : Bool := done.any fun o => clB x y (atL plan o).1 (atL plan o).2 (pk P t) (pk P o)
/-- the first number from k on, below N, at which it is good -/
def fstG (bad : Nat → Bool) (N k : Nat) : Option Nat := (List.range' k (N - k)).find? fun j => !bad j
theorem fstG_step (bad : Nat → Bool) (N k : Nat) (h : k < N) : fstG bad N k = if bad k then fstG bad N (k + 1) else some k := by
  unfold fstG
  rw [show N - k = (N - (k + 1)) + 1 by omega, List.range'_succ, List.find?_cons]
  cases bad k <;> simp
theorem fstG_end (bad : Nat → Bool) (N k : Nat) (h : N ≤ k) : fstG bad N k = none := by
  unfold fstG
  rw [show N - k = 0 by omega]; rfl
theorem dvm (j i p : Nat) (h : i < p) : (j * p + i) / p = j ∧ (j * p + i) % p = i := by
  constructor
  · rw [Nat.mul_comm, Nat.mul_add_div (by omega), Nat.div_eq_of_lt h, Nat.add_zero]
  · rw [Nat.mul_comm, Nat.mul_add_mod, Nat.mod_eq_of_lt h]
/-- one task: which berths are bad, by their numbers -/
def badK (P : IL) (plan : PL) (done : IL) (t : Int) (k : Nat) : Bool := badB P plan done t ((k / (pk P t).toNat : Nat) : Int) ((k % (pk P t).toNat : Nat) : Int)
theorem per_bd {P : IL} (hP : allPer P) {t : Int} (ht : inP P t) : 1 ≤ pk P t ∧ pk P t ≤ 32 := by
  have := hP t.toNat (by have := ht.1; have := ht.2; omega)
  unfold perOk at this
  unfold pk
  omega
theorem cl_ok (n : Nat) (al ap bl bp p q : Int) (hp : 1 ≤ p) (hq : 1 ≤ q) : F73 n al ap bl bp p q = some (clB al ap bl bp p q) := by
  unfold F73 clB
  by_cases h : al = bl
  · rw [show (al == bl) = true by simpa using h]
    rw [show ((if q < p then q else p) != 0) = true by rw [bne_iff_ne]; split <;> omega]
    simp
  · rw [show (al == bl) = false by simpa using h]; simp
theorem cl_ok2 (n : Nat) (al ap bl bp p q : Int) (hp : 1 ≤ p) (hq : 1 ≤ q) : F48 n p al ap q bl bp = some (clB al ap bl bp p q) := cl_ok n al ap bl bp p q hp hq
theorem pl1_ok (n : Nat) {P : IL} (hP : allPer P) (plan : PL) (hl : plan.length = P.length) (k t x y : Int) (hk : inP P k) (ht : inP P t) : F72 n k x y plan P t = some (clB x y (atL plan k).1 (atL plan k).2 (pk P t) (pk P k)) := by
  unfold F72
  rw [inb_true hk.1 (by rw [hl]; exact hk.2), inb_true ht.1 ht.2, inb_true hk.1 hk.2]
  simp only [cond_true]
  have := cl_ok n x y (plan.getD k.toNat (0, 0)).1 (plan.getD k.toNat (0, 0)).2 (P.getD t.toNat 0) (P.getD k.toNat 0) (per_bd hP ht).1 (per_bd hP hk).1
  rw [this]; rfl
/-- what place hands back -/
def plR (p : Nat) : Option Nat → Int × Int × Bool
  | none => (0, 0, false)
  | some k => (((k / p : Nat) : Int), ((k % p : Nat) : Int), true)
theorem placeP (n : Nat) (hn : 2000 < n) {P : IL} (hP : allPer P) (plan : PL) (hl : plan.length = P.length) (done : IL) (hd : done.length ≤ 1000) (hD : ∀ o ∈ done, inP P o) (t : Int) (ht : inP P t) (lanes : Nat) (hla : 1 ≤ lanes ∧ lanes ≤ 8) :
    F46 n P plan done t lanes = some (plR (pk P t).toNat (fstG (badK P plan done t) (lanes * (pk P t).toNat) 0)) := by
  have hp := per_bd hP ht
  obtain ⟨p, hpk⟩ : ∃ p : Nat, pk P t = p := ⟨(pk P t).toNat, by omega⟩
  have hg : P.getD t.toNat 0 = p := hpk
  rw [hpk] at hp
  unfold F46
  rw [hpk, Int.toNat_natCast]
  obtain ⟨bad, hbad⟩ : ∃ bad, badK P plan done t = bad := ⟨_, rfl⟩
  rw [hbad]
  have hb : ∀ j i : Nat, i < p → bad (j * p + i) = badB P plan done t j i := fun j i hi => by
    rw [← hbad, badK, hpk, Int.toNat_natCast, (dvm j i p hi).1, (dvm j i p hi).2]
  refine loopF_eq (F46_l97 n P plan done t lanes) (fun x => some (plR p (fstG bad (lanes * p) (x.toNat * p)))) (fun x => ∃ j : Nat, x = j ∧ j ≤ lanes) (fun x => lanes - x.toNat) ?_ n 0 ⟨0, rfl, by omega⟩ (by simp; omega) |>.trans (by simp)
  rintro kk x ⟨j, rfl, hj⟩ ih
  simp only [F46_l97, Int.toNat_natCast]
  by_cases hjl : j < lanes
  · rw [decide_eq_true (show (j : Int) < (lanes : Int) by omega), inb_true ht.1 ht.2]
    simp only [cond_true]
    refine loopF_eq (F46_l110 n kk P plan done t j) (fun y => some (plR p (fstG bad (lanes * p) (j * p + y.toNat)))) (fun y => ∃ i : Nat, y = i ∧ i ≤ p) (fun y => p - y.toNat) ?_ n 0 ⟨0, rfl, by omega⟩ (by simp; omega) |>.trans (by simp)
    rintro k2 y ⟨i, rfl, hi⟩ ih2
    simp only [F46_l110, Int.toNat_natCast, hg]
    have hjp : (j + 1) * p ≤ lanes * p := Nat.mul_le_mul_right p (by omega)
    rw [Nat.add_mul, Nat.one_mul] at hjp
    by_cases hil : i < p
    · rw [decide_eq_true (show (i : Int) < (p : Int) by omega), cond_true]
      have wi : IntKind.wrap .i64 ((i : Int) + 1) = ((i + 1 : Nat) : Int) := by rw [w64 (by omega) (by omega)]; omega
      have next := ih2 ((i + 1 : Nat) : Int) ⟨i + 1, rfl, hil⟩ (by simp only [Int.toNat_natCast]; omega)
      rw [Int.toNat_natCast] at next
      refine loopF_eq (F46_l116 n k2 P plan done t j i) (fun _ => some (plR p (fstG bad (lanes * p) (j * p + i)))) (fun z => ∃ q : Nat, z = q ∧ q ≤ done.length ∧ ∀ o ∈ done.take q, clB j i (atL plan o).1 (atL plan o).2 (pk P t) (pk P o) = false) (fun z => done.length - z.toNat) ?_ n 0 ⟨0, rfl, by omega, by simp⟩ (by simp; omega)
      rintro k3 z ⟨q, rfl, hq, hall⟩ ih3
      simp only [F46_l116, Int.toNat_natCast]
      by_cases hql : q < done.length
      · rw [decide_eq_true (show (q : Int) < (done.length : Nat) by omega), inb_true (by omega) (show (q : Int) < ((done.length : Nat) : Int) by omega)]
        simp only [cond_true]
        have ho := getD_mem' done q hql
        have htk : done.take (q + 1) = done.take q ++ [done.getD q 0] := by
          rw [List.take_add_one, List.getElem?_eq_getElem hql, List.getD_eq_getElem?_getD, List.getElem?_eq_getElem hql]; rfl
        generalize done.getD q 0 = o at *
        rw [pl1_ok n hP plan hl o t j i (hD o ho) ht, Option.bind_some]
        cases hc : clB j i (atL plan o).1 (atL plan o).2 (pk P t) (pk P o) with
        | true =>
          simp only [cond_true, F46_j115]
          rw [decide_eq_true (show (q : Int) ≥ 0 by omega)]
          simp only [Bool.not_true, cond_false]
          rw [wi, next, fstG_step bad (lanes * p) (j * p + i) (by omega), hb j i hil, show badB P plan done t j i = true from List.any_eq_true.2 ⟨o, ho, hc⟩]
          simp only [if_true]
          rfl
        | false =>
          simp only [cond_false]
          have wq : IntKind.wrap .i64 ((q : Int) + 1) = ((q + 1 : Nat) : Int) := by rw [w64 (by omega) (by omega)]; omega
          rw [wq]
          refine ih3 _ ⟨q + 1, rfl, hql, fun w hw => ?_⟩ (by simp only [Int.toNat_natCast]; omega)
          rw [htk] at hw
          rcases List.mem_append.1 hw with hw | hw
          · exact hall w hw
          · obtain rfl := List.mem_singleton.1 hw; exact hc
      · obtain rfl : q = done.length := by omega
        rw [decide_eq_false (show ¬ ((done.length : Nat) : Int) < ((done.length : Nat) : Int) by omega), cond_false]
        rw [List.take_length] at hall
        simp only [F46_j115]
        rw [show decide ((-1 : Int) ≥ 0) = false by decide]
        simp only [Bool.not_false, cond_true]
        have hbf : badB P plan done t j i = false := by
          unfold badB
          rw [List.any_eq_false]
          intro w hw; rw [hall w hw]; simp
        rw [fstG_step bad (lanes * p) (j * p + i) (by omega), hb j i hil, hbf]
        simp only [Bool.false_eq_true, if_false, plR]
        rw [(dvm j i p hil).1, (dvm j i p hil).2]
    · obtain rfl : i = p := by omega
      have wj : IntKind.wrap .i64 ((j : Int) + 1) = ((j + 1 : Nat) : Int) := by rw [w64 (by omega) (by omega)]; omega
      rw [decide_eq_false (show ¬ (i : Int) < (i : Int) by omega), cond_false, wj, ih _ ⟨j + 1, rfl, by omega⟩ (by simp only [Int.toNat_natCast]; omega), Int.toNat_natCast, Nat.add_mul, Nat.one_mul]
  · obtain rfl : j = lanes := by omega
    rw [decide_eq_false (show ¬ (j : Int) < (j : Int) by omega), cond_false, fstG_end _ _ _ (Nat.le_refl _)]; rfl
/-- all tasks, one behind the other -/
def runT (P : IL) (lanes : Nat) : IL → IL → PL → Int × PL
  | [], _, plan => (0, plan)
  | t :: ts, done, plan =>
    match fstG (badK P plan done t) (lanes * (pk P t).toNat) 0 with
    | none => (11, [])
    | some k => runT P lanes ts (done ++ [t]) (plan.set t.toNat (((k / (pk P t).toNat : Nat) : Int), ((k % (pk P t).toNat : Nat) : Int)))
theorem planL (n : Nat) (hn : 2000 < n) {P : IL} (hP : allPer P) (lanes : Nat) (hla : 1 ≤ lanes ∧ lanes ≤ 8) (S : IL) (hS : S.length ≤ 1000) (hI : ∀ o ∈ S, inP P o) (plan : PL) (hl : plan.length = P.length) :
    loopF (F12_l8 n P lanes S) n (0, plan) = some (runT P lanes S [] plan) := by
  refine (loopF_eq (F12_l8 n P lanes S) (fun d => some (runT P lanes (S.drop d.1.toNat) (S.take d.1.toNat) d.2)) (fun d => ∃ j : Nat, d.1 = j ∧ j ≤ S.length ∧ d.2.length = P.length) (fun d => S.length - d.1.toNat) ?_ n (0, plan) ⟨0, rfl, by omega, hl⟩ (by show S.length - (0 : Int).toNat < n; omega)).trans rfl
  rintro kk ⟨_, pl⟩ ⟨j, rfl, hj, hpl⟩ ih
  simp only at hpl
  simp only [F12_l8, Int.toNat_natCast]
  by_cases hjl : j < S.length
  · rw [decide_eq_true (show (j : Int) < (S.length : Nat) by omega), inb_true (by omega) (show (j : Int) < ((S.length : Nat) : Int) by omega)]
    simp only [cond_true]
    rw [show subB S.length none (some (j : Int)) = true by simp [subB]; omega, cond_true]
    have ht := hI _ (getD_mem' S j hjl)
    have hd : S.drop j = S.getD j 0 :: S.drop (j + 1) := by
      rw [List.drop_eq_getElem_cons hjl, List.getD_eq_getElem?_getD, List.getElem?_eq_getElem hjl]; rfl
    have htk : S.take (j + 1) = S.take j ++ [S.getD j 0] := by
      rw [List.take_add_one, List.getElem?_eq_getElem hjl, List.getD_eq_getElem?_getD, List.getElem?_eq_getElem hjl]; rfl
    generalize S.getD j 0 = t at *
    rw [placeP n hn hP pl hpl (S.take j) (by rw [List.length_take]; omega) (fun o ho => hI o (List.mem_of_mem_take ho)) t ht lanes hla, Option.bind_some, hd, runT]
    cases hf : fstG (badK P pl (S.take j) t) (lanes * (pk P t).toNat) 0 with
    | none => rfl
    | some k =>
      simp only [plR, Bool.not_true, cond_false]
      have wj : IntKind.wrap .i64 ((j : Int) + 1) = ((j + 1 : Nat) : Int) := by rw [w64 (by omega) (by omega)]; omega
      rw [inb_true ht.1 (by rw [hpl]; exact ht.2), cond_true, wj, ih _ ⟨j + 1, rfl, hjl, by simpa using hpl⟩ (by simp only [Int.toNat_natCast]; omega), Int.toNat_natCast, htk]
  · obtain rfl : j = S.length := by omega
    rw [decide_eq_false (show ¬ ((S.length : Nat) : Int) < ((S.length : Nat) : Int) by omega), cond_false, List.drop_length]; rfl
end Go.Proofs.Ytfcilapoefaanaa
