/- Keyboard reports: what comes of them; in plain Lean. -/
import Derived.Test.YtnhdocmdjlijkaaSKeyF
namespace Go.Proofs.Ytnhdocmdjlijkaa
open Go Go.RowKit
set_option linter.unusedVariables false

def rdV (n : Nat) (s : Tx) : BitsL × Int := (F12 n s).getD ([], 0)
theorem rdV_ok (n : Nat) (hn : 400 < n) (s : Tx) (hs : s.length ≤ 4611686018427387904) : F12 n s = some (rdV n s) ∧ F13 n s = some (rdV n s) ∧ ((rdV n s).2 = 0 → G4 (rdV n s).1) := by
  obtain ⟨r, h1, h2, h3⟩ := readN n hn s hs
  have e : rdV n s = r := by unfold rdV; rw [h1]; rfl
  rw [e]
  exact ⟨h1, h2, h3⟩
/-- the sets of the reports that count -/
def VS (n : Nat) (l : List Tx) : List BitsL := l.filterMap fun s => if (rdV n s).2 = 0 then some (rdV n s).1 else none
theorem VS_cons (n : Nat) (s : Tx) (l : List Tx) : VS n (s :: l) = (if (rdV n s).2 = 0 then [(rdV n s).1] else []) ++ VS n l := by
  unfold VS
  rw [List.filterMap_cons]
  by_cases h : (rdV n s).2 = 0
  · rw [if_pos h, if_pos h]; rfl
  · rw [if_neg h, if_neg h]; rfl
theorem VS_len (n : Nat) (l : List Tx) : (VS n l).length ≤ l.length := List.length_filterMap_le _ _
def DL (a b : BitsL) : List (Int × Bool) := onlyC a b false ++ onlyC b a true
theorem DL_len (a b : BitsL) : (DL a b).length ≤ 512 := by
  have h1 := onlyC_len a b false
  have h2 := onlyC_len b a true
  unfold DL
  rw [List.length_append]; omega
def dlL : BitsL → List BitsL → List (Int × Bool)
  | _, [] => []
  | a, b :: l => DL a b ++ dlL b l
theorem dlL_len : ∀ (l : List BitsL) (a : BitsL), (dlL a l).length ≤ 512 * l.length
  | [], _ => by simp [dlL]
  | b :: l, a => by
    have h1 := DL_len a b
    have h2 := dlL_len l b
    simp only [dlL, List.length_append, List.length_cons]; omega
def lastB : BitsL → List BitsL → BitsL
  | a, [] => a
  | _, b :: l => lastB b l
theorem drop_cons {α : Type} (l : List α) (k : Nat) (d : α) (h : k < l.length) : l.drop k = l.getD k d :: l.drop (k + 1) := by
  rw [List.drop_eq_getElem_cons h]; simp [List.getD_eq_getElem?_getD, h]
theorem getD_le (l : List Tx) (hl : ∀ s ∈ l, s.length ≤ 4611686018427387904) (k : Nat) : (l.getD k []).length ≤ 4611686018427387904 := by
  rw [List.getD_eq_getElem?_getD]
  cases h : l[k]? with
  | none => simp
  | some s => exact hl s (List.mem_of_getElem? h)
theorem feedP (n : Nat) (reports : List Tx) (hr : reports.length ≤ 1048576) (hn : 1100000 < n) (hl : ∀ s ∈ reports, s.length ≤ 4611686018427387904) (h : BitsL) (hh : G4 h) :
    F21 n h reports = some (lastB h (VS n reports), ((reports.length - (VS n reports).length : Nat) : Int), dlL h (VS n reports)) := by
  unfold F21
  refine (loopF_eq (F21_l2 n reports) (fun d => some (lastB d.2.2.1 (VS n (reports.drop d.2.1.toNat)), d.1 + (((reports.drop d.2.1.toNat).length - (VS n (reports.drop d.2.1.toNat)).length : Nat) : Int), d.2.2.2 ++ dlL d.2.2.1 (VS n (reports.drop d.2.1.toNat))))
    (fun d => ∃ k : Nat, d.2.1 = (k : Int) ∧ k ≤ reports.length ∧ 0 ≤ d.1 ∧ d.1 ≤ (k : Int) ∧ G4 d.2.2.1 ∧ d.2.2.2.length ≤ 512 * k) (fun d => reports.length - d.2.1.toNat) ?_ n _ ⟨0, rfl, by omega, by simp, by simp, hh, by simp⟩ (by simp; omega)).trans (by simp)
  rintro kk ⟨sk, x, m0, m2⟩ ⟨k, hx, hk, hs0, hs1, hg, hm⟩ ih
  simp only at hx hs0 hs1 hg hm
  subst hx
  simp only [F21_l2, Int.toNat_natCast]
  by_cases hlt : k < reports.length
  · have ek : ((k : Int) + 1).toNat = k + 1 := by omega
    obtain ⟨e1, _, e3⟩ := rdV_ok n (by omega) (reports.getD k []) (getD_le reports hl k)
    rw [decide_eq_true (show (k : Int) < ((reports.length : Nat) : Int) by omega), inb_true (by omega) (by omega), e1, w64 (n := (k : Int) + 1) (by omega) (by omega), drop_cons reports k [] hlt, VS_cons]
    simp only [cond_true, Option.bind_some]
    have hvl := VS_len n (reports.drop (k + 1))
    by_cases h0 : (rdV n (reports.getD k [])).2 = 0
    · have hg2 := e3 h0
      rw [show ((rdV n (reports.getD k [])).2 != 0) = false by rw [h0]; rfl, if_pos h0]
      unfold F19
      rw [diffV_eq _ _ hg hg2]
      have hdl := DL_len m0 (rdV n (reports.getD k [])).1
      unfold DL at hdl
      simp only [cond_false, Option.bind_some]
      rw [decide_eq_true (show m2.length + (onlyC m0 (rdV n (reports.getD k [])).1 false ++ onlyC (rdV n (reports.getD k [])).1 m0 true).length ≤ 8796093022208 by omega)]
      simp only [cond_true]
      rw [ih _ ⟨k + 1, by simp, by omega, hs0, by omega, hg2, by rw [List.length_append]; omega⟩ (by simp only [Int.toNat_natCast, ek]; omega)]
      simp only [ek, List.cons_append, List.nil_append, lastB, dlL, DL, List.length_cons, List.append_assoc]
      congr 3
      omega
    · rw [show ((rdV n (reports.getD k [])).2 != 0) = true from bne_iff_ne.2 h0, if_neg h0]
      simp only [cond_true, List.nil_append]
      rw [w64 (n := sk + 1) (by omega) (by omega), ih _ ⟨k + 1, by simp, by omega, by dsimp only; omega, by dsimp only; omega, hg, by dsimp only; omega⟩ (by simp only [Int.toNat_natCast, ek]; omega)]
      simp only [ek, List.length_cons]
      congr 3
      omega
  · rw [decide_eq_false (show ¬ (k : Int) < ((reports.length : Nat) : Int) by omega), List.drop_of_length_le (by omega)]
    simp [VS, lastB, dlL]
theorem lastB_getD : ∀ (l : List BitsL) (a d : BitsL), (a :: l).getD l.length d = lastB a l
  | [], a, d => rfl
  | b :: l, a, d => by
    have := lastB_getD l b d
    simp only [List.length_cons, List.getD_cons_succ, lastB]
    exact this
theorem feedR (n : Nat) (reports : List Tx) (hr : reports.length ≤ 1048576) (hn : 1100000 < n) (hl : ∀ s ∈ reports, s.length ≤ 4611686018427387904) (h : BitsL) (hh : G4 h) :
    F22 n h reports = some (lastB h (VS n reports), ((reports.length - (VS n reports).length : Nat) : Int), dlL h (VS n reports)) := by
  have hvl := VS_len n reports
  -- behind all reports
  have fin : ∀ m1 : List BitsL, m1 = h :: VS n reports → (∀ b ∈ m1, G4 b) → loopF (F22_l8 n reports m1) n (1, ([] : List (Int × Bool))) = some (lastB h (VS n reports), ((reports.length - (VS n reports).length : Nat) : Int), dlL h (VS n reports)) := by
    intro m1 hm1 hg
    have hml : m1.length = (VS n reports).length + 1 := by rw [hm1]; rfl
    have hgd : ∀ i, i < m1.length → G4 (m1.getD i (List.replicate 4 0)) := fun i hi => by
      rw [List.getD_eq_getElem?_getD, List.getElem?_eq_getElem hi]
      exact hg _ (List.getElem_mem hi)
    refine (loopF_eq (F22_l8 n reports m1) (fun d => some (lastB h (VS n reports), ((reports.length - (VS n reports).length : Nat) : Int), d.2 ++ dlL (m1.getD (d.1.toNat - 1) (List.replicate 4 0)) (m1.drop d.1.toNat)))
      (fun d => ∃ i : Nat, d.1 = (i : Int) ∧ 1 ≤ i ∧ i ≤ m1.length ∧ d.2.length ≤ 512 * i) (fun d => m1.length - d.1.toNat) ?_ n _ ⟨1, rfl, by omega, by omega, by simp⟩ (by simp; omega)).trans (by rw [hm1]; simp)
    rintro kk ⟨x, m2⟩ ⟨i, hx, h1, h2, h3⟩ ih
    simp only at hx h3
    subst hx
    simp only [F22_l8, Int.toNat_natCast]
    by_cases hlt : i < m1.length
    · have ek : ((i : Int) + 1).toNat = i + 1 := by omega
      have ep : ((i : Int) - 1).toNat = i - 1 := by omega
      rw [decide_eq_true (show (i : Int) < ((m1.length : Nat) : Int) by omega), w64 (n := (i : Int) - 1) (by omega) (by omega), inb_true (i := (i : Int) - 1) (by omega) (by omega), inb_true (i := (i : Int)) (by omega) (by omega), ep, keyDiffR n (by omega) _ _ (hgd (i - 1) (by omega)) (hgd i hlt), drop_cons m1 i (List.replicate 4 0) hlt, w64 (n := (i : Int) + 1) (by omega) (by omega)]
      have hdl := DL_len (m1.getD (i - 1) (List.replicate 4 0)) (m1.getD i (List.replicate 4 0))
      unfold DL at hdl
      simp only [cond_true, Option.bind_some]
      rw [decide_eq_true (show m2.length + (onlyC (m1.getD (i - 1) (List.replicate 4 0)) (m1.getD i (List.replicate 4 0)) false ++ onlyC (m1.getD i (List.replicate 4 0)) (m1.getD (i - 1) (List.replicate 4 0)) true).length ≤ 8796093022208 by omega)]
      simp only [cond_true]
      rw [ih _ ⟨i + 1, by simp, by omega, by omega, by rw [List.length_append]; omega⟩ (by simp only [Int.toNat_natCast, ek]; omega)]
      simp only [ek, Nat.add_sub_cancel, dlL, DL, List.append_assoc]
    · have hi : i = m1.length := by omega
      rw [decide_eq_false (show ¬ (i : Int) < ((m1.length : Nat) : Int) by omega)]
      have el : (((m1.length : Nat) : Int) - 1).toNat = (VS n reports).length := by omega
      rw [w64 (n := ((m1.length : Nat) : Int) - 1) (by omega) (by omega), inb_true (i := ((m1.length : Nat) : Int) - 1) (by omega) (by omega), el, w64 (n := ((reports.length : Nat) : Int) - ((m1.length : Nat) : Int)) (by omega) (by omega), w64 (n := ((reports.length : Nat) : Int) - ((m1.length : Nat) : Int) + 1) (by omega) (by omega), List.drop_of_length_le (by omega)]
      simp only [cond_true, cond_false, dlL, List.append_nil]
      rw [show m1.getD (VS n reports).length (List.replicate 4 0) = lastB h (VS n reports) by rw [hm1]; exact lastB_getD _ _ _]
      congr 3
      omega
  unfold F22
  refine (loopF_eq (F22_l7 n reports) (fun d => some (lastB h (VS n reports), ((reports.length - (VS n reports).length : Nat) : Int), dlL h (VS n reports)))
    (fun d => ∃ k : Nat, d.1 = (k : Int) ∧ k ≤ reports.length ∧ d.2 ++ VS n (reports.drop k) = h :: VS n reports ∧ (∀ b ∈ d.2, G4 b) ∧ d.2.length ≤ k + 1) (fun d => reports.length - d.1.toNat) ?_ n _ ⟨0, rfl, by omega, by simp, by simpa using hh, by simp⟩ (by simp; omega))
  rintro kk ⟨x, m1⟩ ⟨k, hx, hk, hm, hg, hlen⟩ ih
  simp only at hx hm hg hlen
  subst hx
  simp only [F22_l7, Int.toNat_natCast]
  by_cases hlt : k < reports.length
  · have ek : ((k : Int) + 1).toNat = k + 1 := by omega
    obtain ⟨_, e2, e3⟩ := rdV_ok n (by omega) (reports.getD k []) (getD_le reports hl k)
    rw [decide_eq_true (show (k : Int) < ((reports.length : Nat) : Int) by omega), inb_true (by omega) (by omega), e2, w64 (n := (k : Int) + 1) (by omega) (by omega)]
    rw [drop_cons reports k [] hlt, VS_cons] at hm
    simp only [cond_true, Option.bind_some]
    by_cases h0 : (rdV n (reports.getD k [])).2 = 0
    · rw [if_pos h0] at hm
      rw [show ((rdV n (reports.getD k [])).2 == 0) = true from beq_iff_eq.2 h0, decide_eq_true (show m1.length + [(rdV n (reports.getD k [])).1].length ≤ 4398046511104 by simp only [List.length_cons, List.length_nil]; omega)]
      exact ih _ ⟨k + 1, by simp, by omega, by rw [List.append_assoc]; exact hm, fun b hb => by
        rcases List.mem_append.1 hb with hb | hb
        · exact hg b hb
        · rw [List.mem_singleton] at hb; subst hb; exact e3 h0, by simp; omega⟩ (by simp only [Int.toNat_natCast, ek]; omega)
    · rw [if_neg h0, List.nil_append] at hm
      rw [show ((rdV n (reports.getD k [])).2 == 0) = false from beq_eq_false_iff_ne.2 h0]
      exact ih _ ⟨k + 1, by simp, by omega, hm, hg, by dsimp only; omega⟩ (by simp only [Int.toNat_natCast, ek]; omega)
  · rw [decide_eq_false (show ¬ (k : Int) < ((reports.length : Nat) : Int) by omega)]
    rw [List.drop_of_length_le (by omega)] at hm
    simp only [VS, List.filterMap_nil, List.append_nil] at hm
    exact fin m1 hm hg
theorem sumL_ge {α : Type} (f : α → Nat) : ∀ (l : List α), (∀ x, 1 ≤ f x) → l.length ≤ sumL f l
  | [], _ => by simp [sumL]
  | x :: l, h => by
    have h1 := h x
    have h2 := sumL_ge f l h
    simp only [sumL, List.length_cons]; omega
theorem keysFeeds_says (a0 : Sh.T (.st (.arr 4 (.int .u64)))) (g0 : Sh.good (.st (.arr 4 (.int .u64))) a0) (u0 : Sh.bulk (.st (.arr 4 (.int .u64))) a0 ≤ 1048576) (a1 : Sh.T (.sl .str)) (g1 : Sh.good (.sl .str) a1) (u1 : Sh.bulk (.sl .str) a1 ≤ 1048576) :
    ∃ n, F5 n a0 a1 = some true := by
  have hl : List.length a1 ≤ 1048576 := by
    have h1 : List.length a1 ≤ sumL (Sh.bulk .str) a1 := sumL_ge (Sh.bulk .str) a1 (fun x => by simp [Sh.bulk])
    have h2 : sumL (Sh.bulk .str) a1 + 1 ≤ 1048576 := u1
    omega
  have hs : ∀ s ∈ a1, List.length s ≤ 4611686018427387904 := fun s h => by
    have h1 : List.length s ≤ sumL (Sh.bulk .str) a1 + 1 := by
      have : ∀ l : List (List UInt8), s ∈ l → List.length s ≤ sumL (Sh.bulk .str) l := by
        intro l
        induction l with
        | nil => intro h; cases h
        | cons x l ih =>
          intro h
          simp only [sumL, Sh.bulk]
          rcases List.mem_cons.1 h with e | e
          · subst e; omega
          · have := ih e
            simp only [Sh.bulk] at this
            omega
      have := this a1 h
      omega
    have h2 : sumL (Sh.bulk .str) a1 + 1 ≤ 1048576 := u1
    omega
  refine ⟨1000000000, ?_⟩
  unfold F5
  rw [feedP _ a1 hl (by omega) hs a0 (good_g4 _ g0), feedR _ a1 hl (by omega) hs a0 (good_g4 _ g0)]
  have h1 := dlL_len (VS 1000000000 a1) a0
  have h2 := VS_len 1000000000 a1
  simp only [Option.bind_some, Sh.beq_self, cond_true]
  rw [eqKeys _ _ (by omega) (by omega)]
  simp
end Go.Proofs.Ytnhdocmdjlijkaa
