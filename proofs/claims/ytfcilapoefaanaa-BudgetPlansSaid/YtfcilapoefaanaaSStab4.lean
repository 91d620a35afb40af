/- Go's stable sort, part 4: symMerge, the general case. -/
import Derived.Test.YtfcilapoefaanaaSStab3
namespace Go.Proofs.Ytfcilapoefaanaa
open Go Go.RowKit
set_option linter.unusedVariables false

theorem getD_app (X L Z : IL) (a i : Int) (ha : a = X.length) (h1 : a ≤ i) (h2 : i < a + L.length) : (X ++ L ++ Z).getD i.toNat 0 = L.getD (i - a).toNat 0 := by
  rw [List.getD_eq_getElem?_getD, List.getD_eq_getElem?_getD, List.append_assoc, List.getElem?_append_right (by omega), List.getElem?_append_left (by omega)]
  congr 2
  omega
theorem getD_mem' (L : IL) (i : Nat) (h : i < L.length) : L.getD i 0 ∈ L := by
  rw [List.getD_eq_getElem?_getD, List.getElem?_eq_getElem h]; exact List.getElem_mem h
theorem srt_le {P L : IL} (h : L.Pairwise (Rl P)) {i j : Nat} (hij : i ≤ j) (hj : j < L.length) : pk P (L.getD i 0) ≤ pk P (L.getD j 0) := by
  rw [List.getD_eq_getElem?_getD, List.getD_eq_getElem?_getD, List.getElem?_eq_getElem hj, List.getElem?_eq_getElem (show i < L.length by omega)]
  show pk P L[i] ≤ pk P L[j]
  rcases Nat.lt_or_eq_of_le hij with h1 | rfl
  · exact rl_pk (List.pairwise_iff_getElem.1 h i j (by omega) hj h1)
  · exact Int.le_refl _
theorem mem_take' {L : IL} {k : Nat} {x : Int} (h : x ∈ L.take k) : ∃ i, i < k ∧ i < L.length ∧ x = L.getD i 0 := by
  obtain ⟨i, hi, rfl⟩ := List.getElem_of_mem h
  rw [List.length_take] at hi
  exact ⟨i, by omega, by omega, by rw [List.getElem_take, List.getD_eq_getElem?_getD, List.getElem?_eq_getElem (show i < L.length by omega)]; rfl⟩
theorem mem_drop' {L : IL} {k : Nat} {x : Int} (h : x ∈ L.drop k) : ∃ i, k ≤ i ∧ i < L.length ∧ x = L.getD i 0 := by
  obtain ⟨i, hi, rfl⟩ := List.getElem_of_mem h
  rw [List.length_drop] at hi
  exact ⟨k + i, by omega, by omega, by rw [List.getElem_drop, List.getD_eq_getElem?_getD, List.getElem?_eq_getElem (show k + i < L.length by omega)]; rfl⟩
theorem symGen (n : Nat) (hn : 300 < n) (P : IL) (rec_ : IL → Int → Int → Int → IL → Option IL) (sz : Nat) (hrec : SymOk P rec_ sz) (X L M Y : IL) (hP : okT P) (hsz : L.length + M.length ≤ sz + 1) (hL : ∀ x ∈ L, inP P x) (hM : ∀ x ∈ M, inP P x) (sL : L.Pairwise (Rl P)) (sM : M.Pairwise (Rl P)) (hst : ∀ x ∈ L, ∀ y ∈ M, pk P x = pk P y → x < y) (hl : (X ++ L ++ M ++ Y).length ≤ 64)
    (a m b mid s0 r0 : Int) (ha : a = X.length) (hm : m = a + L.length) (hb : b = m + M.length) (hmid : mid = (a + b) / 2) (h1 : a + 1 < b) (q1 : a ≤ s0) (q2 : r0 ≤ m) (q3 : s0 ≤ r0) (q4 : r0 ≤ mid) (q5 : mid + m - b ≤ s0) (q6 : s0 = a ∨ mid + m - s0 = b) (q7 : r0 = m ∨ r0 = mid) :
    ∃ S, loopF (F99_l16 n (X ++ L ++ M ++ Y) a m b P rec_) n (s0, r0) = some (X ++ S ++ Y) ∧ S.Perm (L ++ M) ∧ S.Pairwise (Rl P) := by
  have hl' := hl
  simp only [List.length_append] at hl'
  have DL : ∀ i : Int, a ≤ i → i < m → (X ++ L ++ M ++ Y).getD i.toNat 0 = L.getD (i - a).toNat 0 := fun i i1 i2 => by
    rw [List.append_assoc (X ++ L)]; exact getD_app X L (M ++ Y) a i ha i1 (by omega)
  have DM : ∀ i : Int, m ≤ i → i < b → (X ++ L ++ M ++ Y).getD i.toNat 0 = M.getD (i - m).toNat 0 := fun i i1 i2 =>
    getD_app (X ++ L) M Y m i (by rw [List.length_append]; omega) i1 (by omega)
  have main := loopF_post (F99_l16 n (X ++ L ++ M ++ Y) a m b P rec_) (fun d => s0 ≤ d.1 ∧ d.1 ≤ d.2 ∧ d.2 ≤ r0 ∧ (s0 < d.1 → pk P (L.getD (d.1 - 1 - a).toNat 0) ≤ pk P (M.getD (mid - d.1).toNat 0)) ∧ (d.2 < r0 → pk P (M.getD (mid - 1 - d.2).toNat 0) < pk P (L.getD (d.2 - a).toNat 0)))
    (fun _ r => ∃ S, r = X ++ S ++ Y ∧ S.Perm (L ++ M) ∧ S.Pairwise (Rl P)) (fun d => (d.2 - d.1).toNat) ?_ n (s0, r0) ⟨Int.le_refl _, q3, Int.le_refl _, fun h => absurd h (by simp), fun h => absurd h (by simp)⟩ (by show (r0 - s0).toNat < n; omega)
  · obtain ⟨r, h1, S, rfl, h2, h3⟩ := main
    exact ⟨S, h1, h2, h3⟩
  rintro kk ⟨s, r⟩ ⟨i1, i2, i3, i4, i5⟩ ih
  simp only at i1 i2 i3 i4 i5
  simp only [F99_l16]
  rw [half (a + b) (by omega), ← hmid, w64 (n := mid + m) (by omega) (by omega), w64 (n := mid + m - 1) (by omega) (by omega), w64 (n := mid + m - s) (by omega) (by omega)]
  by_cases hsr : s < r
  · rw [decide_eq_true hsr, cond_true, half (s + r) (by omega)]
    obtain ⟨c, hc⟩ : ∃ c : Int, (s + r) / 2 = c := ⟨_, rfl⟩
    rw [hc, w64 (n := mid + m - 1 - c) (by omega) (by omega), w64 (n := c + 1) (by omega) (by omega)]
    have c1 : s ≤ c := by omega
    have c2 : c < r := by omega
    have e1 := DM (mid + m - 1 - c) (by omega) (by omega)
    have e2 := DL c (by omega) (by omega)
    rw [inb_true (show (0 : Int) ≤ mid + m - 1 - c by omega) (show mid + m - 1 - c < ((X ++ L ++ M ++ Y).length : Int) by simp only [List.length_append]; omega), inb_true (show (0 : Int) ≤ c by omega) (show c < ((X ++ L ++ M ++ Y).length : Int) by simp only [List.length_append]; omega), e1, e2]
    rw [show (mid + m - 1 - c - m).toNat = (mid - 1 - c).toNat by congr 1; omega]
    have mM := getD_mem' M (mid - 1 - c).toNat (by omega)
    have mL := getD_mem' L (c - a).toNat (by omega)
    rw [cmpR n hP (hM _ mM) (hL _ mL)]
    simp only [cond_true, Option.bind_some]
    by_cases hlt : pk P (M.getD (mid - 1 - c).toNat 0) < pk P (L.getD (c - a).toNat 0)
    · rw [decide_eq_true (show pk P (M.getD (mid - 1 - c).toNat 0) - pk P (L.getD (c - a).toNat 0) < 0 by omega)]
      simp only [Bool.not_true, cond_false]
      exact ih _ ⟨i1, c1, by show c ≤ r0; omega, i4, fun _ => hlt⟩ (by show (c - s).toNat < (r - s).toNat; omega)
    · rw [decide_eq_false (show ¬ pk P (M.getD (mid - 1 - c).toNat 0) - pk P (L.getD (c - a).toNat 0) < 0 by omega)]
      simp only [Bool.not_false, cond_true]
      refine ih _ ⟨by show s0 ≤ c + 1; omega, by show c + 1 ≤ r; omega, i3, fun _ => ?_, i5⟩ (by show (r - (c + 1)).toNat < (r - s).toNat; omega)
      show pk P (L.getD (c + 1 - 1 - a).toNat 0) ≤ pk P (M.getD (mid - (c + 1)).toNat 0)
      rw [show (c + 1 - 1 - a).toNat = (c - a).toNat by congr 1; omega, show (mid - (c + 1)).toNat = (mid - 1 - c).toNat by congr 1; omega]
      omega
  · obtain rfl : r = s := by omega
    rw [decide_eq_false hsr, cond_false]
    clear ih i2 hsr
    -- the four parts
    obtain ⟨L1, hL1⟩ : ∃ L1, L.take (r - a).toNat = L1 := ⟨_, rfl⟩
    obtain ⟨L2, hL2⟩ : ∃ L2, L.drop (r - a).toNat = L2 := ⟨_, rfl⟩
    obtain ⟨M1, hM1⟩ : ∃ M1, M.take (mid - r).toNat = M1 := ⟨_, rfl⟩
    obtain ⟨M2, hM2⟩ : ∃ M2, M.drop (mid - r).toNat = M2 := ⟨_, rfl⟩
    have eL : L = L1 ++ L2 := by rw [← hL1, ← hL2, List.take_append_drop]
    have eM : M = M1 ++ M2 := by rw [← hM1, ← hM2, List.take_append_drop]
    have lL1 : (L1.length : Int) = r - a := by rw [← hL1, List.length_take]; omega
    have lM1 : (M1.length : Int) = mid - r := by rw [← hM1, List.length_take]; omega
    have lL : L.length = L1.length + L2.length := by rw [eL, List.length_append]
    have lM : M.length = M1.length + M2.length := by rw [eM, List.length_append]
    have x1 : ∀ x ∈ L1, ∀ y ∈ M2, Rl P x y := by
      intro x hx y hy
      rw [← hL1] at hx; rw [← hM2] at hy
      obtain ⟨i, k1, k2, rfl⟩ := mem_take' hx
      obtain ⟨j, k3, k4, rfl⟩ := mem_drop' hy
      rcases Int.lt_or_eq_of_le i1 with h | h
      · have e := i4 h
        have f1 := srt_le sL (show i ≤ (r - 1 - a).toNat by omega) (by omega)
        have f2 := srt_le sM (show (mid - r).toNat ≤ j by omega) k4
        have f3 : pk P (L.getD i 0) ≤ pk P (M.getD j 0) := by omega
        rcases Int.lt_or_eq_of_le f3 with f | f
        · exact .inl f
        · exact .inr ⟨f, hst _ (getD_mem' L i k2) _ (getD_mem' M j k4) f⟩
      · exfalso; omega
    have x2 : ∀ x ∈ M1, ∀ y ∈ L2, Rl P x y := by
      intro x hx y hy
      rw [← hM1] at hx; rw [← hL2] at hy
      obtain ⟨i, k1, k2, rfl⟩ := mem_take' hx
      obtain ⟨j, k3, k4, rfl⟩ := mem_drop' hy
      rcases Int.lt_or_eq_of_le i3 with h | h
      · have e := i5 h
        have f1 := srt_le sM (show i ≤ (mid - 1 - r).toNat by omega) (by omega)
        have f2 := srt_le sL (show (r - a).toNat ≤ j by omega) k4
        exact .inl (by omega)
      · exfalso; omega
    have inL1 : ∀ x ∈ L1, x ∈ L := fun x hx => by rw [eL]; exact List.mem_append_left _ hx
    have inL2 : ∀ x ∈ L2, x ∈ L := fun x hx => by rw [eL]; exact List.mem_append_right _ hx
    have inM1 : ∀ x ∈ M1, x ∈ M := fun x hx => by rw [eM]; exact List.mem_append_left _ hx
    have inM2 : ∀ x ∈ M2, x ∈ M := fun x hx => by rw [eM]; exact List.mem_append_right _ hx
    have sL' := sL; rw [eL] at sL'
    have sM' := sM; rw [eM] at sM'
    obtain ⟨sL1, sL2, _⟩ := List.pairwise_append.1 sL'
    obtain ⟨sM1, sM2, _⟩ := List.pairwise_append.1 sM'
    -- what follows, behind the rotation
    have tail : ∀ k : IL → Option IL, (∀ d, k d = bif decide (mid < mid + m - r) then (bif decide (mid + m - r < b) then (rec_ d mid (mid + m - r) b P).bind some else some d) else some d) →
        ∃ r', (bif decide (a < r) then (bif decide (r < mid) then (rec_ (X ++ L1 ++ M1 ++ (L2 ++ M2 ++ Y)) a r mid P).bind k else k (X ++ L1 ++ M1 ++ (L2 ++ M2 ++ Y))) else k (X ++ L1 ++ M1 ++ (L2 ++ M2 ++ Y))) = some r' ∧ ∃ S, r' = X ++ S ++ Y ∧ S.Perm (L ++ M) ∧ S.Pairwise (Rl P) := by
      intro k hk
      obtain ⟨S1, e1, p1, s1⟩ := symOpt hrec X L1 M1 (L2 ++ M2 ++ Y) (by omega) (fun x hx => hL x (inL1 x hx)) (fun x hx => hM x (inM1 x hx)) sL1 sM1 (fun x hx y hy => hst x (inL1 x hx) y (inM1 y hy)) (by simp only [List.length_append]; omega) a r mid ha (by omega) (by omega) k
      have lS := p1.length_eq
      rw [List.length_append] at lS
      obtain ⟨S2, e2, p2, s2⟩ := symOpt hrec (X ++ S1) L2 M2 Y (by omega) (fun x hx => hL x (inL2 x hx)) (fun x hx => hM x (inM2 x hx)) sL2 sM2 (fun x hx y hy => hst x (inL2 x hx) y (inM2 y hy)) (by simp only [List.length_append]; omega) mid (mid + m - r) b (by rw [List.length_append]; omega) (by omega) (by omega) some
      obtain ⟨c1, c2⟩ := pw_cross eL eM sL sM x1 x2 p1 s1 p2 s2
      rw [e1, hk, show X ++ S1 ++ (L2 ++ M2 ++ Y) = X ++ S1 ++ L2 ++ M2 ++ Y by simp, e2]
      exact ⟨_, rfl, S1 ++ S2, by simp, c1, c2⟩
    have k18 : ∀ d, F99_j18 n a m b P rec_ r d = bif decide (mid < mid + m - r) then (bif decide (mid + m - r < b) then (rec_ d mid (mid + m - r) b P).bind some else some d) else some d := fun d => by
      simp only [F99_j18]
      rw [half (a + b) (by omega), ← hmid, w64 (n := mid + m) (by omega) (by omega), w64 (n := mid + m - r) (by omega) (by omega)]
    have k19 : ∀ d, F99_j19 n a m b P rec_ r d = bif decide (mid < mid + m - r) then (bif decide (mid + m - r < b) then (rec_ d mid (mid + m - r) b P).bind some else some d) else some d := fun d => by
      simp only [F99_j19]
      rw [half (a + b) (by omega), ← hmid, w64 (n := mid + m) (by omega) (by omega), w64 (n := mid + m - r) (by omega) (by omega)]
    have k17 : ∀ d, F99_j17 n a m b P rec_ r d = bif decide (a < r) then (bif decide (r < mid) then (rec_ d a r mid P).bind (F99_j18 n a m b P rec_ r) else F99_j18 n a m b P rec_ r d) else F99_j18 n a m b P rec_ r d := fun d => by
      rw [k18 d]
      simp only [F99_j17]
      rw [half (a + b) (by omega), ← hmid, w64 (n := mid + m) (by omega) (by omega), w64 (n := mid + m - r) (by omega) (by omega), k18 d]
    have ed : X ++ L ++ M ++ Y = (X ++ L1) ++ L2 ++ M1 ++ (M2 ++ Y) := by rw [eL, eM]; simp
    by_cases hrm : r < m
    · rw [decide_eq_true hrm, cond_true]
      by_cases hmr : m < mid + m - r
      · rw [decide_eq_true hmr, cond_true, ed]
        have rot := rotR n (by omega) P (X ++ L1) L2 M1 (M2 ++ Y) (List.length_pos_iff.1 (by omega)) (List.length_pos_iff.1 (by omega)) (by simp only [List.length_append]; omega) r m (mid + m - r) (by rw [List.length_append]; omega) (by rw [List.length_append]; omega) (by rw [List.length_append]; omega)
        rw [rot, Option.bind_some, k17]
        have := tail _ k18
        rw [show X ++ L1 ++ M1 ++ L2 ++ (M2 ++ Y) = X ++ L1 ++ M1 ++ (L2 ++ M2 ++ Y) by simp]
        exact this
      · rw [decide_eq_false hmr, cond_false, k17]
        have hM0 : M1 = [] := List.length_eq_zero_iff.1 (by omega)
        have := tail _ k18
        rw [show X ++ L ++ M ++ Y = X ++ L1 ++ M1 ++ (L2 ++ M2 ++ Y) by rw [eL, eM, hM0]; simp]
        exact this
    · rw [decide_eq_false hrm, cond_false]
      have hL0 : L2 = [] := List.length_eq_zero_iff.1 (by omega)
      have := tail _ k19
      rw [k19] at this
      rw [show X ++ L ++ M ++ Y = X ++ L1 ++ M1 ++ (L2 ++ M2 ++ Y) by rw [eL, eM, hL0]; simp, k19]
      exact this
theorem symOk (P : IL) (hP : okT P) : ∀ (sz n : Nat), 300 + sz < n → SymOk P (F99 n) sz
  | 0, n, hn => fun X L M Y hL hM hsz => by
    have := List.length_pos_iff.2 hL; omega
  | sz + 1, n, hn => by
    intro X L M Y hL hM hsz iL iM sL sM hst hl a m b ha hm hb
    obtain ⟨n, rfl⟩ : ∃ k, n = k + 1 := ⟨n - 1, by omega⟩
    have lL := List.length_pos_iff.2 hL
    have lM := List.length_pos_iff.2 hM
    have hl' := hl
    simp only [List.length_append] at hl'
    show ∃ S, F99_b n (F99 n) (X ++ L ++ M ++ Y) a m b P = _ ∧ _
    unfold F99_b
    rw [w64 (n := m - a) (by omega) (by omega), w64 (n := b - m) (by omega) (by omega)]
    by_cases h1 : L.length = 1
    · obtain ⟨x, rfl⟩ := List.length_eq_one_iff.1 h1
      rw [show (m - a == 1) = true by simp at hm ⊢; omega, cond_true]
      exact symL n (by omega) P X x M Y hP (iL x (by simp)) iM sM (fun y hy => hst x (by simp) y hy) hl a m b ha (by simpa using hm) hb
    · rw [show (m - a == 1) = false by rw [beq_eq_false_iff_ne]; omega, cond_false]
      by_cases h2 : M.length = 1
      · obtain ⟨y, rfl⟩ := List.length_eq_one_iff.1 h2
        rw [show (b - m == 1) = true by simp at hb ⊢; omega, cond_true]
        exact symRt n (by omega) P X L y Y hP (iM y (by simp)) iL sL (fun x hx => hst x hx y (by simp)) hl a m ha hm
      · rw [show (b - m == 1) = false by rw [beq_eq_false_iff_ne]; omega, cond_false, half (a + b) (by omega)]
        obtain ⟨mid, hmid⟩ : ∃ mid : Int, (a + b) / 2 = mid := ⟨_, rfl⟩
        rw [hmid, w64 (n := mid + m) (by omega) (by omega), w64 (n := mid + m - b) (by omega) (by omega)]
        have hrec := symOk P hP sz n (by omega)
        by_cases h3 : m > mid
        · rw [decide_eq_true h3, cond_true]
          exact symGen n (by omega) P _ sz hrec X L M Y hP hsz iL iM sL sM hst hl a m b mid (mid + m - b) mid ha hm hb hmid.symm (by omega) (by omega) (by omega) (by omega) (by omega) (by omega) (.inr (by omega)) (.inr rfl)
        · rw [decide_eq_false h3, cond_false]
          exact symGen n (by omega) P _ sz hrec X L M Y hP hsz iL iM sL sM hst hl a m b mid a m ha hm hb hmid.symm (by omega) (by omega) (by omega) (by omega) (by omega) (by omega) (.inl rfl) (.inl rfl)
end Go.Proofs.Ytfcilapoefaanaa
