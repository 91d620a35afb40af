/- Serve; in plain Lean: the law. -/
import Derived.Test.YtbodjbpgdkkohaaSServe2
namespace Go.Proofs.Ytbodjbpgdkkohaa
open Go Go.RowKit
set_option linter.unusedVariables false

abbrev RdT := Int × Int × Bool × Int × Tx × Int
theorem jud_code (hd hl dd dl : Int) : (judV hd hl dd dl).2.2.2.1 = 0 ∨ (judV hd hl dd dl).2.2.2.1 = 2 := by
  unfold judV
  split
  · left; rfl
  · unfold cV; split
    · right; rfl
    · left; rfl
theorem jud_moved (hd hl dd dl : Int) (h1 : 0 ≤ hl) (h2 : 0 ≤ dl) : 0 ≤ (judV hd hl dd dl).2.1 ∧ (judV hd hl dd dl).2.1 ≤ hl ∧ (judV hd hl dd dl).2.1 ≤ dl := by
  unfold judV
  split
  · exact ⟨Int.le_refl _, h1, h2⟩
  · unfold cV; split
    · exact ⟨Int.le_refl _, h1, h2⟩
    · simp only [mn]; split <;> omega
theorem jud_in (hl dl : Int) (h : (judV 1 hl 2 dl).2.2.2.1 ≠ 2) : (judV 1 hl 2 dl).2.1 = 0 := by
  unfold judV at h ⊢
  split
  · rfl
  · rename_i hh
    rw [if_neg hh] at h
    exact absurd rfl h
theorem oV_nonneg (D : List DTx) (sn : Int) (c : DTx) : 0 ≤ (oV D sn c).2 := by
  unfold oV; split <;> simp
theorem iV_cases (D : List DTx) (sn : Int) (c : DTx) : ((iV D sn c).1 = 2 ∧ 0 ≤ (iV D sn c).2) ∨ iV D sn c = oV D sn c := by
  unfold iV; split
  · left; exact ⟨rfl, by simp only; omega⟩
  · right; rfl
theorem iV_nonneg (D : List DTx) (sn : Int) (c : DTx) : 0 ≤ (iV D sn c).2 := by
  rcases iV_cases D sn c with h | h
  · exact h.2
  · rw [h]; exact oV_nonneg D sn c
theorem outLen (D : List DTx) (sn : Int) (c d : DTx) : (doV D sn c d).2.2.1.length ≤ 1024 := by
  unfold doV
  split
  · simp
  rename_i hk
  split
  · simp
  obtain ⟨⟨_, hD⟩, h16, _⟩ := disk0 (by simpa using hk)
  simp only
  have tk : ∀ (l : DTx) (k : Nat), l.length ≤ 1024 → (l.take k).length ≤ 1024 := fun l k h => by rw [List.length_take]; omega
  unfold outV
  split
  · exact tk _ _ (by simp)
  split
  · exact tk _ _ (by simp)
  split
  · exact tk _ _ (by simp)
  split
  · simp
  split
  · rw [flat_len _ (fun b hb => h16 b (List.mem_of_mem_take (List.mem_of_mem_drop hb))), List.length_drop, List.length_take]; omega
  · simp
theorem form_cases (c : DTx) : formV c = 0 ∨ formV c = 32 ∨ formV c = 36 := by
  unfold formV
  split
  · right; left; rfl
  split
  · right; left; rfl
  split
  · right; right; rfl
  split
  · right; right; rfl
  split
  · right; right; rfl
  · left; rfl
theorem sen_cases (D : List DTx) (c d : DTx) : (senV D c d).1 = 0 ∨ (senV D c d).1 = 32 ∨ (senV D c d).1 = 33 ∨ (senV D c d).1 = 36 := by
  unfold senV
  split
  · rcases form_cases c with h | h | h
    · left; exact h
    · right; left; exact h
    · right; right; right; exact h
  split
  · left; rfl
  split
  · right; right; left; rfl
  split
  · right; right; right; rfl
  · left; rfl
theorem mkDisk {D : List DTx} {sn : Int} (h1 : 1 ≤ D.length ∧ D.length ≤ 64) (h2 : ∀ b ∈ D, b.length = 16) (h3 : sn = 0 ∨ sn = 32 ∨ sn = 33 ∨ sn = 36) : diskV D sn = 0 := by
  unfold diskV
  rw [if_neg (fun h => h h1), if_neg (by rw [(all16_iff D).2 h2]; simp), if_pos]
  rcases h3 with h | h | h | h <;> simp [h]
theorem doV_disk (D : List DTx) (sn : Int) (c d : DTx) (hk : diskV D sn = 0) : diskV (doV D sn c d).1 (doV D sn c d).2.1 = 0 := by
  obtain ⟨h1, h2, h3⟩ := disk0 hk
  by_cases q : (senV D c d).1 = 0
  · rw [doV_ok hk q]
    have hl := doV_len D sn c d
    rw [doV_ok hk q] at hl
    simp only at hl ⊢
    by_cases q2 : by' c 0 = 42
    · rw [if_pos q2] at hl ⊢
      refine mkDisk (by omega) (newD_16 D h2 _ _ d ?_) (.inl rfl)
      have q' := q
      unfold senV at q'
      split at q'
      · rename_i h; exact absurd q' h
      rename_i hf
      split at q'
      · rename_i h
        have := (form0 (by simpa using hf)).2.2
        rw [q2] at this h
        simp at this
        omega
      split at q'
      · simp at q'
      split at q'
      · simp at q'
      · rename_i h; exact Classical.byContradiction fun hh => h ⟨q2, hh⟩
    · rw [if_neg q2]
      exact mkDisk h1 h2 (.inl rfl)
  · rw [doV_bad hk q]
    refine mkDisk h1 h2 ?_
    rcases sen_cases D c d with h | h | h | h <;> simp [h]
theorem stV_len (t r c : Int) : (stV t r c).1.length ≤ 13 := by
  unfold stV
  split
  · simp only [List.length_append, lb_len, List.length_cons, List.length_nil, strOf, List.length_map]; omega
  · simp
theorem serveJ (n : Nat) (hn : 100000 < n) (D : List DTx) (sn : Int) (data : Tx) (hk : diskV D sn = 0) (r : RdT) (m4 : Int) (hl : 0 ≤ r.2.1) (hc : 1 ≤ r.2.2.2.2.1.length) (hd : data.length ≤ 140737488355328) :
    F11_j6 n D sn data r m4 = F12_j4 n D sn data r (m4, r.2.1) ∧ (F11_j6 n D sn data r m4).isSome = true ∧ ∀ v, F11_j6 n D sn data r m4 = some v → (v.1.length = D.length ∧ v.2.2.1.length ≤ 1024 ∧ v.2.2.2.1.length ≤ 13 ∧ (diskV D sn = 0 → diskV v.1 v.2.1 = 0)) := by
  obtain ⟨hD, _, _⟩ := disk0 hk
  obtain ⟨t, l, b, u, c, e⟩ := r
  simp only at hl hc
  simp only [F11_j6, F12_j4]
  rw [intP n hn D sn c hk hc, meantR n hn D sn c hk hc]
  simp only [Option.bind_some]
  rw [judP, judR n (by omega)]
  simp only [Option.bind_some]
  have hcode := jud_code m4 l (iV D sn c).1 (iV D sn c).2
  have hmov := jud_moved m4 l (iV D sn c).1 (iV D sn c).2 hl (iV_nonneg D sn c)
  have hin : m4 = 1 → (judV m4 l (iV D sn c).1 (iV D sn c).2).2.2.2.1 ≠ 2 → (judV m4 l (iV D sn c).1 (iV D sn c).2).2.1 ≤ (((doV D sn c []).2.2.1.length : Nat) : Int) := by
    intro h1 h2
    subst h1
    rcases iV_cases D sn c with h | h
    · rw [h.1] at h2 ⊢
      rw [jud_in _ _ h2]; omega
    · have h3 := hmov.2.2
      rw [h] at h3 ⊢
      have : (oV D sn c).2 = (((doV D sn c []).2.2.1.length : Nat) : Int) := by
        unfold oV; split
        · rename_i ho; rw [ho]; rfl
        · rfl
      omega
  obtain ⟨J, hJ⟩ : ∃ J, judV m4 l (iV D sn c).1 (iV D sn c).2 = J := ⟨_, rfl⟩
  rw [hJ] at hcode hmov hin ⊢
  have j9 : ∀ (a : Tx) (D' : List DTx) (s' code : Int), F11_j9 n (t, l, b, u, c, e) J (a, D', s', code) = some (D', s', a, (stV t J.2.2.1 code).1, 0) := by
    intro a D' s' code
    simp only [F11_j9, statP]; rfl
  have f36 : ∀ code : Int, F36 n code t l b u c J.1 J.2.1 J.2.2.1 J.2.2.2.1 = some (stV t J.2.2.1 code).1 := by
    intro code
    simp only [F36, statR n (by omega)]; rfl
  have step : ∀ (given : Tx), given.length ≤ 140737488355328 → (m4 = 1 → given = []) → J.2.2.2.1 = 0 →
      F11_j10 n D sn (t, l, b, u, c, e) m4 J given = F12_j5 n D sn (t, l, b, u, c, e) m4 J given ∧ (F11_j10 n D sn (t, l, b, u, c, e) m4 J given).isSome = true ∧ ∀ v, F11_j10 n D sn (t, l, b, u, c, e) m4 J given = some v → (v.1.length = D.length ∧ v.2.2.1.length ≤ 1024 ∧ v.2.2.2.1.length ≤ 13 ∧ (diskV D sn = 0 → diskV v.1 v.2.1 = 0)) := by
    intro given hg hg1 hz
    simp only [F11_j10, F12_j5]
    have hlen := doV_len D sn c given
    rw [doP n hn D sn c given (by omega) hg, doR n hn D sn c given hg]
    simp only [Option.bind_some, j9, f36]
    by_cases he : (doV D sn c given).2.2.2 = 0
    · rw [show ((doV D sn c given).2.2.2 != 0) = false from bne_eq_false_iff_eq.2 he]
      simp only [cond_false]
      by_cases h1 : m4 = 1
      · have hg0 := hg1 h1
        subst hg0
        have hle := hin h1 (by omega)
        rw [show (m4 == 1) = true from beq_iff_eq.2 h1, show (m4 != 1) = false from bne_eq_false_iff_eq.2 h1, show subB (doV D sn c []).2.2.1.length none (some J.2.1) = true by simp [subB]; omega]
        simp only [cond_true, cond_false, F12_j6, f36]
        have emin : (if J.2.1 < (((doV D sn c []).2.2.1.length : Nat) : Int) then J.2.1 else (((doV D sn c []).2.2.1.length : Nat) : Int)) = J.2.1 := by split <;> omega
        rw [emin, show subB (doV D sn c []).2.2.1.length none (some J.2.1) = true by simp [subB]; omega, hz]
        exact ⟨rfl, rfl, fun v hv => by obtain rfl := Option.some.inj hv; exact ⟨hlen, by first | (simp; done) | (simp only [List.length_take]; have := outLen D sn c []; omega), stV_len _ _ _, fun hk => doV_disk _ _ _ _ hk⟩⟩
      · rw [show (m4 == 1) = false from beq_eq_false_iff_ne.2 h1, show (m4 != 1) = true from bne_iff_ne.2 h1]
        simp only [cond_true, cond_false, F12_j6, f36, List.length_nil]
        have emin : (if J.2.1 < ((0 : Nat) : Int) then J.2.1 else ((0 : Nat) : Int)) = 0 := by split <;> omega
        rw [emin, hz]
        exact ⟨rfl, rfl, fun v hv => by obtain rfl := Option.some.inj hv; exact ⟨hlen, by first | (simp; done) | (simp only [List.length_take]; have := outLen D sn c []; omega), stV_len _ _ _, fun hk => doV_disk _ _ _ _ hk⟩⟩
    · rw [show ((doV D sn c given).2.2.2 != 0) = true from bne_iff_ne.2 he]
      exact ⟨rfl, rfl, fun v hv => by obtain rfl := Option.some.inj hv; exact ⟨hlen, by first | (simp; done) | (simp only [List.length_take]; have := outLen D sn c []; omega), stV_len _ _ _, fun hk => doV_disk _ _ _ _ hk⟩⟩
  by_cases h2 : J.2.2.2.1 = 2
  · have hp : F11_j7 n D sn data (t, l, b, u, c, e) m4 J false = some (D, sn, [], (stV t J.2.2.1 2).1, 0) := by
      simp only [F11_j7, cond_false, j9, show (J.2.2.2.1 != 2) = false from bne_eq_false_iff_eq.2 h2, h2]
      rfl
    rw [show (J.2.2.2.1 != 2) = false from bne_eq_false_iff_eq.2 h2, show (J.2.2.2.1 == 2) = true from beq_iff_eq.2 h2, hp]
    rw [f36 2]
    cases (m4 == 2) <;> exact ⟨rfl, rfl, fun v hv => by obtain rfl := Option.some.inj hv; exact ⟨rfl, by simp, by first | exact stV_len _ _ _ | simp, fun hk => hk⟩⟩
  · have hz : J.2.2.2.1 = 0 := by omega
    rw [show (J.2.2.2.1 != 2) = true from bne_iff_ne.2 h2, show (J.2.2.2.1 == 2) = false from beq_eq_false_iff_ne.2 h2]
    simp only [cond_true, cond_false]
    by_cases hm : m4 = 2
    · rw [show (m4 == 2) = true from beq_iff_eq.2 hm]
      simp only [cond_true]
      by_cases hdl : ((data.length : Nat) : Int) = l
      · rw [show (((data.length : Nat) : Int) != l) = false from bne_eq_false_iff_eq.2 hdl]
        simp only [F11_j7, cond_false, cond_true, show (J.2.2.2.1 != 2) = true from bne_iff_ne.2 h2, show (m4 == 2) = true from beq_iff_eq.2 hm, show subB data.length none (some J.2.1) = true by simp [subB]; omega]
        exact step _ (by rw [List.length_take]; omega) (fun h => by omega) hz
      · rw [show (((data.length : Nat) : Int) != l) = true from bne_iff_ne.2 hdl]
        exact ⟨rfl, rfl, fun v hv => by obtain rfl := Option.some.inj hv; exact ⟨rfl, by simp, by first | exact stV_len _ _ _ | simp, fun hk => hk⟩⟩
    · rw [show (m4 == 2) = false from beq_eq_false_iff_ne.2 hm]
      simp only [F11_j7, cond_false, cond_true, show (J.2.2.2.1 != 2) = true from bne_iff_ne.2 h2, show (m4 == 2) = false from beq_eq_false_iff_ne.2 hm]
      exact step [] (by simp) (fun _ => rfl) hz
theorem serveN (n : Nat) (hn : 100000 < n) (D : List DTx) (sn : Int) (s data : Tx) (hD : D.length ≤ 8796093022208) (hd : data.length ≤ 140737488355328) :
    ∃ v, F11 n D sn s data = some v ∧ F12 n D sn s data = some v ∧ (v.1.length = D.length ∧ v.2.2.1.length ≤ 1024 ∧ v.2.2.2.1.length ≤ 13 ∧ (diskV D sn = 0 → diskV v.1 v.2.1 = 0)) := by
  unfold F11 F12
  rw [decide_eq_true (show D.length ≤ 8796093022208 by omega), diskP n D sn (by omega), diskR n D sn (by omega)]
  simp only [cond_true, Option.bind_some]
  by_cases hk : diskV D sn = 0
  case neg =>
    rw [show (diskV D sn != 0) = true from bne_iff_ne.2 hk]
    exact ⟨_, rfl, rfl, rfl, by simp, by simp, fun hk => hk⟩
  rw [show (diskV D sn != 0) = false from bne_eq_false_iff_eq.2 hk]
  obtain ⟨r, h1, h2⟩ := readW n (by omega) s
  rw [h1, h2]
  simp only [cond_false, Option.bind_some]
  by_cases he : r.2.2.2.2.2 = 0
  case neg =>
    rw [show (r.2.2.2.2.2 != 0) = true from bne_iff_ne.2 he]
    exact ⟨_, rfl, rfl, rfl, by simp, by simp, fun hk => hk⟩
  rw [show (r.2.2.2.2.2 != 0) = false from bne_eq_false_iff_eq.2 he]
  obtain ⟨hl, hu, hc⟩ := readF n s r h1 he
  simp only [cond_false]
  by_cases hu0 : r.2.2.2.1 = 0
  case neg =>
    rw [show (r.2.2.2.1 != 0) = true from bne_iff_ne.2 hu0, decide_eq_true (show r.2.2.2.1 > 0 by omega)]
    exact ⟨_, rfl, rfl, rfl, by simp, by simp, fun hk => hk⟩
  rw [show (r.2.2.2.1 != 0) = false from bne_eq_false_iff_eq.2 hu0, decide_eq_false (show ¬ r.2.2.2.1 > 0 by omega)]
  simp only [cond_false]
  have fin : ∀ m4 : Int, ∃ v, F11_j6 n D sn data r m4 = some v ∧ F12_j4 n D sn data r (m4, r.2.1) = some v ∧ (v.1.length = D.length ∧ v.2.2.1.length ≤ 1024 ∧ v.2.2.2.1.length ≤ 13 ∧ (diskV D sn = 0 → diskV v.1 v.2.1 = 0)) := by
    intro m4
    obtain ⟨g1, g2, g3⟩ := serveJ n hn D sn data hk r m4 hl.1 hc hd
    obtain ⟨v, hv⟩ := Option.isSome_iff_exists.1 g2
    exact ⟨v, hv, by rw [← g1, hv], g3 v hv⟩
  by_cases h0 : r.2.1 = 0
  · rw [show (r.2.1 == 0) = true from beq_iff_eq.2 h0, decide_eq_false (show ¬ r.2.1 > 0 by omega)]
    have := fin 0
    rw [h0] at this
    exact this
  · rw [show (r.2.1 == 0) = false from beq_eq_false_iff_ne.2 h0, decide_eq_true (show r.2.1 > 0 by omega)]
    simp only [cond_true, cond_false]
    cases hb : r.2.2.1 with
    | true => exact fin 1
    | false => exact fin 2
end Go.Proofs.Ytbodjbpgdkkohaa
