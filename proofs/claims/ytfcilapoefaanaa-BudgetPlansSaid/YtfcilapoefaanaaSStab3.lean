/- Go's stable sort, part 3: symMerge. -/
import Derived.Test.YtfcilapoefaanaaSStab2
namespace Go.Proofs.Ytfcilapoefaanaa
open Go Go.RowKit
set_option linter.unusedVariables false

theorem half (s : Int) (h : 0 ≤ s ∧ s ≤ 1000) : IntKind.wrap .i64 (shrI .u64 (IntKind.wrap .u64 (IntKind.wrap .i64 s)) 1) = s / 2 := by
  rw [w64 (n := s) (by omega) (by omega), u64w, Int.emod_eq_of_lt h.1 (by omega)]
  have := shr_div .u64 s 1 (by simp [IntKind.bits])
  rw [show ((1 : Nat) : Int) = 1 from rfl, show (2 : Int) ^ 1 = 2 from rfl] at this
  rw [this, w64 (by omega) (by omega)]
theorem srt_pair {P L : IL} (h : L.Pairwise (Rl P)) : (srt P L).Pairwise (Rl P) := by rw [srt_self h]; exact h
/-- one element to the left of a sorted row -/
theorem symL (n : Nat) (hn : 300 < n) (P X : IL) (x : Int) (M Y : IL) (hP : okT P) (hx : inP P x) (hM : ∀ y ∈ M, inP P y) (hs : M.Pairwise (Rl P)) (hst : ∀ y ∈ M, pk P x = pk P y → x < y)
    (hl : (X ++ [x] ++ M ++ Y).length ≤ 64) (a m b : Int) (ha : a = X.length) (hm : m = a + 1) (hb : b = m + M.length) :
    ∃ S, loopF (F99_l3 n (X ++ [x] ++ M ++ Y) a P) n (m, b) = some (X ++ S ++ Y) ∧ S.Perm ([x] ++ M) ∧ S.Pairwise (Rl P) := by
  simp only [List.length_append, List.length_cons, List.length_nil] at hl
  have main := loopF_post (F99_l3 n (X ++ [x] ++ M ++ Y) a P) (fun d => ∃ M1 M2 M3 : IL, M = M1 ++ M2 ++ M3 ∧ d = (m + M1.length, m + M1.length + M2.length) ∧ (∀ z ∈ M1, pk P z < pk P x) ∧ ∀ z ∈ M3, pk P x ≤ pk P z)
    (fun _ r => ∃ S, r = X ++ S ++ Y ∧ S.Perm ([x] ++ M) ∧ S.Pairwise (Rl P)) (fun d => (d.2 - d.1).toNat) ?_ n (m, b) ⟨[], M, [], by simp, by simp [hb], by simp, by simp⟩ (by show (b - m).toNat < n; omega)
  · obtain ⟨r, h1, S, rfl, h2, h3⟩ := main
    exact ⟨S, h1, h2, h3⟩
  rintro kk d ⟨M1, M2, M3, rfl, rfl, h1, h3⟩ ih
  simp only [F99_l3]
  simp only [List.length_append] at hl hb
  by_cases hM2 : M2 = []
  · subst hM2
    rw [decide_eq_false (show ¬ m + (M1.length : Int) < m + (M1.length : Int) + (([] : IL).length : Int) by simp), cond_false]
    -- the shift
    have sh := loopF_eq (F99_l4 n (m + M1.length)) (fun _ => some (X ++ (M1 ++ x :: M3) ++ Y)) (fun d => ∃ A B : IL, M1 = A ++ B ∧ d = (a + (A.length : Int), X ++ A ++ x :: B ++ M3 ++ Y)) (fun d => 100 - d.1.toNat) ?_ n (a, X ++ [x] ++ (M1 ++ [] ++ M3) ++ Y) ⟨[], M1, rfl, by simp⟩ (by show 100 - a.toNat < n; omega)
    · rw [sh]
      obtain ⟨p1, p2, p3⟩ := List.pairwise_append.1 (show (M1 ++ M3).Pairwise (Rl P) by simpa using hs)
      refine ⟨_, rfl, _, rfl, by simp only [List.append_nil]; exact List.perm_middle, List.pairwise_append.2 ⟨p1, List.pairwise_cons.2 ⟨fun z hz => ?_, p2⟩, fun z hz w hw => ?_⟩⟩
      · have e := h3 z hz
        rcases Int.lt_or_eq_of_le e with e | e
        · exact .inl e
        · exact .inr ⟨e, hst z (by simp [hz]) e⟩
      · rcases List.mem_cons.1 hw with rfl | hw
        · exact .inl (h1 z hz)
        · exact p3 z hz w hw
    · rintro k2 d ⟨A, B, rfl, rfl⟩ ih2
      simp only [F99_l4]
      simp only [List.length_append, List.length_nil] at hl hb
      rw [w64 (n := m + ((A ++ B).length : Int) - 1) (by simp only [List.length_append]; omega) (by simp only [List.length_append]; omega), w64 (n := a + (A.length : Int) + 1) (by omega) (by omega)]
      cases B with
      | nil => rw [decide_eq_false (show ¬ a + (A.length : Int) < m + ((A ++ ([] : IL)).length : Int) - 1 by simp; omega), cond_false]; simp
      | cons z B =>
        simp only [List.length_cons] at hl hb
        rw [decide_eq_true (show a + (A.length : Int) < m + ((A ++ z :: B).length : Int) - 1 by simp only [List.length_append, List.length_cons]; omega), cond_true]
        have e1 : X ++ A ++ x :: (z :: B) ++ M3 ++ Y = (X ++ A) ++ x :: [] ++ z :: (B ++ M3 ++ Y) := by simp
        have hA : a + (A.length : Int) = (X ++ A).length := by rw [List.length_append]; omega
        have hB : a + (A.length : Int) + 1 = ((X ++ A) ++ x :: []).length := by simp only [List.length_append, List.length_cons, List.length_nil]; omega
        have e2 : (X ++ A) ++ x :: [] ++ z :: (B ++ M3 ++ Y) = (X ++ A) ++ x :: (z :: (B ++ M3 ++ Y)) := by simp
        have g1 : ((X ++ A) ++ x :: [] ++ z :: (B ++ M3 ++ Y)).getD (a + (A.length : Int)).toNat 0 = x := by rw [e2]; exact get_mid _ _ x _ hA
        have g2 : inb (a + (A.length : Int)) ((X ++ A) ++ x :: [] ++ z :: (B ++ M3 ++ Y)).length = true := by rw [e2]; exact inb_mid _ _ x _ hA
        have g3 := get_mid ((X ++ A) ++ x :: []) (B ++ M3 ++ Y) z _ hB
        have g4 := inb_mid ((X ++ A) ++ x :: []) (B ++ M3 ++ Y) z _ hB
        rw [e1, List.length_set, g4, g2, g3, g1, swp_mid (X ++ A) [] (B ++ M3 ++ Y) x z _ _ hA hB]
        simp only [cond_true]
        refine (ih2 _ ⟨A ++ [z], B, by simp, ?_⟩ (by show 100 - (a + (A.length : Int) + 1).toNat < 100 - (a + (A.length : Int)).toNat; omega)).trans rfl
        simp only [Prod.mk.injEq, List.length_append, List.length_cons, List.length_nil]
        exact ⟨by omega, by simp⟩
  · have l2 : 0 < M2.length := List.length_pos_iff.2 hM2
    rw [decide_eq_true (show m + (M1.length : Int) < m + (M1.length : Int) + (M2.length : Int) by omega), cond_true, half _ (by omega)]
    obtain ⟨h, hh⟩ : ∃ h : Int, (m + (M1.length : Int) + (m + (M1.length : Int) + (M2.length : Int))) / 2 = h := ⟨_, rfl⟩
    rw [hh]
    obtain ⟨A, z, B, rfl, hAl⟩ : ∃ A z B, M2 = A ++ z :: B ∧ (A.length : Int) = h - (m + M1.length) := by
      have hk : (h - (m + M1.length)).toNat < M2.length := by omega
      exact ⟨M2.take (h - (m + M1.length)).toNat, M2[(h - (m + M1.length)).toNat], M2.drop ((h - (m + M1.length)).toNat + 1), by rw [← List.drop_eq_getElem_cons hk, List.take_append_drop], by rw [List.length_take]; omega⟩
    have hz : inP P z := hM z (by simp)
    have e1 : X ++ [x] ++ (M1 ++ (A ++ z :: B) ++ M3) ++ Y = (X ++ [x] ++ M1 ++ A) ++ z :: (B ++ M3 ++ Y) := by simp
    have e2 : X ++ [x] ++ (M1 ++ (A ++ z :: B) ++ M3) ++ Y = X ++ x :: (M1 ++ (A ++ z :: B) ++ M3 ++ Y) := by simp
    have hH : h = (X ++ [x] ++ M1 ++ A).length := by simp only [List.length_append, List.length_cons, List.length_nil]; omega
    have g1 : (X ++ [x] ++ (M1 ++ (A ++ z :: B) ++ M3) ++ Y).getD h.toNat 0 = z := by rw [e1]; exact get_mid _ _ z _ hH
    have g2 : inb h (X ++ [x] ++ (M1 ++ (A ++ z :: B) ++ M3) ++ Y).length = true := by rw [e1]; exact inb_mid _ _ z _ hH
    have g3 : (X ++ [x] ++ (M1 ++ (A ++ z :: B) ++ M3) ++ Y).getD a.toNat 0 = x := by rw [e2]; exact get_mid _ _ x _ ha
    have g4 : inb a (X ++ [x] ++ (M1 ++ (A ++ z :: B) ++ M3) ++ Y).length = true := by rw [e2]; exact inb_mid _ _ x _ ha
    rw [g1, g2, g3, g4, cmpR n hP hz hx]
    simp only [cond_true, Option.bind_some]
    simp only [List.length_append, List.length_cons] at hl hb l2
    have hsA : ∀ w ∈ A, pk P w ≤ pk P z := fun w hw => by
      have := (List.pairwise_append.1 (List.pairwise_append.1 (List.pairwise_append.1 hs).1).2.1).2.2 w hw z (by simp)
      exact rl_pk this
    have hsB : ∀ w ∈ B, pk P z ≤ pk P w := fun w hw => by
      have := (List.pairwise_cons.1 (List.pairwise_append.1 (List.pairwise_append.1 (List.pairwise_append.1 hs).1).2.1).2.1).1 w hw
      exact rl_pk this
    by_cases hlt : pk P z < pk P x
    · rw [decide_eq_true (show pk P z - pk P x < 0 by omega), cond_true, w64 (n := h + 1) (by omega) (by omega)]
      refine ih _ ⟨M1 ++ A ++ [z], B, M3, by simp, ?_, fun w hw => ?_, h3⟩ ?_
      · simp only [Prod.mk.injEq, List.length_append, List.length_cons, List.length_nil]
        exact ⟨by omega, by omega⟩
      · rcases List.mem_append.1 hw with hw | hw
        · rcases List.mem_append.1 hw with hw | hw
          · exact h1 w hw
          · have := hsA w hw; omega
        · obtain rfl := List.mem_singleton.1 hw; exact hlt
      · show (m + (M1.length : Int) + ((A ++ z :: B).length : Int) - (h + 1)).toNat < (m + (M1.length : Int) + ((A ++ z :: B).length : Int) - (m + (M1.length : Int))).toNat
        simp only [List.length_append, List.length_cons]; omega
    · rw [decide_eq_false (show ¬ pk P z - pk P x < 0 by omega), cond_false]
      refine ih _ ⟨M1, A, z :: B ++ M3, by simp, ?_, h1, fun w hw => ?_⟩ ?_
      · simp only [Prod.mk.injEq]
        exact ⟨trivial, by omega⟩
      · rcases List.mem_append.1 hw with hw | hw
        · rcases List.mem_cons.1 hw with rfl | hw
          · omega
          · have := hsB w hw; omega
        · exact h3 w hw
      · show (h - (m + (M1.length : Int))).toNat < (m + (M1.length : Int) + ((A ++ z :: B).length : Int) - (m + (M1.length : Int))).toNat
        simp only [List.length_append, List.length_cons]; omega
/-- one element to the right of a sorted row -/
theorem symRt (n : Nat) (hn : 300 < n) (P X L : IL) (y : Int) (Y : IL) (hP : okT P) (hy : inP P y) (hL : ∀ x ∈ L, inP P x) (hs : L.Pairwise (Rl P)) (hst : ∀ x ∈ L, pk P x = pk P y → x < y)
    (hl : (X ++ L ++ [y] ++ Y).length ≤ 64) (a m : Int) (ha : a = X.length) (hm : m = a + L.length) :
    ∃ S, loopF (F99_l7 n (X ++ L ++ [y] ++ Y) m P) n (a, m) = some (X ++ S ++ Y) ∧ S.Perm (L ++ [y]) ∧ S.Pairwise (Rl P) := by
  simp only [List.length_append, List.length_cons, List.length_nil] at hl
  have main := loopF_post (F99_l7 n (X ++ L ++ [y] ++ Y) m P) (fun d => ∃ M1 M2 M3 : IL, L = M1 ++ M2 ++ M3 ∧ d = (a + M1.length, a + M1.length + M2.length) ∧ (∀ z ∈ M1, pk P z ≤ pk P y) ∧ ∀ z ∈ M3, pk P y < pk P z)
    (fun _ r => ∃ S, r = X ++ S ++ Y ∧ S.Perm (L ++ [y]) ∧ S.Pairwise (Rl P)) (fun d => (d.2 - d.1).toNat) ?_ n (a, m) ⟨[], L, [], by simp, by simp [hm], by simp, by simp⟩ (by show (m - a).toNat < n; omega)
  · obtain ⟨r, h1, S, rfl, h2, h3⟩ := main
    exact ⟨S, h1, h2, h3⟩
  rintro kk d ⟨M1, M2, M3, rfl, rfl, h1, h3⟩ ih
  simp only [F99_l7]
  simp only [List.length_append] at hl hm
  by_cases hM2 : M2 = []
  · subst hM2
    rw [decide_eq_false (show ¬ a + (M1.length : Int) < a + (M1.length : Int) + (([] : IL).length : Int) by simp), cond_false]
    have sh := loopF_eq (F99_l8 n (a + M1.length)) (fun _ => some (X ++ (M1 ++ y :: M3) ++ Y)) (fun d => ∃ A B : IL, M3 = A ++ B ∧ d = (a + (M1.length : Int) + (A.length : Int), X ++ M1 ++ A ++ y :: B ++ Y)) (fun d => d.1.toNat) ?_ n (m, X ++ (M1 ++ [] ++ M3) ++ [y] ++ Y) ⟨M3, [], by simp, by simp only [Prod.mk.injEq]; exact ⟨by simp at hm; omega, by simp⟩⟩ (by show m.toNat < n; omega)
    · rw [sh]
      obtain ⟨p1, p2, p3⟩ := List.pairwise_append.1 (show (M1 ++ M3).Pairwise (Rl P) by simpa using hs)
      refine ⟨_, rfl, _, rfl, ?_, List.pairwise_append.2 ⟨p1, List.pairwise_cons.2 ⟨fun z hz => .inl (h3 z hz), p2⟩, fun z hz w hw => ?_⟩⟩
      · rw [List.append_nil]
        exact List.perm_middle.trans (List.perm_append_singleton y (M1 ++ M3)).symm
      · rcases List.mem_cons.1 hw with rfl | hw
        · have e := h1 z hz
          rcases Int.lt_or_eq_of_le e with e | e
          · exact .inl e
          · exact .inr ⟨e, hst z (by simp [hz]) e⟩
        · exact p3 z hz w hw
    · rintro k2 d ⟨A, B, rfl, rfl⟩ ih2
      simp only [F99_l8]
      simp only [List.length_append, List.length_nil] at hl hm
      rcases List.eq_nil_or_concat A with rfl | ⟨A, z, rfl⟩
      · rw [decide_eq_false (show ¬ a + (M1.length : Int) + (([] : IL).length : Int) > a + (M1.length : Int) by simp), cond_false]; simp
      · simp only [List.concat_eq_append] at *
        have hz1 : (A ++ [z]).length = A.length + 1 := by simp
        rw [decide_eq_true (show a + (M1.length : Int) + ((A ++ [z]).length : Int) > a + (M1.length : Int) by omega), cond_true, w64 (n := a + (M1.length : Int) + ((A ++ [z]).length : Int) - 1) (by omega) (by omega)]
        have e1 : X ++ M1 ++ (A ++ [z]) ++ y :: B ++ Y = (X ++ M1 ++ A) ++ z :: [] ++ y :: (B ++ Y) := by simp
        have hA : a + (M1.length : Int) + ((A ++ [z]).length : Int) - 1 = (X ++ M1 ++ A).length := by simp only [List.length_append, List.length_cons, List.length_nil]; omega
        have hB : a + (M1.length : Int) + ((A ++ [z]).length : Int) = ((X ++ M1 ++ A) ++ z :: []).length := by simp only [List.length_append, List.length_cons, List.length_nil]; omega
        have e2 : (X ++ M1 ++ A) ++ z :: [] ++ y :: (B ++ Y) = (X ++ M1 ++ A) ++ z :: (y :: (B ++ Y)) := by simp
        have g1 : ((X ++ M1 ++ A) ++ z :: [] ++ y :: (B ++ Y)).getD (a + (M1.length : Int) + ((A ++ [z]).length : Int) - 1).toNat 0 = z := by rw [e2]; exact get_mid _ _ z _ hA
        have g2 : inb (a + (M1.length : Int) + ((A ++ [z]).length : Int) - 1) ((X ++ M1 ++ A) ++ z :: [] ++ y :: (B ++ Y)).length = true := by rw [e2]; exact inb_mid _ _ z _ hA
        have g3 := get_mid ((X ++ M1 ++ A) ++ z :: []) (B ++ Y) y _ hB
        have g4 := inb_mid ((X ++ M1 ++ A) ++ z :: []) (B ++ Y) y _ hB
        have sw2 : (((X ++ M1 ++ A) ++ z :: [] ++ y :: (B ++ Y)).set (a + (M1.length : Int) + ((A ++ [z]).length : Int)).toNat z).set (a + (M1.length : Int) + ((A ++ [z]).length : Int) - 1).toNat y = (X ++ M1 ++ A) ++ y :: [] ++ z :: (B ++ Y) := by
          rw [List.set_comm _ _ (by omega)]; exact swp_mid _ _ _ z y _ _ hA hB
        rw [e1, List.length_set, g4, g2, g3, g1, sw2]
        simp only [cond_true]
        refine (ih2 _ ⟨A, z :: B, by simp, ?_⟩ (by show (a + (M1.length : Int) + ((A ++ [z]).length : Int) - 1).toNat < (a + (M1.length : Int) + ((A ++ [z]).length : Int)).toNat; omega)).trans rfl
        simp only [Prod.mk.injEq]
        exact ⟨by omega, by simp⟩
  · have l2 : 0 < M2.length := List.length_pos_iff.2 hM2
    rw [decide_eq_true (show a + (M1.length : Int) < a + (M1.length : Int) + (M2.length : Int) by omega), cond_true, half _ (by omega)]
    obtain ⟨h, hh⟩ : ∃ h : Int, (a + (M1.length : Int) + (a + (M1.length : Int) + (M2.length : Int))) / 2 = h := ⟨_, rfl⟩
    rw [hh]
    obtain ⟨A, z, B, rfl, hAl⟩ : ∃ A z B, M2 = A ++ z :: B ∧ (A.length : Int) = h - (a + M1.length) := by
      have hk : (h - (a + M1.length)).toNat < M2.length := by omega
      exact ⟨M2.take (h - (a + M1.length)).toNat, M2[(h - (a + M1.length)).toNat], M2.drop ((h - (a + M1.length)).toNat + 1), by rw [← List.drop_eq_getElem_cons hk, List.take_append_drop], by rw [List.length_take]; omega⟩
    have hz : inP P z := hL z (by simp)
    have e1 : X ++ (M1 ++ (A ++ z :: B) ++ M3) ++ [y] ++ Y = (X ++ M1 ++ A) ++ z :: (B ++ M3 ++ [y] ++ Y) := by simp
    have e2 : X ++ (M1 ++ (A ++ z :: B) ++ M3) ++ [y] ++ Y = (X ++ (M1 ++ (A ++ z :: B) ++ M3)) ++ y :: Y := by simp
    have hH : h = (X ++ M1 ++ A).length := by simp only [List.length_append]; omega
    have hY : m = (X ++ (M1 ++ (A ++ z :: B) ++ M3)).length := by simp only [List.length_append, List.length_cons] at hm ⊢; omega
    have g1 : (X ++ (M1 ++ (A ++ z :: B) ++ M3) ++ [y] ++ Y).getD h.toNat 0 = z := by rw [e1]; exact get_mid _ _ z _ hH
    have g2 : inb h (X ++ (M1 ++ (A ++ z :: B) ++ M3) ++ [y] ++ Y).length = true := by rw [e1]; exact inb_mid _ _ z _ hH
    have g3 : (X ++ (M1 ++ (A ++ z :: B) ++ M3) ++ [y] ++ Y).getD m.toNat 0 = y := by rw [e2]; exact get_mid _ _ y _ hY
    have g4 : inb m (X ++ (M1 ++ (A ++ z :: B) ++ M3) ++ [y] ++ Y).length = true := by rw [e2]; exact inb_mid _ _ y _ hY
    rw [g1, g2, g3, g4, cmpR n hP hy hz]
    simp only [cond_true, Option.bind_some]
    simp only [List.length_append, List.length_cons] at hl hm l2
    have hsA : ∀ w ∈ A, pk P w ≤ pk P z := fun w hw => by
      have := (List.pairwise_append.1 (List.pairwise_append.1 (List.pairwise_append.1 hs).1).2.1).2.2 w hw z (by simp)
      exact rl_pk this
    have hsB : ∀ w ∈ B, pk P z ≤ pk P w := fun w hw => by
      have := (List.pairwise_cons.1 (List.pairwise_append.1 (List.pairwise_append.1 (List.pairwise_append.1 hs).1).2.1).2.1).1 w hw
      exact rl_pk this
    by_cases hlt : pk P y < pk P z
    · rw [decide_eq_true (show pk P y - pk P z < 0 by omega)]
      simp only [Bool.not_true, cond_false]
      refine ih _ ⟨M1, A, z :: B ++ M3, by simp, ?_, h1, fun w hw => ?_⟩ ?_
      · simp only [Prod.mk.injEq]
        exact ⟨trivial, by omega⟩
      · rcases List.mem_append.1 hw with hw | hw
        · rcases List.mem_cons.1 hw with rfl | hw
          · exact hlt
          · have := hsB w hw; omega
        · exact h3 w hw
      · show (h - (a + (M1.length : Int))).toNat < (a + (M1.length : Int) + ((A ++ z :: B).length : Int) - (a + (M1.length : Int))).toNat
        simp only [List.length_append, List.length_cons]; omega
    · rw [decide_eq_false (show ¬ pk P y - pk P z < 0 by omega)]
      simp only [Bool.not_false, cond_true]
      rw [w64 (n := h + 1) (by omega) (by omega)]
      refine ih _ ⟨M1 ++ A ++ [z], B, M3, by simp, ?_, fun w hw => ?_, h3⟩ ?_
      · simp only [Prod.mk.injEq, List.length_append, List.length_cons, List.length_nil]
        exact ⟨by omega, by omega⟩
      · rcases List.mem_append.1 hw with hw | hw
        · rcases List.mem_append.1 hw with hw | hw
          · exact h1 w hw
          · have := hsA w hw; omega
        · obtain rfl := List.mem_singleton.1 hw; omega
      · show (a + (M1.length : Int) + ((A ++ z :: B).length : Int) - (h + 1)).toNat < (a + (M1.length : Int) + ((A ++ z :: B).length : Int) - (a + (M1.length : Int))).toNat
        simp only [List.length_append, List.length_cons]; omega
theorem pw_cross {P A B C D L M : IL} (hL : L = A ++ B) (hM : M = C ++ D) (sL : L.Pairwise (Rl P)) (sM : M.Pairwise (Rl P)) (h1 : ∀ x ∈ A, ∀ y ∈ D, Rl P x y) (h2 : ∀ x ∈ C, ∀ y ∈ B, Rl P x y)
    {S1 S2 : IL} (p1 : S1.Perm (A ++ C)) (s1 : S1.Pairwise (Rl P)) (p2 : S2.Perm (B ++ D)) (s2 : S2.Pairwise (Rl P)) : (S1 ++ S2).Perm (L ++ M) ∧ (S1 ++ S2).Pairwise (Rl P) := by
  subst hL hM
  constructor
  · refine (List.Perm.append p1 p2).trans ?_
    have : (A ++ C ++ (B ++ D)).Perm (A ++ (B ++ C ++ D)) := by
      rw [List.append_assoc, ← List.append_assoc C]
      exact List.Perm.append_left A (List.Perm.append_right D List.perm_append_comm)
    refine this.trans ?_
    simp
  · refine List.pairwise_append.2 ⟨s1, s2, fun x hx y hy => ?_⟩
    rcases List.mem_append.1 (p1.subset hx) with hx | hx <;> rcases List.mem_append.1 (p2.subset hy) with hy | hy
    · exact (List.pairwise_append.1 sL).2.2 x hx y hy
    · exact h1 x hx y hy
    · exact h2 x hx y hy
    · exact (List.pairwise_append.1 sM).2.2 x hx y hy
/-- what symMerge does -/
def SymOk (P : IL) (f : IL → Int → Int → Int → IL → Option IL) (sz : Nat) : Prop :=
  ∀ (X L M Y : IL), L ≠ [] → M ≠ [] → L.length + M.length ≤ sz → (∀ x ∈ L, inP P x) → (∀ x ∈ M, inP P x) → L.Pairwise (Rl P) → M.Pairwise (Rl P) → (∀ x ∈ L, ∀ y ∈ M, pk P x = pk P y → x < y) → (X ++ L ++ M ++ Y).length ≤ 64 →
    ∀ a m b : Int, a = X.length → m = a + L.length → b = m + M.length → ∃ S, f (X ++ L ++ M ++ Y) a m b P = some (X ++ S ++ Y) ∧ S.Perm (L ++ M) ∧ S.Pairwise (Rl P)
/-- one of the two halves: merged, if both parts hold something -/
theorem symOpt {P : IL} {f : IL → Int → Int → Int → IL → Option IL} {sz : Nat} (hf : SymOk P f sz) (X L M Y : IL) (hsz : L.length + M.length ≤ sz) (hL : ∀ x ∈ L, inP P x) (hM : ∀ x ∈ M, inP P x) (sL : L.Pairwise (Rl P)) (sM : M.Pairwise (Rl P)) (hst : ∀ x ∈ L, ∀ y ∈ M, pk P x = pk P y → x < y) (hl : (X ++ L ++ M ++ Y).length ≤ 64)
    (a m b : Int) (ha : a = X.length) (hm : m = a + L.length) (hb : b = m + M.length) (k : IL → Option IL) :
    ∃ S, (bif decide (a < m) then (bif decide (m < b) then (f (X ++ L ++ M ++ Y) a m b P).bind k else k (X ++ L ++ M ++ Y)) else k (X ++ L ++ M ++ Y)) = k (X ++ S ++ Y) ∧ S.Perm (L ++ M) ∧ S.Pairwise (Rl P) := by
  by_cases h1 : L = []
  · subst h1
    rw [decide_eq_false (show ¬ a < m by simp at hm; omega), cond_false]
    exact ⟨M, by simp, by simp, sM⟩
  · have l1 := List.length_pos_iff.2 h1
    rw [decide_eq_true (show a < m by omega), cond_true]
    by_cases h2 : M = []
    · subst h2
      rw [decide_eq_false (show ¬ m < b by simp at hb; omega), cond_false]
      exact ⟨L, by simp, by simp, sL⟩
    · have l2 := List.length_pos_iff.2 h2
      rw [decide_eq_true (show m < b by omega), cond_true]
      obtain ⟨S, e, h3, h4⟩ := hf X L M Y h1 h2 hsz hL hM sL sM hst hl a m b ha hm hb
      rw [e]
      exact ⟨S, rfl, h3, h4⟩
end Go.Proofs.Ytfcilapoefaanaa
