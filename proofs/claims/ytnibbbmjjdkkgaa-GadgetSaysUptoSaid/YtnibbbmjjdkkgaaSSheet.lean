/- Sheets of gadgets: checked; in plain Lean. -/
import Derived.Test.YtnibbbmjjdkkgaaSConf3
import Derived.Test.YtnibbbmjjdkkgaaSUtfB
namespace Go.Proofs.Ytnibbbmjjdkkgaa
open Go Go.RowKit
set_option linter.unusedVariables false

theorem loopF_congr {D R : Type} (b b' : (D → Option R) → D → Option R) (h : ∀ k d, b k d = b' k d) : ∀ n d, loopF b n d = loopF b' n d
  | 0, _ => rfl
  | n + 1, d => by
    have : loopF b n = loopF b' n := funext (loopF_congr b b' h n)
    simp only [loopF, this, h]
theorem wide_len2 (rs : List Nat) : (wideV rs).1.length ≤ 252 := by
  unfold wideV
  split
  · simp
  · simp only [tbL_len]; omega
/-- a text's descriptor -/
def textV (t : Tx) : Tx × Int := if (wideV (runes t 0)).2 ≠ 0 then ([], (wideV (runes t 0)).2) else (putV [(((wideV (runes t 0)).1.length : Nat) : Int) + 2, 3] ++ (wideV (runes t 0)).1, 0)
theorem textP (n : Nat) (t : Tx) (ht : t.length ≤ 2000000) (hn : t.length + 20 < n) : F33 n t = some (textV t) := by
  have hl := wide_len2 (runes t 0)
  unfold F33 textV
  rw [wideP n t ht hn]
  simp only [Option.bind_some]
  by_cases h : (wideV (runes t 0)).2 = 0
  · rw [h, if_neg (by simp), show ((0 : Int) != 0) = false from rfl, w64 (by omega) (by omega), putP n _ (by simp; omega) (by simp)]
    simp only [cond_false, Option.bind_some, putV_len, List.length_cons, List.length_nil]
    rw [decide_eq_true (by omega)]; rfl
  · rw [if_pos h, show ((wideV (runes t 0)).2 != 0) = true from bne_iff_ne.2 h]; rfl
theorem textR (n : Nat) (t : Tx) (ht : t.length ≤ 2000000) (hn : t.length + 20 < n) : F35 n t = some (textV t) := by
  have hl := wide_len2 (runes t 0)
  unfold F35 textV
  rw [wideR n t ht hn]
  simp only [Option.bind_some]
  by_cases h : (wideV (runes t 0)).2 = 0
  · rw [h, if_neg (by simp), show ((0 : Int) != 0) = false from rfl, w64 (by omega) (by omega), bytesR n _ (by simp; omega) (by simp), if_pos (by simp only [allIn_cons, allIn_nil, and_true]; omega)]
    simp only [cond_false, Option.bind_some, putV_len, List.length_cons, List.length_nil]
    rw [decide_eq_true (by omega)]; rfl
  · rw [if_pos h, show ((wideV (runes t 0)).2 != 0) = true from bne_iff_ne.2 h]; rfl
/-! devices -/
section
variable (u c s p m v r l k a z g : Int)
def devT : Tx := putV [18, 1] ++ putV [u, shrI .i64 u 8] ++ putV [c, s, p, m] ++ putV [v, shrI .i64 v 8] ++ putV [r, shrI .i64 r 8] ++ putV [l, shrI .i64 l 8] ++ putV [k, a, z, g]
def size4 : Bool := m == 8 || (m == 16 || (m == 32 || m == 64))
def devB : Bool := allIn 255 [c, s, p, k, a, z] && (allIn 65535 [u, v, r, l] && (size4 m && (decide (1 ≤ g) && decide (g ≤ 255))))
def devVV : Tx × Int := bif devB u c s p m v r l k a z g then (devT u c s p m v r l k a z g, 0) else ([], 1)
theorem devP (n : Nat) (hn : 100 < n) : F32 n u c s p m v r l k a z g = some (devVV u c s p m v r l k a z g) := by
  have kt : F32_j4 n u c s p m v r l k a z g true = some ([], 1) := rfl
  have kf : F32_j4 n u c s p m v r l k a z g false = some (devT u c s p m v r l k a z g, 0) := by
    simp only [F32_j4, cond_false]
    rw [putP n [18, 1] (by simp; omega) (by simp), putP n [c, s, p, m] (by simp; omega) (by simp), putP n [k, a, z, g] (by simp; omega) (by simp), wordP n u (by omega), wordP n v (by omega), wordP n r (by omega), wordP n l (by omega)]
    simp only [Option.bind_some, List.length_append, putV_len, List.length_cons, List.length_nil]
    rfl
  have h3 : F32_j3 n u c s p m v r l k a z g (size4 m) = some (devVV u c s p m v r l k a z g) := by
    simp only [F32_j3]
    rw [bytesB n _ (by simp; omega) (by simp), withinV n 65535 _ (by simp; omega) (by simp)]
    simp only [Option.bind_some]
    unfold devVV devB
    cases allIn 255 [c, s, p, k, a, z] with
    | false => simp only [Bool.not_false, cond_true, Bool.false_and, cond_false]; exact kt
    | true =>
      simp only [Bool.not_true, cond_false, Bool.true_and]
      cases allIn 65535 [u, v, r, l] with
      | false => simp only [Bool.not_false, cond_true, Bool.false_and, cond_false]; exact kt
      | true =>
        simp only [Bool.not_true, cond_false, Bool.true_and]
        cases size4 m with
        | false => simp only [Bool.not_false, cond_true, Bool.false_and, cond_false]; exact kt
        | true =>
          simp only [Bool.not_true, cond_false, Bool.true_and]
          by_cases h1 : g < 1
          · rw [decide_eq_true h1, decide_eq_false (show ¬ 1 ≤ g by omega)]; exact kt
          · rw [decide_eq_false h1, decide_eq_true (show 1 ≤ g by omega)]
            by_cases h2 : g > 255
            · rw [decide_eq_true h2, decide_eq_false (show ¬ g ≤ 255 by omega)]; exact kt
            · rw [decide_eq_false h2, decide_eq_true (show g ≤ 255 by omega)]; exact kf
  rw [← h3]
  unfold F32 size4
  cases m == 8 <;> cases m == 16 <;> cases m == 32 <;> cases m == 64 <;> rfl
theorem idxV (n : Nat) (hn : 10 < n) : F54 n [8, 16, 32, 64] m = some (size4 m) := by
  obtain ⟨q, rfl⟩ : ∃ q, n = q + 5 := ⟨n - 5, by omega⟩
  unfold F54 F67
  have e : ∀ x : Int, loopF (F67_l2 (q + 5) [8, 16, 32, 64] m) (q + 5) 0 = (bif m == 8 then some 0 else bif m == 16 then some 1 else bif m == 32 then some 2 else bif m == 64 then some 3 else some (-1)) := by
    intro x
    kernel_rfl
  rw [e 0]
  unfold size4
  cases m == 8 <;> cases m == 16 <;> cases m == 32 <;> cases m == 64 <;> rfl
theorem two9' (n : Nat) (x : Int) (h : inR2 65535 x) : F23 n x = some (putV [x, shrI .i64 x 8]) := by
  unfold inR2 at h
  obtain ⟨y, rfl⟩ : ∃ y : Nat, x = (y : Int) := ⟨x.toNat, by omega⟩
  exact two9 n y (by omega)
theorem devR (n : Nat) (hn : 100 < n) : F34 n u c s p m v r l k a z g = some (devVV u c s p m v r l k a z g) := by
  have rest : allIn 65535 [u, v, r, l] = true → F34_l7 n u c s p m v r l k a z g (fun _ => none) 4 = some (devVV u c s p m v r l k a z g) := by
    intro hw
    have hw2 := hw
    simp only [allIn_cons, allIn_nil, and_true] at hw2
    obtain ⟨w1, w2, w3, w4⟩ := hw2
    have h8 : ∀ y5 : Tx × Bool, y5 = (putV [k, a, z, g], true) → F34_j8 n u v r l (putV [c, s, p, m], true) y5 false = some (devT u c s p m v r l k a z g, 0) := by
      rintro y5 rfl
      simp only [F34_j8, cond_false]
      rw [two9' n u w1, two9' n v w2, two9' n r w3, two9' n l w4]
      simp only [Option.bind_some, List.length_append, putV_len, List.length_cons, List.length_nil]
      rfl
    have kt : ∀ y4 y5 : Tx × Bool, F34_j8 n u v r l y4 y5 true = some ([], 1) := fun _ _ => rfl
    simp only [F34_l7]
    rw [bytesR n [c, s, p, m] (by simp; omega) (by simp), bytesR n [k, a, z, g] (by simp; omega) (by simp), idxV m n (by omega)]
    simp only [Option.bind_some]
    rw [show decide ((4 : Int) < (([u, v, r, l].length : Nat) : Int)) = false from rfl]
    simp only [cond_false]
    unfold devVV devB
    rw [hw]
    have hs6 : allIn 255 [c, s, p, k, a, z] = (allIn 255 [c, s, p] && allIn 255 [k, a, z]) := by simp only [allIn, List.all_cons, List.all_nil, Bool.and_true, Bool.and_assoc]
    have hs4 : allIn 255 [c, s, p, m] = (allIn 255 [c, s, p] && decide (inR2 255 m)) := by simp only [allIn, List.all_cons, List.all_nil, Bool.and_true, Bool.and_assoc]
    have hs5 : allIn 255 [k, a, z, g] = (allIn 255 [k, a, z] && decide (inR2 255 g)) := by simp only [allIn, List.all_cons, List.all_nil, Bool.and_true, Bool.and_assoc]
    have hm : size4 m = true → decide (inR2 255 m) = true := by
      intro h
      unfold size4 at h
      simp only [Bool.or_eq_true, beq_iff_eq] at h
      exact decide_eq_true (by unfold inR2; omega)
    rw [hs4, hs5, hs6]
    cases h1 : allIn 255 [c, s, p] with
    | false => simp [kt]
    | true =>
      cases h2 : allIn 255 [k, a, z] with
      | false => cases decide (inR2 255 m) <;> simp [kt]
      | true =>
        by_cases hg : inR2 255 g
        · have hg' : 0 ≤ g ∧ g ≤ 255 := hg
          rw [decide_eq_true hg, decide_eq_true (show g ≤ 255 by omega)]
          by_cases hg1 : g < 1
          · rw [decide_eq_true hg1, decide_eq_false (show ¬ 1 ≤ g by omega)]
            cases decide (inR2 255 m) <;> simp [kt]
          · rw [decide_eq_false hg1, decide_eq_true (show 1 ≤ g by omega)]
            cases hsz : size4 m with
            | false => cases decide (inR2 255 m) <;> simp [kt]
            | true =>
              rw [hm hsz]
              simp only [Bool.and_self, if_true, Bool.not_true, cond_false, cond_true]
              exact h8 _ rfl
        · rw [decide_eq_false hg]
          have hg2 : (decide (1 ≤ g) && decide (g ≤ 255)) = false := by
            unfold inR2 at hg
            rw [Bool.and_eq_false_iff]
            by_cases h : 1 ≤ g
            · right; exact decide_eq_false (by omega)
            · left; exact decide_eq_false h
          rw [hg2]
          cases decide (inR2 255 m) <;> simp [kt]
  have fixK : ∀ K : Int → Option (Tx × Int), F34_l7 n u c s p m v r l k a z g K 4 = F34_l7 n u c s p m v r l k a z g (fun _ => none) 4 := by
    intro K
    simp only [F34_l7]
    rw [show decide ((4 : Int) < (([u, v, r, l].length : Nat) : Int)) = false from rfl]
    rfl
  unfold F34
  refine (loopF_eq (F34_l7 n u c s p m v r l k a z g) (fun x => bif allIn 65535 ([u, v, r, l].drop x.toNat) then F34_l7 n u c s p m v r l k a z g (fun _ => none) 4 else some ([], 1)) (fun x => ∃ j : Nat, x = (j : Int) ∧ j ≤ 4) (fun x => 4 - x.toNat) ?_ n 0 ⟨0, rfl, by omega⟩ (by simp; omega)).trans ?_
  · rintro kk x ⟨j, rfl, hj⟩ ih
    by_cases hj4 : j < 4
    · have ek : ((j : Int) + 1).toNat = j + 1 := by omega
      have ih' := ih ((j : Int) + 1) ⟨j + 1, by omega, by omega⟩ (by simp only [Int.toNat_natCast, ek]; omega)
      have hlen : [u, v, r, l].length = 4 := rfl
      have ed : allIn 65535 ([u, v, r, l].drop j) = (decide (inR2 65535 ([u, v, r, l].getD j 0)) && allIn 65535 ([u, v, r, l].drop (j + 1))) := by
        rw [dropC [u, v, r, l] j 0 (by rw [hlen]; exact hj4)]; simp only [allIn, List.all_cons]
      simp only [F34_l7, Int.toNat_natCast, btw3]
      rw [decide_eq_true (show (j : Int) < (([u, v, r, l].length : Nat) : Int) by rw [hlen]; omega), inb_true (by omega) (by rw [hlen]; omega), w64 (n := (j : Int) + 1) (by omega) (by omega), ih', ek, ed]
      simp only [cond_true, Option.bind_some]
      rw [show decide (0 ≤ [u, v, r, l].getD j 0 ∧ [u, v, r, l].getD j 0 ≤ 65535) = decide (inR2 65535 ([u, v, r, l].getD j 0)) from rfl]
      cases decide (inR2 65535 ([u, v, r, l].getD j 0)) <;> rfl
    · obtain rfl : j = 4 := by omega
      have e4 : ((4 : Nat) : Int) = 4 := rfl
      rw [e4, fixK]; rfl
  · show (bif allIn 65535 [u, v, r, l] then _ else _) = _
    cases hw : allIn 65535 [u, v, r, l] with
    | true => exact rest hw
    | false =>
      unfold devVV devB
      rw [hw]
      cases allIn 255 [c, s, p, k, a, z] <;> rfl
end
theorem l26 (n : Nat) (T : List Tx) (m : List Int) : F12_l26 n T m = F13_l26 n T m := rfl
theorem l25 (n : Nat) (F : List CFace) (T : List Tx) : F12_l25 n F T = F13_l25 n F T := rfl
theorem l26_some (n : Nat) (T : List Tx) (m : List Int) (hm : m.length ≤ 1000) (hn : 2000 < n) : ∃ r, loopF (F12_l26 n T m) n 0 = some r := by
  obtain ⟨r, h, _⟩ := loopF_post (F12_l26 n T m) (fun x => ∃ j : Nat, x = (j : Int) ∧ j ≤ m.length) (fun _ _ => True) (fun x => m.length - x.toNat) (by
    rintro kk x ⟨j, rfl, hj⟩ ih
    simp only [F12_l26, Int.toNat_natCast]
    by_cases hjl : j < m.length
    · obtain ⟨r, h1, _⟩ := ih ((j : Int) + 1) ⟨j + 1, by omega, by omega⟩ (by simp only [Int.toNat_natCast]; omega)
      rw [decide_eq_true (show (j : Int) < (m.length : Int) by omega), inb_true (by omega) (by omega), w64 (n := (j : Int) + 1) (by omega) (by omega), h1]
      cases decide (m.getD j 0 > ((T.length : Nat) : Int))
      · exact ⟨_, rfl, trivial⟩
      · exact ⟨_, rfl, trivial⟩
    · rw [decide_eq_false (by omega)]
      exact ⟨_, rfl, trivial⟩) n 0 ⟨0, rfl, by omega⟩ (by simp; omega)
  exact ⟨r, h⟩
theorem l25_some (n : Nat) (F : List CFace) (hF : F.length ≤ 4) (T : List Tx) (m : List Int) (hm : m.length = 4) (hn : 2000 < n) : ∃ r, loopF (F12_l25 n F T) n (0, m) = some r := by
  obtain ⟨r, h, _⟩ := loopF_post (F12_l25 n F T) (fun d => ∃ j : Nat, d.1 = (j : Int) ∧ j ≤ F.length ∧ d.2.length = 4 + j) (fun _ _ => True) (fun d => F.length - d.1.toNat) (by
    rintro kk ⟨x, m⟩ ⟨j, rfl, hj, hm⟩ ih
    simp only at hm
    simp only [F12_l25, Int.toNat_natCast]
    by_cases hjl : j < F.length
    · obtain ⟨r, h1, _⟩ := ih ((j : Int) + 1, m ++ [(F.getD j (0, (0, (0, (0, ([], [])))))).2.2.2.1]) ⟨j + 1, by simp, by omega, by simp; omega⟩ (by simp only [Int.toNat_natCast]; omega)
      rw [decide_eq_true (show (j : Int) < (F.length : Int) by omega), inb_true (by omega) (by omega), w64 (n := (j : Int) + 1) (by omega) (by omega), decide_eq_true (by simp; omega)]
      simp only [cond_true]
      exact ⟨r, h1, trivial⟩
    · rw [decide_eq_false (by omega)]
      obtain ⟨r, h1⟩ := l26_some n T m (by omega) hn
      exact ⟨r, h1, trivial⟩) n (0, m) ⟨0, rfl, by omega, by simpa using hm⟩ (by simp; omega)
  exact ⟨r, h⟩
theorem conf_faces {v nm at' pw : Int} {Fs : List CFace} (h : (confV v nm at' pw Fs).2 = 0) : Fs.length ≤ 4 := by
  unfold confV at h
  split at h
  · simp at h
  · split at h
    · simp at h
    · omega
theorem l22_some (n : Nat) (hn : 1100000 < n) (a b c d : Int) (F : List CFace) (hF : F.length ≤ 4) (T : List Tx) (hT : T.length ≤ 8) (ht : ∀ t ∈ T, t.length ≤ 1048576) : ∃ r, loopF (F12_l22 n a b c d F T) n 0 = some r := by
  obtain ⟨r, h, _⟩ := loopF_post (F12_l22 n a b c d F T) (fun x => ∃ j : Nat, x = (j : Int) ∧ j ≤ T.length) (fun _ _ => True) (fun x => T.length - x.toNat) (by
    rintro kk x ⟨j, rfl, hj⟩ ih
    simp only [F12_l22, Int.toNat_natCast]
    by_cases hjl : j < T.length
    · obtain ⟨r, h1, _⟩ := ih ((j : Int) + 1) ⟨j + 1, by omega, by omega⟩ (by simp only [Int.toNat_natCast]; omega)
      have hl : (T.getD j []).length ≤ 1048576 := by
        rw [List.getD_eq_getElem?_getD, List.getElem?_eq_getElem hjl]; exact ht _ (List.getElem_mem hjl)
      rw [decide_eq_true (show (j : Int) < (T.length : Int) by omega), inb_true (by omega) (by omega), w64 (n := (j : Int) + 1) (by omega) (by omega), h1, textP n _ (by omega) (by omega)]
      simp only [cond_true, Option.bind_some]
      cases ((textV (T.getD j [])).2 != 0)
      · exact ⟨_, rfl, trivial⟩
      · exact ⟨_, rfl, trivial⟩
    · rw [decide_eq_false (by omega)]
      obtain ⟨r, h1⟩ := l25_some n F hF T [a, b, c, d] rfl (by omega)
      exact ⟨r, h1, trivial⟩) n 0 ⟨0, rfl, by omega⟩ (by simp; omega)
  exact ⟨r, h⟩
theorem l22_same (n : Nat) (hn : 1100000 < n) (a b c d : Int) (F : List CFace) (T : List Tx) (ht : ∀ t ∈ T, t.length ≤ 1048576) : loopF (F12_l22 n a b c d F T) n 0 = loopF (F13_l22 n a b c d F T) n 0 := by
  refine loopF_congr _ _ (fun k x => ?_) n 0
  simp only [F12_l22, F13_l22, l25]
  have hl : (T.getD x.toNat []).length ≤ 1048576 := by
    rw [List.getD_eq_getElem?_getD]
    cases h : T[x.toNat]? with
    | none => simp
    | some t => exact ht t (List.mem_of_getElem? h)
  rw [textP n _ (by omega) (by omega), textR n _ (by omega) (by omega)]
/-- both checks of a sheet say the same -/
theorem sheetS (n : Nat) (hn : 1100000 < n) (u c s p m v r l k a z g cv cn ca cp : Int) (F : List CFace) (T : List Tx) (ht : ∀ t ∈ T, t.length ≤ 1048576) :
    ∃ e, F12 n u c s p m v r l k a z g cv cn ca cp F T = some e ∧ F13 n u c s p m v r l k a z g cv cn ca cp F T = some e := by
  unfold F12 F13
  rw [devP u c s p m v r l k a z g n (by omega), devR u c s p m v r l k a z g n (by omega), confP n (by omega), confR n (by omega), l22_same n hn k a z cn F T ht]
  simp only [Option.bind_some]
  cases ((devVV u c s p m v r l k a z g).2 != 0)
  · cases (g != 1)
    · cases h : ((confV cv cn ca cp F).2 != 0)
      · by_cases h8 : ((T.length : Nat) : Int) > 8
        · rw [decide_eq_true h8]; exact ⟨_, rfl, rfl⟩
        · rw [decide_eq_false h8]
          obtain ⟨e, he⟩ := l22_some n hn k a z cn F (conf_faces (bne_eq_false_iff_eq.1 h)) T (by omega) ht
          rw [l22_same n hn k a z cn F T ht] at he
          exact ⟨e, he, he⟩
      · exact ⟨_, rfl, rfl⟩
    · exact ⟨_, rfl, rfl⟩
  · exact ⟨_, rfl, rfl⟩
end Go.Proofs.Ytnibbbmjjdkkgaa
