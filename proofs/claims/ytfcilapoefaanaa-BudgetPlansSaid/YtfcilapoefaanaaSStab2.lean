/- Go's stable sort, part 2: the sorted list; the insertion sort. -/
import Derived.Test.YtfcilapoefaanaaSStab
namespace Go.Proofs.Ytfcilapoefaanaa
open Go Go.RowKit
set_option linter.unusedVariables false

def leR (P : IL) (a b : Int) : Bool := decide (pk P a < pk P b ∨ (pk P a = pk P b ∧ a ≤ b))
def srt (P : IL) (L : IL) : IL := L.mergeSort (leR P)
theorem srt_perm (P L : IL) : (srt P L).Perm L := List.mergeSort_perm _ _
theorem srt_len (P L : IL) : (srt P L).length = L.length := (srt_perm P L).length_eq
theorem srt_eq {P L S : IL} (hp : S.Perm L) (hs : S.Pairwise (Rl P)) : srt P L = S := by
  refine List.Perm.eq_of_pairwise (le := fun a b => leR P a b = true) ?_ ?_ (hs.imp fun {a b} h => ?_) ((srt_perm P L).trans hp.symm)
  · intro a b _ _ h1 h2
    simp only [leR, decide_eq_true_eq] at h1 h2
    omega
  · exact List.pairwise_mergeSort (fun a b c h1 h2 => by simp only [leR, decide_eq_true_eq] at *; omega) (fun a b => by simp only [leR, Bool.or_eq_true, decide_eq_true_eq]; omega) L
  · simp only [leR, decide_eq_true_eq]
    unfold Rl at h; omega
theorem srt_nil (P : IL) : srt P [] = [] := srt_eq (.refl _) .nil
theorem srt_self {P S : IL} (hs : S.Pairwise (Rl P)) : srt P S = S := srt_eq (.refl _) hs
theorem srt_congr {P L L' : IL} (h : L.Perm L') (hs : (srt P L).Pairwise (Rl P)) : srt P L' = srt P L := srt_eq ((srt_perm P L).trans h) hs
theorem rl_pk {P : IL} {a b : Int} (h : Rl P a b) : pk P a ≤ pk P b := by unfold Rl at h; omega
theorem insR (n : Nat) (hn : 200 < n) (P X L Y : IL) (hP : okT P) (hL : ∀ x ∈ L, inP P x) (hi : L.Pairwise (· < ·)) (hl : (X ++ L ++ Y).length ≤ 64) (a b : Int) (ha : a = X.length) (hb : b = ((X.length + L.length : Nat) : Int)) :
    F98 n (X ++ L ++ Y) a b P = some (X ++ srt P L ++ Y) ∧ (srt P L).Pairwise (Rl P) := by
  simp only [List.length_append] at hl
  unfold F98
  rw [w64 (n := a + 1) (by omega) (by omega)]
  cases L with
  | nil =>
    rw [srt_nil]
    refine ⟨?_, .nil⟩
    obtain ⟨n, rfl⟩ : ∃ k, n = k + 1 := ⟨n - 1, by omega⟩
    show F98_l3 (n + 1) a b P _ (a + 1, X ++ [] ++ Y) = _
    simp only [F98_l3]
    rw [decide_eq_false (show ¬ a + 1 < b by simp at hb; omega)]; rfl
  | cons y0 L0 =>
    have main : ∃ r, loopF (F98_l3 n a b P) n (a + 1, X ++ y0 :: L0 ++ Y) = some r ∧ ∃ S, r = X ++ S ++ Y ∧ S.Perm (y0 :: L0) ∧ S.Pairwise (Rl P) := by
      refine loopF_post (F98_l3 n a b P) (fun d => ∃ S1 L1 L2 : IL, y0 :: L0 = L1 ++ L2 ∧ S1.Perm L1 ∧ S1.Pairwise (Rl P) ∧ d = (a + S1.length, X ++ S1 ++ L2 ++ Y)) (fun _ r => ∃ S, r = X ++ S ++ Y ∧ S.Perm (y0 :: L0) ∧ S.Pairwise (Rl P)) (fun d => 100 - d.1.toNat) ?_ n _ ⟨[y0], [y0], L0, rfl, .refl _, List.pairwise_singleton _ _, by simp⟩ (by show 100 - (a + 1).toNat < n; omega)
      rintro kk d ⟨S1, L1, L2, hLL, hp1, hs1, rfl⟩ ih
      simp only [F98_l3]
      have hlen := congrArg List.length hLL
      have hl1 := hp1.length_eq
      rw [List.length_append] at hlen
      rw [hLL] at hl hb hi hL
      simp only [List.length_append] at hl hb
      cases L2 with
      | nil =>
        rw [decide_eq_false (show ¬ a + (S1.length : Int) < b by simp at hb; omega), cond_false]
        refine ⟨_, rfl, S1, by simp, ?_, hs1⟩
        rw [hLL, List.append_nil]; exact hp1
      | cons y L2 =>
        simp only [List.length_cons] at hl hb hlen
        rw [decide_eq_true (show a + (S1.length : Int) < b by omega), cond_true]
        have hy : inP P y := hL y (by simp)
        have hlt : ∀ z ∈ S1, z < y := fun z hz => (List.pairwise_append.1 hi).2.2 z (hp1.subset hz) y (by simp)
        have hin : ∀ z ∈ S1, inP P z := fun z hz => hL z (List.mem_append_left _ (hp1.subset hz))
        refine loopF_post (F98_l4 n kk a P (a + S1.length)) (fun d => ∃ Sa Sb : IL, S1 = Sa ++ Sb ∧ d = (a + (Sa.length : Int), X ++ Sa ++ y :: Sb ++ L2 ++ Y) ∧ ∀ z ∈ Sb, pk P y < pk P z) (fun _ r => ∃ S, r = X ++ S ++ Y ∧ S.Perm (y0 :: L0) ∧ S.Pairwise (Rl P)) (fun d => d.1.toNat) ?_ n _ ⟨S1, [], by simp, by simp, by simp⟩ (by show (a + (S1.length : Int)).toNat < n; omega)
        rintro k2 d2 ⟨Sa, Sb, rfl, rfl, hSb⟩ ih2
        simp only [F98_l4]
        simp only [List.length_append] at hl1 hl hb
        -- what follows where it stops
        have stop : (∀ z ∈ Sa, Rl P z y) → ∃ r, kk (a + ((Sa ++ Sb).length : Int) + 1, X ++ Sa ++ y :: Sb ++ L2 ++ Y) = some r ∧ ∃ S, r = X ++ S ++ Y ∧ S.Perm (y0 :: L0) ∧ S.Pairwise (Rl P) := by
          intro hSa
          refine ih _ ⟨Sa ++ y :: Sb, L1 ++ [y], L2, by rw [hLL]; simp, ?_, ?_, ?_⟩ ?_
          · exact (List.perm_middle.trans (List.Perm.cons y hp1)).trans (List.perm_append_singleton y L1).symm
          · obtain ⟨p1, p2, p3⟩ := List.pairwise_append.1 hs1
            refine List.pairwise_append.2 ⟨p1, List.pairwise_cons.2 ⟨fun z hz => .inl (hSb z hz), p2⟩, fun z hz w hw => ?_⟩
            rcases List.mem_cons.1 hw with rfl | hw
            · exact hSa z hz
            · exact p3 z hz w hw
          · simp only [Prod.mk.injEq, List.length_append, List.length_cons]
            exact ⟨by omega, by simp⟩
          · show 100 - (a + ((Sa ++ Sb).length : Int) + 1).toNat < 100 - (a + ((Sa ++ Sb).length : Int)).toNat
            simp only [List.length_append]; omega
        have wi : IntKind.wrap .i64 (a + ((Sa ++ Sb).length : Int) + 1) = a + ((Sa ++ Sb).length : Int) + 1 := w64 (by simp only [List.length_append]; omega) (by simp only [List.length_append]; omega)
        rw [wi]
        rcases List.eq_nil_or_concat Sa with rfl | ⟨Sa, z, rfl⟩
        · rw [decide_eq_false (show ¬ a + (([] : IL).length : Int) > a by simp), cond_false]
          exact stop (by simp)
        · simp only [List.concat_eq_append] at *
          have hz1 : (Sa ++ [z]).length = Sa.length + 1 := by simp
          have hz : z ∈ Sa ++ [z] ++ Sb := by simp
          rw [decide_eq_true (show a + ((Sa ++ [z]).length : Int) > a by omega), cond_true, w64 (n := a + ((Sa ++ [z]).length : Int) - 1) (by omega) (by omega)]
          have e1 : X ++ (Sa ++ [z]) ++ y :: Sb ++ L2 ++ Y = (X ++ Sa) ++ z :: [] ++ y :: (Sb ++ L2 ++ Y) := by simp
          have hA : a + ((Sa ++ [z]).length : Int) - 1 = (X ++ Sa).length := by simp only [List.length_append, List.length_cons, List.length_nil]; omega
          have hB : a + ((Sa ++ [z]).length : Int) = ((X ++ Sa) ++ z :: []).length := by simp only [List.length_append, List.length_cons, List.length_nil]; omega
          have e2 : (X ++ Sa) ++ z :: [] ++ y :: (Sb ++ L2 ++ Y) = (X ++ Sa) ++ z :: (y :: (Sb ++ L2 ++ Y)) := by simp
          have g1 : ((X ++ Sa) ++ z :: [] ++ y :: (Sb ++ L2 ++ Y)).getD (a + ((Sa ++ [z]).length : Int) - 1).toNat 0 = z := by rw [e2]; exact get_mid _ _ z _ hA
          have g2 : inb (a + ((Sa ++ [z]).length : Int) - 1) ((X ++ Sa) ++ z :: [] ++ y :: (Sb ++ L2 ++ Y)).length = true := by rw [e2]; exact inb_mid _ _ z _ hA
          have g3 := get_mid ((X ++ Sa) ++ z :: []) (Sb ++ L2 ++ Y) y _ hB
          have g4 := inb_mid ((X ++ Sa) ++ z :: []) (Sb ++ L2 ++ Y) y _ hB
          have hcmp := cmpR n hP hy (hin z hz)
          rw [e1, g4, g2, g3, g1, hcmp]
          simp only [cond_true, Option.bind_some]
          by_cases hlt2 : pk P y < pk P z
          · rw [decide_eq_true (show pk P y - pk P z < 0 by omega), cond_true, List.length_set, g2, cond_true]
            have sw := swp_mid (X ++ Sa) [] (Sb ++ L2 ++ Y) z y _ _ hA hB
            -- the exchange the other way round
            have sw2 : (((X ++ Sa) ++ z :: [] ++ y :: (Sb ++ L2 ++ Y)).set (a + ((Sa ++ [z]).length : Int)).toNat z).set (a + ((Sa ++ [z]).length : Int) - 1).toNat y = (X ++ Sa) ++ y :: [] ++ z :: (Sb ++ L2 ++ Y) := by
              rw [List.set_comm _ _ (by omega)]; exact sw
            rw [sw2]
            refine ih2 _ ⟨Sa, z :: Sb, by simp, ?_, fun w hw => ?_⟩ ?_
            · simp only [Prod.mk.injEq]
              exact ⟨by omega, by simp⟩
            · rcases List.mem_cons.1 hw with rfl | hw
              · exact hlt2
              · exact hSb w hw
            · show (a + ((Sa ++ [z]).length : Int) - 1).toNat < (a + ((Sa ++ [z]).length : Int)).toNat
              omega
          · rw [decide_eq_false (show ¬ pk P y - pk P z < 0 by omega), cond_false, ← e1]
            refine stop fun w hw => ?_
            have hwy : w < y := hlt w (by simp only [List.mem_append] at hw ⊢; exact .inl hw)
            have hwz : pk P w ≤ pk P z := by
              rcases List.mem_append.1 hw with hw | hw
              · have := (List.pairwise_append.1 (List.pairwise_append.1 hs1).1).2.2 w hw z (by simp)
                exact rl_pk this
              · obtain rfl := List.mem_singleton.1 hw; omega
            unfold Rl; omega
    obtain ⟨r, h1, S, rfl, h2, h3⟩ := main
    have e := srt_eq h2 h3
    rw [e]
    exact ⟨h1, h3⟩
end Go.Proofs.Ytfcilapoefaanaa
