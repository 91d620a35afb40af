/- Go's stable sort of numbers by a table, in plain Lean: part 1: swaps, rotations, the insertion sort. -/
import Derived.Test.YtfcilapoefaanaaFbp
import Derived.Test.YtfcilapoefaanaaAm26
import Derived.Test.YtfcilapoefaanaaAm22
namespace Go.Proofs.Ytfcilapoefaanaa
open Go Go.RowKit
set_option linter.unusedVariables false

abbrev IL := List Int
def pk (P : IL) (x : Int) : Int := P.getD x.toNat 0
def Rl (P : IL) (a b : Int) : Prop := pk P a < pk P b ∨ (pk P a = pk P b ∧ a < b)
def okT (P : IL) : Prop := ∀ x ∈ P, 0 ≤ x ∧ x ≤ 1000
def inP (P : IL) (x : Int) : Prop := 0 ≤ x ∧ x < P.length
theorem pk_bd {P : IL} (h : okT P) (x : Int) : 0 ≤ pk P x ∧ pk P x ≤ 1000 := by
  unfold pk
  rw [List.getD_eq_getElem?_getD]
  rcases Nat.lt_or_ge x.toNat P.length with h1 | h1
  · rw [List.getElem?_eq_getElem h1]; exact h _ (List.getElem_mem h1)
  · rw [List.getElem?_eq_none h1]; simp
theorem cmpR (n : Nat) {P : IL} (h : okT P) {a b : Int} (ha : inP P a) (hb : inP P b) : F45 n a b P = some (pk P a - pk P b) := by
  unfold F45
  have h1 := pk_bd h a; have h2 := pk_bd h b
  rw [inb_true ha.1 ha.2, inb_true hb.1 hb.2]
  show some (IntKind.wrap .i64 (pk P a - pk P b)) = _
  rw [w64 (by omega) (by omega)]
theorem get_mid (A B : IL) (x i : Int) (h : i = A.length) : (A ++ x :: B).getD i.toNat 0 = x := by
  subst h; simp [List.getD_eq_getElem?_getD]
theorem set_mid (A B : IL) (x y i : Int) (h : i = A.length) : (A ++ x :: B).set i.toNat y = A ++ y :: B := by
  subst h; simp
theorem inb_mid (A B : IL) (x i : Int) (h : i = A.length) : inb i (A ++ x :: B).length = true := by
  subst h; exact inb_true (by omega) (by simp; omega)
/-- an exchange of two places -/
theorem swp_mid (A B C : IL) (x y i j : Int) (hi : i = A.length) (hj : j = (A ++ x :: B).length) :
    ((A ++ x :: B ++ y :: C).set i.toNat y).set j.toNat x = A ++ y :: B ++ x :: C := by
  have e1 : A ++ x :: B ++ y :: C = A ++ x :: (B ++ y :: C) := by simp
  rw [e1, set_mid A _ x y i hi]
  have e2 : A ++ y :: (B ++ y :: C) = (A ++ y :: B) ++ y :: C := by simp
  rw [e2, set_mid _ C y x j (by rw [hj]; simp)]
theorem swapR (n : Nat) (hn : 200 < n) (P X u Z v Y : IL) (huv : u.length = v.length) (hl : (X ++ u ++ Z ++ v ++ Y).length ≤ 64) (a b c : Int) (ha : a = X.length) (hb : b = ((X.length + u.length + Z.length : Nat) : Int)) (hc : c = u.length) :
    F114 n (X ++ u ++ Z ++ v ++ Y) a b c P = some (X ++ v ++ Z ++ u ++ Y) := by
  simp only [List.length_append] at hl
  unfold F114
  refine loopF_eq (F114_l1 n a b c) (fun _ => some (X ++ v ++ Z ++ u ++ Y)) (fun d => ∃ u1 u2 v1 v2 : IL, u = u1 ++ u2 ∧ v = v1 ++ v2 ∧ u1.length = v1.length ∧ d = ((u1.length : Int), X ++ v1 ++ u2 ++ Z ++ u1 ++ v2 ++ Y)) (fun d => 64 - d.1.toNat) ?_ n _ ⟨[], u, [], v, rfl, rfl, rfl, by simp⟩ (by show 64 - (0 : Int).toNat < n; omega)
  rintro kk d ⟨u1, u2, v1, v2, rfl, rfl, h1, rfl⟩ ih
  simp only [F114_l1]
  simp only [List.length_append] at huv hl hb hc
  match u2, v2 with
  | [], [] =>
    rw [decide_eq_false (show ¬ (u1.length : Int) < c by simp at hc; omega)]; simp
  | x :: u2, [] => simp at huv; omega
  | [], y :: v2 => simp at huv; omega
  | x :: u2, y :: v2 =>
    simp only [List.length_cons] at huv hl hb hc
    rw [decide_eq_true (show (u1.length : Int) < c by omega), w64 (n := b + (u1.length : Int)) (by omega) (by omega), w64 (n := a + (u1.length : Int)) (by omega) (by omega), w64 (n := (u1.length : Int) + 1) (by omega) (by omega)]
    have e1 : X ++ v1 ++ (x :: u2) ++ Z ++ u1 ++ (y :: v2) ++ Y = (X ++ v1) ++ x :: (u2 ++ Z ++ u1) ++ y :: (v2 ++ Y) := by simp
    have hA : a + (u1.length : Int) = (X ++ v1).length := by rw [List.length_append]; omega
    have hB : b + (u1.length : Int) = ((X ++ v1) ++ x :: (u2 ++ Z ++ u1)).length := by simp only [List.length_append, List.length_cons]; omega
    rw [e1]
    rw [List.length_set, inb_mid _ (v2 ++ Y) y _ hB, get_mid _ (v2 ++ Y) y _ hB]
    have e2 : (X ++ v1) ++ x :: (u2 ++ Z ++ u1) ++ y :: (v2 ++ Y) = (X ++ v1) ++ x :: (u2 ++ Z ++ u1 ++ y :: (v2 ++ Y)) := by simp
    have e3 : ((X ++ v1) ++ x :: (u2 ++ Z ++ u1) ++ y :: (v2 ++ Y)).getD (a + (u1.length : Int)).toNat 0 = x := by rw [e2]; exact get_mid _ _ x _ hA
    have e4 : inb (a + (u1.length : Int)) ((X ++ v1) ++ x :: (u2 ++ Z ++ u1) ++ y :: (v2 ++ Y)).length = true := by rw [e2]; exact inb_mid _ _ x _ hA
    rw [e3, e4, swp_mid (X ++ v1) (u2 ++ Z ++ u1) (v2 ++ Y) x y _ _ hA hB]
    simp only [cond_true]
    refine (ih _ ⟨u1 ++ [x], u2, v1 ++ [y], v2, by simp, by simp, by simp [h1], ?_⟩ ?_).trans ?_
    · simp
    · show 64 - ((u1.length : Int) + 1).toNat < 64 - (u1.length : Int).toNat
      omega
    · rfl
theorem rotR (n : Nat) (hn : 200 < n) (P X U V Y : IL) (hU : U ≠ []) (hV : V ≠ []) (hl : (X ++ U ++ V ++ Y).length ≤ 64) (a m b : Int) (ha : a = X.length) (hm : m = ((X.length + U.length : Nat) : Int)) (hb : b = ((X.length + U.length + V.length : Nat) : Int)) :
    F111 n (X ++ U ++ V ++ Y) a m b P = some (X ++ V ++ U ++ Y) := by
  have lU : 0 < U.length := List.length_pos_iff.2 hU
  have lV : 0 < V.length := List.length_pos_iff.2 hV
  simp only [List.length_append] at hl
  unfold F111
  rw [w64 (n := m - a) (by omega) (by omega), w64 (n := b - m) (by omega) (by omega)]
  refine loopF_eq (F111_l1 n m P) (fun _ => some (X ++ V ++ U ++ Y)) (fun d => ∃ X' u v Y' : IL, d = ((u.length : Int), (v.length : Int), X' ++ u ++ v ++ Y') ∧ m = ((X'.length + u.length : Nat) : Int) ∧ 0 < u.length ∧ 0 < v.length ∧ X' ++ v ++ u ++ Y' = X ++ V ++ U ++ Y) (fun d => d.1.toNat + d.2.1.toNat) ?_ n _ ⟨X, U, V, Y, by rw [ha, hb, hm]; simp only [Prod.mk.injEq]; exact ⟨by omega, by omega, trivial⟩, hm, lU, lV, rfl⟩ (by show (m - a).toNat + (b - m).toNat < n; omega)
  rintro kk d ⟨X', u, v, Y', rfl, hm', lu, lv, hf⟩ ih
  simp only [F111_l1]
  have hl' : X'.length + v.length + u.length + Y'.length ≤ 64 := by
    have := congrArg List.length hf
    simp only [List.length_append] at this; omega
  have wm : IntKind.wrap .i64 (m - (u.length : Int)) = m - u.length := w64 (by omega) (by omega)
  rw [wm]
  by_cases h1 : u.length = v.length
  · rw [show ((u.length : Int) != (v.length : Int)) = false by rw [bne_eq_false_iff_eq]; omega, cond_false]
    have := swapR n hn P X' u [] v Y' h1 (by simp only [List.length_append, List.length_nil]; omega) (m - u.length) m u.length (by omega) (by rw [hm']; simp) rfl
    simp only [List.append_nil] at this
    rw [this, Option.bind_some, hf]
  · rw [show ((u.length : Int) != (v.length : Int)) = true by rw [bne_iff_ne]; omega, cond_true]
    by_cases h2 : v.length < u.length
    · rw [decide_eq_true (show (u.length : Int) > (v.length : Int) by omega), cond_true, w64 (n := (u.length : Int) - v.length) (by omega) (by omega)]
      obtain ⟨u1, u2, rfl, l1⟩ : ∃ u1 u2, u = u1 ++ u2 ∧ u1.length = v.length := ⟨u.take v.length, u.drop v.length, (List.take_append_drop _ _).symm, by rw [List.length_take]; omega⟩
      simp only [List.length_append] at *
      have := swapR n hn P X' u1 u2 v Y' l1 (by simp only [List.length_append]; omega) (m - ((u1.length + u2.length : Nat) : Int)) m v.length (by omega) (by omega) (by omega)
      rw [show X' ++ (u1 ++ u2) ++ v ++ Y' = X' ++ u1 ++ u2 ++ v ++ Y' by simp, this, Option.bind_some]
      refine ih _ ⟨X' ++ v, u2, u1, Y', ?_, by simp only [List.length_append]; omega, by omega, by omega, by rw [← hf]; simp⟩ (by show ((((u1.length + u2.length : Nat) : Int) - v.length).toNat + (v.length : Int).toNat) < (((u1.length + u2.length : Nat) : Int).toNat + (v.length : Int).toNat); omega)
      simp only [Prod.mk.injEq]
      exact ⟨by omega, by omega, trivial⟩
    · rw [decide_eq_false (show ¬ (u.length : Int) > (v.length : Int) by omega), cond_false, w64 (n := m + (v.length : Int)) (by omega) (by omega), w64 (n := m + (v.length : Int) - u.length) (by omega) (by omega), w64 (n := (v.length : Int) - u.length) (by omega) (by omega)]
      obtain ⟨v1, v2, rfl, l1⟩ : ∃ v1 v2, v = v1 ++ v2 ∧ v2.length = u.length := ⟨v.take (v.length - u.length), v.drop (v.length - u.length), (List.take_append_drop _ _).symm, by rw [List.length_drop]; omega⟩
      simp only [List.length_append] at *
      have := swapR n hn P X' u v1 v2 Y' l1.symm (by simp only [List.length_append]; omega) (m - (u.length : Int)) (m + ((v1.length + v2.length : Nat) : Int) - u.length) u.length (by omega) (by omega) rfl
      rw [show X' ++ u ++ (v1 ++ v2) ++ Y' = X' ++ u ++ v1 ++ v2 ++ Y' by simp, this, Option.bind_some]
      refine ih _ ⟨X', v2, v1, u ++ Y', ?_, by omega, by omega, by omega, by rw [← hf]; simp⟩ (by show ((u.length : Int).toNat + (((v1.length + v2.length : Nat) : Int) - u.length).toNat) < ((u.length : Int).toNat + ((v1.length + v2.length : Nat) : Int).toNat); omega)
      simp only [Prod.mk.injEq]
      exact ⟨by omega, by omega, by simp⟩
end Go.Proofs.Ytfcilapoefaanaa
