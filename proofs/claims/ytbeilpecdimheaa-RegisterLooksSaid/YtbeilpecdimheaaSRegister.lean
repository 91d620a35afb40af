/- The laws of the register, in plain Lean. -/
import Derived.Test.YtbeilpecdimheaaFr
import Derived.Test.YtbeilpecdimheaaAm23
namespace Go.Proofs.Ytbeilpecdimheaa
open Go Go.RowKit
set_option linter.unusedVariables false

abbrev Rm := Int × Bool × Int
abbrev rz : Rm := ((0 : Int), (false, (0 : Int)))
def RoomsIn (R : List Rm) : Prop := ∀ i : Nat, i < 16 → 0 ≤ (R.getD i rz).1 ∧ (R.getD i rz).1 ≤ 65535
theorem f66_eq (n : Nat) (a b c : Int) : F66 n a b c = some (decide (b ≤ a) && decide (a ≤ c)) := by
  unfold F66
  by_cases h : b ≤ a <;> simp [h]
theorem check_same (n m : Nat) (R : List Rm) : ∀ (x : Int), loopF (F21_l2 n R) m x = loopF (F22_l2 n R) m x := by
  induction m with
  | zero => intro x; rfl
  | succ m ih =>
    intro x
    simp only [loopF, F21_l2, F22_l2, f66_eq, Option.bind_some, Sh.beq, ih]
    generalize R.getD x.toNat ((0 : Int), (false, (0 : Int))) = q
    obtain ⟨g, u, wh⟩ := q
    cases decide (x < 16) <;> cases inb x 16 <;> simp only [cond_true, cond_false]
    cases u <;> simp only [Bool.cond_eq_ite] <;> grind
theorem f21_f22 (n : Nat) (R : List Rm) : F21 n R = F22 n R := check_same n n R 0
theorem f21_ok (R : List Rm) (n : Nat) (hn : 17 ≤ n) : ∃ r, F21 n R = some r ∧ (r = 0 → RoomsIn R) := by
  obtain ⟨r, h1, h2⟩ := loopF_post (F21_l2 n R) (fun x => 0 ≤ x ∧ x ≤ 16) (fun x r => r = 0 → ∀ i : Nat, x ≤ i → i < 16 → 0 ≤ (R.getD i rz).1 ∧ (R.getD i rz).1 ≤ 65535) (fun x => (16 - x).toNat) (by
    rintro k x ⟨hx0, hx1⟩ ih
    simp only [F21_l2]
    by_cases hx : x < 16
    · have hw : IntKind.wrap .i64 (x + 1) = x + 1 := w64 (by omega) (by omega)
      obtain ⟨r, hr1, hr2⟩ := ih (x + 1) ⟨by omega, by omega⟩ (by omega)
      rw [inb_true hx0 (by omega), hw, hr1]
      have hq : ∀ i : Nat, x ≤ i → i < 16 → (i : Int) = x ∨ x + 1 ≤ i := fun i h1 _ => by omega
      have hxi : ∀ i : Nat, (i : Int) = x → x.toNat = i := fun i h => by omega
      generalize hqq : R.getD x.toNat ((0 : Int), (false, (0 : Int))) = q
      obtain ⟨g, u, wh⟩ := q
      simp only [decide_eq_true hx, Bool.cond_eq_ite]
      have fin : (0 ≤ g ∧ g ≤ 65535) → r = 0 → ∀ i : Nat, x ≤ i → i < 16 → 0 ≤ (R.getD i rz).1 ∧ (R.getD i rz).1 ≤ 65535 := by
        intro hg hr i h1 h2
        rcases hq i h1 h2 with h | h
        · rw [← hxi i h, hqq]; exact hg
        · exact hr2 hr i h h2
      by_cases g1 : g < 0
      · exact ⟨4, by simp [g1], by omega⟩
      by_cases g2 : g > 65535
      · exact ⟨4, by simp [g1, g2], by omega⟩
      cases u
      · by_cases g3 : wh = 0
        · exact ⟨r, by simp [g1, g2, g3], fin (by omega)⟩
        · exact ⟨4, by simp [g1, g2, g3], by omega⟩
      · by_cases g3 : g = 0
        · exact ⟨4, by simp [g3], by omega⟩
        · exact ⟨r, by simp [g1, g2, g3], fin (by omega)⟩
    · exact ⟨0, by simp [hx], fun _ i h1 h2 => by omega⟩) n 0 ⟨by omega, by omega⟩ (by simp; omega)
  exact ⟨r, h1, fun hr i hi => h2 hr i (by omega) hi⟩
/-- the handles -/
def hnd (R : List Rm) (i : Nat) : Int := if (R.getD i rz).2.1 then IntKind.wrap .i64 (IntKind.wrap .i64 (16 * (R.getD i rz).1) + i) else -1
theorem f65_ok (R : List Rm) (n : Nat) (hn : 17 ≤ n) : ∃ l, F65 n R = some l ∧ ∀ i : Nat, i < 16 → l.getD i 0 = hnd R i := by
  obtain ⟨r, h1, h2⟩ := loopF_post (F65_l2 n R) (fun d => 0 ≤ d.1 ∧ d.1 ≤ 16 ∧ d.2.length = 16 ∧ ∀ i : Nat, (i : Int) < d.1 → d.2.getD i 0 = hnd R i) (fun d r => ∀ i : Nat, i < 16 → r.getD i 0 = hnd R i) (fun d => (16 - d.1).toNat) (by
    rintro k ⟨x, m⟩ ⟨hx0, hx1, hl, hi⟩ ih
    simp only at hx0 hx1 hl hi ih
    simp only [F65_l2]
    by_cases hx : x < 16
    · have hw : IntKind.wrap .i64 (x + 1) = x + 1 := w64 (by omega) (by omega)
      rw [inb_true hx0 (by omega), hw]
      simp only [decide_eq_true hx, cond_true]
      have hxx : ((x.toNat : Nat) : Int) = x := by omega
      have step : ∀ (m' : List Int), m'.length = 16 → m'.getD x.toNat 0 = hnd R x.toNat → (∀ i : Nat, i ≠ x.toNat → m'.getD i 0 = m.getD i 0) → ∃ r, k (x + 1, m') = some r ∧ ∀ i : Nat, i < 16 → r.getD i 0 = hnd R i := by
        intro m' h1 h2 h3
        obtain ⟨r, hr1, hr2⟩ := ih (x + 1, m') ⟨by simp only; omega, by simp only; omega, h1, fun i hi' => by
          simp only at hi'
          by_cases e : i = x.toNat
          · rw [e]; exact h2
          · rw [h3 i e]; exact hi i (by omega)⟩ (by simp only; omega)
        exact ⟨r, hr1, hr2⟩
      cases hu : (R.getD x.toNat ((0 : Int), (false, (0 : Int)))).2.1
      · simp only [cond_false]
        refine step _ (by simp [hl]) ?_ (fun i hne => ?_)
        · unfold hnd; rw [hu]; simp [List.getD_eq_getElem?_getD, hl, hx]
        · simp [List.getD_eq_getElem?_getD, Ne.symm hne]
      · simp only [cond_true]
        refine step _ (by simp [hl]) ?_ (fun i hne => ?_)
        · unfold hnd; rw [hu, hxx]; simp [List.getD_eq_getElem?_getD, hl, hx]
        · simp [List.getD_eq_getElem?_getD, Ne.symm hne]
    · exact ⟨m, by simp [hx], fun i h => hi i (by omega)⟩) n (0, List.replicate 16 0) ⟨by simp, by simp, by simp, fun i h => by simp at h; omega⟩ (by simp; omega)
  exact ⟨r, h1, h2⟩
theorem hnd_neg {R : List Rm} (hR : RoomsIn R) {i : Nat} (hi : i < 16) : (hnd R i < 0) ↔ (R.getD i rz).2.1 = false := by
  have := hR i hi
  unfold hnd
  generalize (R.getD i rz).1 = g at *
  cases (R.getD i rz).2.1
  · simp
  · rw [w64 (n := 16 * g) (by omega) (by omega), w64 (by omega) (by omega)]
    simp; omega
theorem let_same (R : List Rm) (what : Int) (hl : R.length = 16) (n : Nat) (hn : 17 ≤ n) : ∃ r, F19 n R what = some r ∧ F20 n R what = some r := by
  obtain ⟨c, hc, hin⟩ := f21_ok R n hn
  unfold F19 F20
  rw [← f21_f22, hc]
  simp only [Option.bind_some]
  by_cases h0 : c = 0
  · have hR := hin h0
    subst h0
    obtain ⟨l, hl1, hl2⟩ := f65_ok R n hn
    rw [hl1]
    simp only [bne_self_eq_false, cond_false, Option.bind_some]
    obtain ⟨r, r', g1, g2, g3⟩ := loopF_rel (F19_l2 n R what) (F20_l2 n R what l) (fun x y => x = y ∧ 0 ≤ x ∧ x ≤ 16) (fun r r' => r = r') (fun x => (16 - x).toNat) (by
      rintro k k' x y ⟨rfl, hx0, hx1⟩ ih
      simp only [F19_l2, F20_l2]
      by_cases hx : x < 16
      · have hw : IntKind.wrap .i64 (x + 1) = x + 1 := w64 (by omega) (by omega)
        rw [inb_true hx0 (by omega), hw]
        obtain ⟨r, r', i1, i2, i3⟩ := ih (x + 1) (x + 1) ⟨rfl, by omega, by omega⟩ (by omega)
        simp only [decide_eq_true hx, cond_true]
        have hneg := hnd_neg hR (i := x.toNat) (by omega)
        have e : decide (l.getD x.toNat 0 < 0) = !(R.getD x.toNat ((0 : Int), (false, (0 : Int)))).2.1 := by
          rw [hl2 x.toNat (by omega)]
          cases hu : (R.getD x.toNat ((0 : Int), (false, (0 : Int)))).2.1
          · simpa using hneg.2 hu
          · have : ¬ hnd R x.toNat < 0 := fun h => by have := hneg.1 h; rw [hu] at this; cases this
            simpa using this
        rw [e]
        cases hu : (R.getD x.toNat ((0 : Int), (false, (0 : Int)))).2.1
        · simp only [Bool.not_false, cond_true]
          by_cases hg : (R.getD x.toNat ((0 : Int), (false, (0 : Int)))).1 < 65535
          · simp only [decide_eq_true hg, cond_true]
            obtain ⟨l2, q1, q2⟩ := f65_ok (R.set x.toNat ((IntKind.wrap .i64 ((R.getD x.toNat ((0 : Int), (false, (0 : Int)))).1 + (1 : Int))), (true, what))) n hn
            rw [q1]
            refine ⟨_, _, rfl, rfl, ?_⟩
            rw [q2 x.toNat (by omega)]
            unfold hnd
            have hlt : x.toNat < R.length := by omega
            simp only [List.getD_eq_getElem?_getD, List.getElem?_set, hlt, if_true, Option.getD_some]
            have hxx : ((x.toNat : Nat) : Int) = x := by omega
            rw [hxx, Int.add_comm x]
          · simp only [decide_eq_false hg, cond_false]
            exact ⟨r, r', i1, i2, i3⟩
        · simp only [Bool.not_true, cond_false]
          exact ⟨r, r', i1, i2, i3⟩
      · simp only [decide_eq_false hx, cond_false]; exact ⟨_, _, rfl, rfl, rfl⟩) n n 0 0 ⟨rfl, by omega, by omega⟩ (by omega) (by omega)
    exact ⟨r, g1, by rw [g3]; exact g2⟩
  · have e : (c != 0) = true := by simpa using h0
    rw [e]
    exact ⟨_, rfl, rfl⟩
theorem registerLets_says (a0 : List Rm) (g0 : Sh.good (.st (.arr 16 (.st (.pair (.int .i64) (.pair .bool (.int .i64)))))) a0) (a1 : Int) (g1 : Sh.good (.int .i64) a1) : ∃ n, F5 n a0 a1 = some true := by
  have hl : a0.length = 16 := g0.1
  obtain ⟨r, h1, h2⟩ := let_same a0 a1 hl 17 (Nat.le_refl _)
  obtain ⟨c, h3, _⟩ := f21_ok a0 17 (Nat.le_refl _)
  refine ⟨17, ?_⟩
  unfold F5
  rw [h1, h2, ← f21_f22, h3]
  simp [Sh.beq_self]
theorem find_same (R : List Rm) (handle : Int) (n : Nat) (hn : 17 ≤ n) (hR : RoomsIn R) (l : List Int) (hl2 : ∀ i : Nat, i < 16 → l.getD i 0 = hnd R i) :
    ∃ r r', F67 n R handle = some r ∧ loopF (F25_l2 n handle l) n (0 : Int) = some r' ∧ ((r = -1 ∧ r' = (0, 12)) ∨ (0 ≤ r ∧ r < 16 ∧ r' = (r, 0))) := by
  refine loopF_rel (F67_l2 n R handle) (F25_l2 n handle l) (fun x y => x = y ∧ 0 ≤ x ∧ x ≤ 16) (fun r r' => (r = -1 ∧ r' = (0, 12)) ∨ (0 ≤ r ∧ r < 16 ∧ r' = (r, 0))) (fun x => (16 - x).toNat) (by
    rintro k k' x y ⟨rfl, hx0, hx1⟩ ih
    simp only [F67_l2, F25_l2]
    by_cases hx : x < 16
    · have hw : IntKind.wrap .i64 (x + 1) = x + 1 := w64 (by omega) (by omega)
      rw [inb_true hx0 (by omega), hw]
      obtain ⟨r, r', i1, i2, i3⟩ := ih (x + 1) (x + 1) ⟨rfl, by omega, by omega⟩ (by omega)
      simp only [decide_eq_true hx, cond_true]
      have hneg := hnd_neg hR (i := x.toNat) (by omega)
      have hxx : ((x.toNat : Nat) : Int) = x := by omega
      rw [hl2 x.toNat (by omega)]
      cases hu : (R.getD x.toNat ((0 : Int), (false, (0 : Int)))).2.1
      · have := hneg.2 hu
        rw [decide_eq_false (by omega : ¬ hnd R x.toNat ≥ 0)]
        exact ⟨r, r', i1, i2, i3⟩
      · have h0 : ¬ hnd R x.toNat < 0 := fun h => by have := hneg.1 h; rw [hu] at this; cases this
        rw [decide_eq_true (by omega : hnd R x.toNat ≥ 0)]
        have e : hnd R x.toNat = IntKind.wrap .i64 (x + IntKind.wrap .i64 (16 * (R.getD x.toNat ((0 : Int), (false, (0 : Int)))).1)) := by
          unfold hnd
          rw [hu, if_pos rfl, hxx, Int.add_comm x]
        rw [← e]
        simp only [cond_true]
        by_cases hh : handle = hnd R x.toNat
        · rw [hh]
          simp only [BEq.rfl, cond_true]
          exact ⟨_, _, rfl, rfl, .inr ⟨hx0, hx, rfl⟩⟩
        · rw [beq_eq_false_iff_ne.2 hh, beq_eq_false_iff_ne.2 (Ne.symm hh)]
          exact ⟨r, r', i1, i2, i3⟩
    · simp only [decide_eq_false hx, cond_false]
      exact ⟨_, _, rfl, rfl, .inl ⟨rfl, rfl⟩⟩) n n 0 0 ⟨rfl, by omega, by omega⟩ (by omega) (by omega)
theorem registerLooks_says (a0 : List Rm) (g0 : Sh.good (.st (.arr 16 (.st (.pair (.int .i64) (.pair .bool (.int .i64)))))) a0) (a1 : Int) (g1 : Sh.good (.int .i64) a1) : ∃ n, F6 n a0 a1 = some true := by
  have hl : a0.length = 16 := g0.1
  obtain ⟨c, hc, hin⟩ := f21_ok a0 17 (Nat.le_refl _)
  refine ⟨17, ?_⟩
  unfold F6 F23 F24 F25
  rw [← f21_f22, hc]
  simp only [Option.bind_some]
  by_cases h0 : c = 0
  · have hR := hin h0
    subst h0
    obtain ⟨l, hl1, hl2⟩ := f65_ok a0 17 (Nat.le_refl _)
    rw [hl1]
    obtain ⟨r, r', e1, e2, hor⟩ := find_same a0 a1 17 (Nat.le_refl _) hR l hl2
    simp only [bne_self_eq_false, cond_false, Option.bind_some, e1, e2]
    rcases hor with ⟨rfl, rfl⟩ | ⟨hr0, hr1, rfl⟩
    · simp [Sh.beq_self, F6_j2]
    · have hlt : r.toNat < a0.length := by omega
      rw [decide_eq_false (by omega : ¬ r < 0), inb_true hr0 (by omega)]
      simp [Sh.beq_self, List.getD_eq_getElem?_getD, hlt]
  · have e : (c != 0) = true := by simpa using h0
    rw [e]
    simp only [cond_true, Option.bind_some, e]
    simp [Sh.beq_self, F6_j2]
end Go.Proofs.Ytbeilpecdimheaa
