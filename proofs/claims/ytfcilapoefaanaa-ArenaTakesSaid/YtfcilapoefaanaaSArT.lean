/- Taking a span, in plain Lean: the law ArenaTakes. -/
import Derived.Test.YtfcilapoefaanaaFat
import Derived.Test.YtfcilapoefaanaaAm26
import Derived.Test.YtfcilapoefaanaaAm22
namespace Go.Proofs.Ytfcilapoefaanaa
open Go Go.RowKit
set_option linter.unusedVariables false

abbrev SpL := List (Int × Int)
def Apt (S : Int) (T : SpL) : Prop := T.Pairwise (fun a b => a.1 + a.2 ≤ b.1) ∧ ∀ x ∈ T, 0 ≤ x.1 ∧ 1 ≤ x.2 ∧ x.1 + x.2 ≤ S
structure GoodA (S : Int) (T : SpL) : Prop where
  s1 : 1 ≤ S
  s2 : S ≤ 65536
  len : T.length ≤ 64
  pw : T.Pairwise (fun a b => a.1 + a.2 ≤ b.1)
  el : ∀ x ∈ T, 0 ≤ x.1 ∧ 1 ≤ x.2 ∧ x.1 + x.2 ≤ S
theorem betA (n : Nat) (v lo hi : Int) : F21 n v lo hi = some (decide (lo ≤ v ∧ v ≤ hi)) := by
  unfold F21
  by_cases h : lo ≤ v <;> simp [h]
theorem getA (T : SpL) (k : Nat) (h : k < T.length) : T.getD k (0, 0) = T[k] := by
  rw [List.getD_eq_getElem?_getD, List.getElem?_eq_getElem h]; rfl
theorem takeA (T : SpL) (k : Nat) (h : k < T.length) : T.take (k + 1) = T.take k ++ [T[k]] := by
  rw [List.take_add_one, List.getElem?_eq_getElem h]; rfl
/-- both check the same -/
theorem checkA (n : Nat) (hn : 100 < n) (S : Int) (T : SpL) : ∃ r, F15 n S T = some r ∧ F19 n S T = some r ∧ (r = 0 → GoodA S T) := by
  unfold F15 F19
  rw [betA]
  simp only [Option.bind_some]
  by_cases hS : 1 ≤ S ∧ S ≤ 65536
  · rw [decide_eq_true hS, decide_eq_false (show ¬ S < 1 by omega), decide_eq_false (show ¬ S > 65536 by omega)]
    simp only [cond_false, Bool.not_true]
    by_cases hl : T.length ≤ 64
    · rw [decide_eq_false (show ¬ ((T.length : Nat) : Int) > 64 by omega)]
      simp only [cond_false]
      have main : ∃ r r', loopF (F15_l2 n S T) n (0, 0) = some r ∧ loopF (F19_l2 n S T) n 0 = some r' ∧ (r = r' ∧ (r = 0 → Apt S T)) := by
        refine loopF_rel (F15_l2 n S T) (F19_l2 n S T)
          (fun d d' => ∃ k : Nat, d = (d.1, (k : Int)) ∧ d' = (k : Int) ∧ k ≤ T.length ∧ 0 ≤ d.1 ∧ d.1 ≤ S ∧ (0 < k → d.1 = (T.getD (k - 1) (0, 0)).1 + (T.getD (k - 1) (0, 0)).2) ∧ (k = 0 → d.1 = 0) ∧ List.Pairwise (fun a b => a.1 + a.2 ≤ b.1) (T.take k) ∧ (∀ x ∈ T.take k, 0 ≤ x.1 ∧ 1 ≤ x.2 ∧ x.1 + x.2 ≤ d.1))
          (fun r r' => r = r' ∧ (r = 0 → Apt S T)) (fun d => T.length - d.2.toNat) ?_ n n _ _ ⟨0, rfl, rfl, by omega, by omega, by show (0 : Int) ≤ S; omega, by omega, fun _ => rfl, by simp, by simp⟩ (by simp; omega) (by simp; omega)
        rintro kk kk' ⟨v, x⟩ d' ⟨k, e1, rfl, hk, v0, v1, hv, hv0, hp, hlt⟩ ih
        simp only [Prod.mk.injEq, true_and] at e1
        subst e1
        simp only at v0 v1 hv hv0 hlt
        simp only [F15_l2, F19_l2, Int.toNat_natCast, betA, Option.bind_some]
        by_cases hkl : k < T.length
        · rw [decide_eq_true (show (k : Int) < (T.length : Nat) by omega), inb_true (by omega) (show (k : Int) < ((T.length : Nat) : Int) by omega)]
          simp only [cond_true, getA T k hkl]
          have hmem := takeA T k hkl
          generalize hs : T[k] = s at *
          obtain ⟨at_, sz⟩ := s
          simp only
          have wk : IntKind.wrap .i64 ((k : Int) + 1) = ((k + 1 : Nat) : Int) := by rw [w64 (by omega) (by omega)]; omega
          have wS : IntKind.wrap .i64 (S - 1) = S - 1 := w64 (by omega) (by omega)
          rw [wS]
          by_cases ok : 1 ≤ sz ∧ v ≤ at_ ∧ at_ < S ∧ sz ≤ S - at_
          · obtain ⟨o1, o2, o3, o4⟩ := ok
            have wd : IntKind.wrap .i64 (S - at_) = S - at_ := w64 (by omega) (by omega)
            have we : IntKind.wrap .i64 (at_ + sz) = at_ + sz := w64 (by omega) (by omega)
            rw [wd, we, wk, decide_eq_false (show ¬ sz < 1 by omega), decide_eq_false (show ¬ at_ < v by omega), decide_eq_false (show ¬ at_ ≥ S by omega), decide_eq_false (show ¬ sz > S - at_ by omega), decide_eq_true (show 0 ≤ at_ ∧ at_ ≤ S - 1 by omega), decide_eq_true (show 1 ≤ sz ∧ sz ≤ S - at_ by omega)]
            simp only [cond_false, Bool.not_true]
            obtain ⟨r, r', i1, i2, i3⟩ := ih (at_ + sz, ((k + 1 : Nat) : Int)) ((k + 1 : Nat) : Int) ⟨k + 1, rfl, rfl, by omega, by show (0 : Int) ≤ at_ + sz; omega, by show at_ + sz ≤ S; omega, fun _ => by show at_ + sz = _; rw [Nat.add_sub_cancel, getA T k hkl, hs], by omega, by
                rw [hmem]
                refine List.pairwise_append.2 ⟨hp, by simp, fun a ha b hb => ?_⟩
                obtain rfl := List.mem_singleton.1 hb
                have := hlt a ha
                show a.1 + a.2 ≤ at_
                omega, fun y hy => by
                show 0 ≤ y.1 ∧ 1 ≤ y.2 ∧ y.1 + y.2 ≤ at_ + sz
                rw [hmem] at hy
                rcases List.mem_append.1 hy with h | h
                · have := hlt y h
                  omega
                · obtain rfl := List.mem_singleton.1 h
                  show 0 ≤ at_ ∧ 1 ≤ sz ∧ at_ + sz ≤ at_ + sz
                  omega⟩ (by simp only [Int.toNat_natCast]; omega)
            refine ⟨r, r', i1, ?_, i3⟩
            by_cases h0 : 0 < k
            · have wm : IntKind.wrap .i64 ((k : Int) - 1) = ((k - 1 : Nat) : Int) := by rw [w64 (by omega) (by omega)]; omega
              have hv2 := hv h0
              rw [decide_eq_true (show (k : Int) > 0 by omega), wm, inb_true (by omega) (show ((k - 1 : Nat) : Int) < ((T.length : Nat) : Int) by omega)]
              have hw : IntKind.wrap .i64 ((T.getD (k - 1) (0, 0)).1 + (T.getD (k - 1) (0, 0)).2) = v := by rw [← hv2]; exact w64 (by omega) (by omega)
              simp only [cond_true, Int.toNat_natCast, hw]
              rw [decide_eq_false (show ¬ v > at_ by omega)]
              exact i2
            · rw [decide_eq_false (show ¬ (k : Int) > 0 by omega)]
              exact i2
          · refine ⟨4, 4, ?_, ?_, rfl, fun h => absurd h (by decide)⟩
            · by_cases a1 : sz < 1
              · rw [decide_eq_true a1]; rfl
              · rw [decide_eq_false a1]
                by_cases a2 : at_ < v
                · rw [decide_eq_true a2]; rfl
                · rw [decide_eq_false a2]
                  by_cases a3 : at_ ≥ S
                  · rw [decide_eq_true a3]; rfl
                  · rw [decide_eq_false a3, w64 (by omega) (by omega), decide_eq_true (show sz > S - at_ by omega)]; rfl
            · by_cases b1 : 0 ≤ at_ ∧ at_ ≤ S - 1
              · have wd : IntKind.wrap .i64 (S - at_) = S - at_ := w64 (by omega) (by omega)
                rw [decide_eq_true b1, wd]
                by_cases b2 : 1 ≤ sz ∧ sz ≤ S - at_
                · rw [decide_eq_true b2]
                  have h0 : 0 < k := by
                    rcases Nat.eq_zero_or_pos k with h | h
                    · exfalso
                      subst h
                      have := hv0 rfl
                      omega
                    · exact h
                  have wm : IntKind.wrap .i64 ((k : Int) - 1) = ((k - 1 : Nat) : Int) := by rw [w64 (by omega) (by omega)]; omega
                  have hv2 := hv h0
                  rw [decide_eq_true (show (k : Int) > 0 by omega), wm, inb_true (by omega) (show ((k - 1 : Nat) : Int) < ((T.length : Nat) : Int) by omega)]
                  have hw : IntKind.wrap .i64 ((T.getD (k - 1) (0, 0)).1 + (T.getD (k - 1) (0, 0)).2) = v := by rw [← hv2]; exact w64 (by omega) (by omega)
                  simp only [cond_true, Int.toNat_natCast, Bool.not_true, cond_false, hw]
                  rw [decide_eq_true (show v > at_ by omega)]; rfl
                · rw [decide_eq_false b2]; rfl
              · rw [decide_eq_false b1]; rfl
        · obtain rfl : k = T.length := by omega
          rw [decide_eq_false (show ¬ ((T.length : Nat) : Int) < ((T.length : Nat) : Int) by omega)]
          exact ⟨0, 0, rfl, rfl, rfl, fun _ => by rw [List.take_length] at hp hlt; exact ⟨hp, fun x hx => by have := hlt x hx; omega⟩⟩
      obtain ⟨r, r', m1, m2, rfl, m3⟩ := main
      exact ⟨r, m1, m2, fun h => ⟨hS.1, hS.2, hl, (m3 h).1, (m3 h).2⟩⟩
    · rw [decide_eq_true (show ((T.length : Nat) : Int) > 64 by omega)]
      exact ⟨2, rfl, rfl, fun h => absurd h (by decide)⟩
  · rw [decide_eq_false hS]
    refine ⟨1, ?_, rfl, fun h => absurd h (by decide)⟩
    by_cases q : S < 1
    · rw [decide_eq_true q]; rfl
    · rw [decide_eq_false q, decide_eq_true (show S > 65536 by omega)]; rfl
theorem eqSp (n : Nat) (l : SpL) (hl : l.length ≤ 65) (hn : 100 < n) : F25 n l l = some true := by
  unfold F25
  rw [show ((((l.length : Nat)) : Int) != ((l.length : Nat) : Int)) = false by simp, cond_false]
  refine loopF_eq (F25_l2 n l l) (fun _ => some true) (fun x => ∃ k : Nat, x = (k : Int) ∧ k ≤ l.length) (fun x => l.length - x.toNat) ?_ n 0 ⟨0, rfl, by omega⟩ (by simp; omega)
  rintro kk x ⟨k, rfl, hk⟩ ih
  simp only [F25_l2]
  by_cases hkl : k < l.length
  · have wk : IntKind.wrap .i64 ((k : Int) + 1) = ((k + 1 : Nat) : Int) := by rw [w64 (by omega) (by omega)]; omega
    rw [decide_eq_true (show (k : Int) < (l.length : Nat) by omega), inb_true (by omega) (show (k : Int) < ((l.length : Nat) : Int) by omega), Sh.beq_self, wk]
    exact ih _ ⟨k + 1, rfl, hkl⟩ (by simp only [Int.toNat_natCast]; omega)
  · obtain rfl : k = l.length := by omega
    rw [decide_eq_false (show ¬ ((l.length : Nat) : Int) < ((l.length : Nat) : Int) by omega)]; rfl
theorem good_lt {S : Int} {T : SpL} (h : GoodA S T) : T.Pairwise fun a b => a.1 < b.1 :=
  List.Pairwise.imp_of_mem (fun ha _ h2 => by have := h.el _ ha; omega) h.pw
theorem clonT (n : Nat) (T : SpL) (hl : T.length ≤ 64) : F17 n T = some T := by
  unfold F17
  rw [decide_eq_true (show ([] : SpL).length + T.length ≤ 8796093022208 by simp; omega)]; rfl
/-- a place at which the span fits -/
def fitsA (S : Int) (T : SpL) (size d : Int) : Prop := d + size ≤ S ∧ d % 4096 + size ≤ 4096 ∧ ∀ s ∈ T, ¬ (s.1 < d + size ∧ d < s.1 + s.2)
abbrev RA := Int × Int × Int × SpL
def resA (S : Int) (T : SpL) (size d : Int) : RA := (S, d, 0, sortV (T ++ [(d, size)]))
def endA : RA := (0, 0, 11, [])
/-- the first place of a row of places at which the span fits -/
def FindA (S : Int) (T : SpL) (size align d : Int) (r : RA) : Prop :=
  (r = endA ∧ ∀ k : Nat, ¬ fitsA S T size (d + (k : Int) * align)) ∨ ∃ k : Nat, fitsA S T size (d + (k : Int) * align) ∧ (∀ j : Nat, j < k → ¬ fitsA S T size (d + (j : Int) * align)) ∧ r = resA S T size (d + (k : Int) * align)
theorem findA_one {S : Int} {T : SpL} {size align d : Int} {r r' : RA} (h : FindA S T size align d r) (h' : FindA S T size align d r') : r = r' := by
  rcases h with ⟨rfl, h⟩ | ⟨k, h1, h2, rfl⟩ <;> rcases h' with ⟨rfl, h'⟩ | ⟨k', h1', h2', rfl⟩
  · rfl
  · exact absurd h1' (h k')
  · exact absurd h1 (h' k)
  · rcases Nat.lt_trichotomy k k' with q | q | q
    · exact absurd h1 (h2' k q)
    · subst q; rfl
    · exact absurd h1' (h2 k' q)
theorem stepA (d a : Int) (k : Nat) : d + ((k + 1 : Nat) : Int) * a = (d + a) + (k : Int) * a := by
  rw [show (((k + 1 : Nat)) : Int) = (k : Int) + 1 from rfl, Int.add_mul, Int.one_mul]; omega
theorem findA_next {S : Int} {T : SpL} {size align d : Int} {r : RA} (h0 : ¬ fitsA S T size d) (h : FindA S T size align (d + align) r) : FindA S T size align d r := by
  have z : d + ((0 : Nat) : Int) * align = d := by simp
  rcases h with ⟨rfl, h⟩ | ⟨k, h1, h2, rfl⟩
  · refine .inl ⟨rfl, fun k => ?_⟩
    cases k with
    | zero => rw [z]; exact h0
    | succ k => rw [stepA]; exact h k
  · refine .inr ⟨k + 1, by rw [stepA]; exact h1, fun j hj => ?_, by rw [stepA]⟩
    cases j with
    | zero => rw [z]; exact h0
    | succ j => rw [stepA]; exact h2 j (by omega)
theorem sortV_eq (l m : SpL) (hp : m.Perm l) (hs : m.Pairwise fun a b => a.1 < b.1) : sortV l = m := by
  have hps : (sortV l).Perm m := (List.mergeSort_perm _ _).trans hp.symm
  refine List.Perm.eq_of_pairwise (le := fun a b => a.1 ≤ b.1) ?_ ?_ (hs.imp fun h => by omega) hps
  · intro a b ha hb h1 h2
    obtain ⟨i, hi, rfl⟩ := List.getElem_of_mem (hps.subset ha)
    obtain ⟨j, hj, rfl⟩ := List.getElem_of_mem hb
    rw [List.pairwise_iff_getElem] at hs
    rcases Nat.lt_trichotomy i j with h | h | h
    · have := hs i j hi hj h; omega
    · subst h; rfl
    · have := hs j i hj hi h; omega
  · have := List.pairwise_mergeSort (le := fun x y : Int × Int => decide (x.1 ≤ y.1)) (fun a b c h1 h2 => by simp only [decide_eq_true_eq] at *; omega) (fun a b => by simp only [Bool.or_eq_true, decide_eq_true_eq]; omega) l
    exact this.imp fun h => by simpa using h
theorem insA_lt (T : SpL) (x : Int × Int) (i : Nat) (h1 : ∀ s ∈ T.take i, s.1 < x.1) (h2 : ∀ s ∈ T.drop i, x.1 < s.1) (hs : T.Pairwise fun a b => a.1 < b.1) : (insV T i x).Pairwise fun a b => a.1 < b.1 := by
  have hs2 := hs
  rw [← List.take_append_drop i T] at hs2
  obtain ⟨p1, p2, p3⟩ := List.pairwise_append.1 hs2
  refine List.pairwise_append.2 ⟨p1, List.pairwise_cons.2 ⟨h2, p2⟩, fun a ha b hb => ?_⟩
  rcases List.mem_cons.1 hb with rfl | hb
  · exact h1 a ha
  · exact p3 a ha b hb
theorem insA (T : SpL) (x : Int × Int) (i : Nat) (h1 : ∀ s ∈ T.take i, s.1 < x.1) (h2 : ∀ s ∈ T.drop i, x.1 < s.1) (hs : T.Pairwise fun a b => a.1 < b.1) : sortV (T ++ [x]) = insV T i x := by
  refine sortV_eq _ _ ?_ (insA_lt T x i h1 h2 hs)
  unfold insV
  refine List.perm_middle.trans ?_
  rw [List.take_append_drop]
  exact (List.perm_append_singleton x T).symm
theorem freeA (n : Nat) (hn : 100 < n) (S : Int) (T : SpL) (h : GoodA S T) (d size : Int) (hd : 0 ≤ d ∧ d ≤ 70000) (hz : 1 ≤ size ∧ size ≤ 4096) :
    F16 n S T d size = some (T.all fun s => !decide (s.1 < d + size ∧ d < s.1 + s.2)) := by
  obtain ⟨B, hB⟩ : ∃ B, (T.all fun s => !decide (s.1 < d + size ∧ d < s.1 + s.2)) = B := ⟨_, rfl⟩
  rw [hB]
  have hlen := h.len
  refine loopF_eq (F16_l8 n T d size) (fun _ => some B) (fun x => ∃ k : Nat, x = k ∧ k ≤ T.length ∧ ∀ s ∈ T.take k, ¬ (s.1 < d + size ∧ d < s.1 + s.2)) (fun x => T.length - x.toNat) ?_ n 0 ⟨0, rfl, by omega, by simp⟩ (by simp; omega)
  rintro kk x ⟨k, rfl, hk, hall⟩ ih
  simp only [F16_l8, F50, Int.toNat_natCast]
  by_cases hkl : k < T.length
  · rw [decide_eq_true (show (k : Int) < (T.length : Nat) by omega), inb_true (by omega) (show (k : Int) < ((T.length : Nat) : Int) by omega)]
    simp only [cond_true, getA T k hkl]
    have hmem : T[k] ∈ T := List.getElem_mem hkl
    have htk := takeA T k hkl
    generalize T[k] = s at *
    have hel := h.el s hmem
    have hs2 := h.s2
    have wk : IntKind.wrap .i64 ((k : Int) + 1) = ((k + 1 : Nat) : Int) := by rw [w64 (by omega) (by omega)]; omega
    rw [w64 (n := d + size) (by omega) (by omega), w64 (n := s.1 + s.2) (by omega) (by omega)]
    by_cases o : s.1 < d + size ∧ d < s.1 + s.2
    · have hf : B = false := by rw [← hB]; exact List.all_eq_false.2 ⟨s, hmem, by simp [o]⟩
      rw [decide_eq_true o.1, decide_eq_true o.2, hf]
      simp only [cond_true, Option.bind_some]
      rw [decide_eq_true (show (k : Int) ≥ 0 by omega)]; rfl
    · have e : (bif decide (s.1 < d + size) then some (decide (d < s.1 + s.2)) else some false) = some false := by
        by_cases q : s.1 < d + size
        · rw [decide_eq_true q, decide_eq_false (fun h => o ⟨q, h⟩)]; rfl
        · rw [decide_eq_false q]; rfl
      rw [e]
      simp only [Option.bind_some, cond_false]
      rw [wk]
      refine ih _ ⟨k + 1, rfl, hkl, fun t ht => ?_⟩ (by simp only [Int.toNat_natCast]; omega)
      rw [htk] at ht
      rcases List.mem_append.1 ht with ht | ht
      · exact hall t ht
      · obtain rfl := List.mem_singleton.1 ht; exact o
  · obtain rfl : k = T.length := by omega
    rw [decide_eq_false (show ¬ ((T.length : Nat) : Int) < ((T.length : Nat) : Int) by omega)]
    rw [List.take_length] at hall
    have ht : B = true := by rw [← hB]; exact List.all_eq_true.2 fun s hs => by rw [decide_eq_false (hall s hs)]; rfl
    rw [ht]; rfl
theorem insL (n : Nat) (hn : 100 < n) (S : Int) (T : SpL) (h : GoodA S T) (d size : Int) (hz : 1 ≤ size) (hf : ∀ s ∈ T, ¬ (s.1 < d + size ∧ d < s.1 + s.2)) :
    loopF (F6_l10 n S size d T) n 0 = some (resA S T size d) := by
  have hlen := h.len
  have hlt := good_lt h
  have hne : ∀ s ∈ T, s.1 ≠ d := fun s hs e => hf s hs (by have := h.el s hs; omega)
  refine loopF_eq (F6_l10 n S size d T) (fun _ => some (resA S T size d)) (fun x => ∃ k : Nat, x = k ∧ k ≤ T.length ∧ ∀ s ∈ T.take k, s.1 < d) (fun x => T.length - x.toNat) ?_ n 0 ⟨0, rfl, by omega, by simp⟩ (by simp; omega)
  rintro kk x ⟨k, rfl, hk, hall⟩ ih
  simp only [F6_l10, Int.toNat_natCast]
  have hcond : (0 : Int) ≤ (k : Int) ∧ (k : Int) ≤ ((T.length : Nat) : Int) ∧ T.length ≤ 1000000 ∧ [(d, size)].length = 1 := ⟨by omega, by omega, by omega, rfl⟩
  by_cases hkl : k < T.length
  · rw [decide_eq_true (show (k : Int) < (T.length : Nat) by omega), inb_true (by omega) (show (k : Int) < ((T.length : Nat) : Int) by omega)]
    simp only [cond_true, getA T k hkl]
    have wk : IntKind.wrap .i64 ((k : Int) + 1) = ((k + 1 : Nat) : Int) := by rw [w64 (by omega) (by omega)]; omega
    by_cases o : T[k].1 < d
    · rw [decide_eq_true o, cond_true, wk]
      refine ih _ ⟨k + 1, rfl, hkl, fun t ht => ?_⟩ (by simp only [Int.toNat_natCast]; omega)
      rw [takeA T k hkl] at ht
      rcases List.mem_append.1 ht with ht | ht
      · exact hall t ht
      · obtain rfl := List.mem_singleton.1 ht; exact o
    · rw [decide_eq_false o, cond_false, decide_eq_true hcond, cond_true]
      have h2 : ∀ s ∈ T.drop k, d < s.1 := by
        intro s hs
        have hs' : s ∈ T := List.mem_of_mem_drop hs
        have := hne s hs'
        rw [List.drop_eq_getElem_cons hkl] at hs
        rcases List.mem_cons.1 hs with rfl | hs
        · omega
        · have hp := hlt
          rw [← List.take_append_drop k T, List.drop_eq_getElem_cons hkl] at hp
          have := (List.pairwise_cons.1 (List.pairwise_append.1 hp).2.1).1 s hs
          omega
      rw [resA, insA T (d, size) k hall h2 hlt]; rfl
  · obtain rfl : k = T.length := by omega
    rw [decide_eq_false (show ¬ ((T.length : Nat) : Int) < ((T.length : Nat) : Int) by omega), cond_false, decide_eq_true hcond, cond_true]
    rw [resA, insA T (d, size) T.length hall (by simp) hlt]; rfl
theorem mulA (k : Nat) (a : Int) (h : 1 ≤ a) : 0 ≤ (k : Int) * a := Int.mul_nonneg (by omega) (by omega)
theorem progA (n : Nat) (hn : 80000 < n) (S : Int) (T : SpL) (h : GoodA S T) (size align : Int) (hz : 1 ≤ size ∧ size ≤ 4096) (ha : 1 ≤ align ∧ align ≤ 4096) :
    ∃ r, loopF (F6_l9 n S T size align) n 0 = some r ∧ FindA S T size align 0 r := by
  have hs1 := h.s1; have hs2 := h.s2
  refine loopF_post (F6_l9 n S T size align) (fun d => 0 ≤ d ∧ d ≤ 70000) (fun d r => FindA S T size align d r) (fun d => (80000 - d).toNat) ?_ n 0 (by omega) (by simp; omega)
  intro kk d hd ih
  simp only [F6_l9]
  rw [w64 (n := d + size) (by omega) (by omega)]
  by_cases hS : d + size ≤ S
  · rw [decide_eq_true hS, cond_true, w64 (n := d + size - 1) (by omega) (by omega), Int.tdiv_eq_ediv_of_nonneg (by omega), Int.tdiv_eq_ediv_of_nonneg (by omega), w64 (n := d / 4096) (by omega) (by omega), w64 (n := (d + size - 1) / 4096) (by omega) (by omega), w64 (n := d + align) (by omega) (by omega)]
    have next : ¬ fitsA S T size d → ∃ r, kk (d + align) = some r ∧ FindA S T size align d r := fun hnf => by
      obtain ⟨r, e, hr⟩ := ih (d + align) (by omega) (by omega)
      exact ⟨r, e, findA_next hnf hr⟩
    by_cases pg : d % 4096 + size ≤ 4096
    · rw [show ((d / 4096) != ((d + size - 1) / 4096)) = false by rw [bne_eq_false_iff_eq]; omega, cond_false, freeA n (by omega) S T h d size hd hz, Option.bind_some]
      by_cases hf : ∀ s ∈ T, ¬ (s.1 < d + size ∧ d < s.1 + s.2)
      · rw [show (T.all fun s => !decide (s.1 < d + size ∧ d < s.1 + s.2)) = true from List.all_eq_true.2 fun s hs => by rw [decide_eq_false (hf s hs)]; rfl]
        simp only [Bool.not_true, cond_false]
        rw [clonT n T h.len, Option.bind_some, insL n (by omega) S T h d size hz.1 hf]
        have z : d + ((0 : Nat) : Int) * align = d := by simp
        exact ⟨_, rfl, .inr ⟨0, by rw [z]; exact ⟨hS, pg, hf⟩, fun j hj => absurd hj (by omega), by rw [z]⟩⟩
      · rw [show (T.all fun s => !decide (s.1 < d + size ∧ d < s.1 + s.2)) = false by
          rw [← Bool.not_eq_true, List.all_eq_true]; intro hc; exact hf fun s hs => by have := hc s hs; rw [Bool.not_eq_true', decide_eq_false_iff_not] at this; exact this]
        simp only [Bool.not_false, cond_true]
        exact next fun hc => hf hc.2.2
    · rw [show ((d / 4096) != ((d + size - 1) / 4096)) = true by rw [bne_iff_ne]; omega, cond_true]
      exact next fun hc => pg hc.2.1
  · rw [decide_eq_false hS, cond_false]
    exact ⟨endA, rfl, .inl ⟨rfl, fun k hk => by have := hk.1; have := mulA k align ha.1; omega⟩⟩
/-! the document's way -/
def TkA (S : Int) (L : SpL) (m : List Bool) : Prop := m.length = S.toNat ∧ ∀ u : Nat, u < m.length → (m.getD u false = true ↔ ∃ s ∈ L, s.1 ≤ (u : Int) ∧ (u : Int) < s.1 + s.2)
theorem getD_set' {α : Type} (l : List α) (i j : Nat) (a d : α) (h : i < l.length) : (l.set i a).getD j d = if i = j then a else l.getD j d := by
  rw [List.getD_eq_getElem?_getD, List.getD_eq_getElem?_getD, List.getElem?_set]
  by_cases e : i = j
  · subst e; simp [h]
  · rw [if_neg e, if_neg e]
theorem takenA (n : Nat) (hn : 80000 < n) (S : Int) (T : SpL) (h : GoodA S T) : ∃ t, F22 n S T = some t ∧ TkA S T t := by
  have hs1 := h.s1; have hs2 := h.s2; have hlen := h.len
  unfold F22
  rw [decide_eq_true (show 0 ≤ S ∧ (S ≤ S ∧ S * 1 ≤ 140737488355328) by omega), cond_true]
  refine loopF_post (F22_l7 n T) (fun d => ∃ k : Nat, d.1 = k ∧ k ≤ T.length ∧ TkA S (T.take k) d.2) (fun _ t => TkA S T t) (fun d => T.length - d.1.toNat) ?_ n _ ⟨0, rfl, by omega, by simp, fun u hu => by simp [List.getElem?_replicate]; split <;> rfl⟩ (by simp; omega)
  rintro kk ⟨_, m⟩ ⟨k, rfl, hk, hm⟩ ih
  simp only at hm
  simp only [F22_l7]
  by_cases hkl : k < T.length
  · rw [decide_eq_true (show (k : Int) < (T.length : Nat) by omega), inb_true (by omega) (show (k : Int) < ((T.length : Nat) : Int) by omega)]
    simp only [cond_true]
    have hel := h.el _ (List.getElem_mem hkl)
    have htk := takeA T k hkl
    refine loopF_post (F22_l8 n kk T (k : Int)) (fun d => ∃ j : Nat, d.1 = j ∧ (j : Int) ≤ T[k].2 ∧ TkA S (T.take k ++ [(T[k].1, (j : Int))]) d.2) (fun _ t => TkA S T t) (fun d => (T[k].2 - d.1).toNat) ?_ n (0, m) ⟨0, rfl, by show (0 : Int) ≤ _; omega, hm.1, fun u hu => by
      rw [hm.2 u hu]
      refine ⟨fun ⟨s, hs, h1⟩ => ⟨s, List.mem_append_left _ hs, h1⟩, fun ⟨s, hs, h1⟩ => ?_⟩
      rcases List.mem_append.1 hs with hs | hs
      · exact ⟨s, hs, h1⟩
      · obtain rfl := List.mem_singleton.1 hs
        simp at h1; omega⟩ (by show (T[k].2 - 0).toNat < n; omega)
    rintro k2 ⟨_, m2⟩ ⟨j, rfl, hj, hm2⟩ ih2
    simp only at hm2 hj
    simp only [F22_l8, Int.toNat_natCast, getA T k hkl]
    obtain ⟨hml, hmu⟩ := hm2
    by_cases hjl : (j : Int) < T[k].2
    · have wp : IntKind.wrap .i64 (T[k].1 + (j : Int)) = T[k].1 + j := w64 (by omega) (by omega)
      have wj : IntKind.wrap .i64 ((j : Int) + 1) = ((j + 1 : Nat) : Int) := by rw [w64 (by omega) (by omega)]; omega
      rw [decide_eq_true hjl, cond_true, wp, wj, inb_true (by omega) (by omega), cond_true]
      refine ih2 _ ⟨j + 1, rfl, by omega, by simpa using hml, fun u hu => ?_⟩ (by show (T[k].2 - ((j + 1 : Nat) : Int)).toNat < (T[k].2 - (j : Int)).toNat; omega)
      rw [List.length_set] at hu
      show (m2.set _ true).getD u false = true ↔ _
      rw [getD_set' _ _ _ _ _ (by omega)]
      split
      · rename_i e
        refine ⟨fun _ => ⟨(T[k].1, ((j + 1 : Nat) : Int)), by simp, ?_⟩, fun _ => rfl⟩
        show T[k].1 ≤ (u : Int) ∧ (u : Int) < T[k].1 + ((j + 1 : Nat) : Int)
        omega
      · rename_i e
        rw [hmu u hu]
        refine ⟨fun ⟨s, hs, h1⟩ => ?_, fun ⟨s, hs, h1⟩ => ?_⟩
        · rcases List.mem_append.1 hs with hs | hs
          · exact ⟨s, List.mem_append_left _ hs, h1⟩
          · obtain rfl := List.mem_singleton.1 hs
            refine ⟨(T[k].1, ((j + 1 : Nat) : Int)), by simp, ?_⟩
            have h1 : T[k].1 ≤ (u : Int) ∧ (u : Int) < T[k].1 + (j : Int) := h1
            show T[k].1 ≤ (u : Int) ∧ (u : Int) < T[k].1 + ((j + 1 : Nat) : Int)
            omega
        · rcases List.mem_append.1 hs with hs | hs
          · exact ⟨s, List.mem_append_left _ hs, h1⟩
          · obtain rfl := List.mem_singleton.1 hs
            refine ⟨(T[k].1, (j : Int)), by simp, ?_⟩
            have h1 : T[k].1 ≤ (u : Int) ∧ (u : Int) < T[k].1 + ((j + 1 : Nat) : Int) := h1
            show T[k].1 ≤ (u : Int) ∧ (u : Int) < T[k].1 + (j : Int)
            omega
    · have wk : IntKind.wrap .i64 ((k : Int) + 1) = ((k + 1 : Nat) : Int) := by rw [w64 (by omega) (by omega)]; omega
      rw [decide_eq_false hjl, cond_false, wk]
      refine ih _ ⟨k + 1, rfl, hkl, ?_⟩ (by simp only [Int.toNat_natCast]; omega)
      have e : T[k] = (T[k].1, (j : Int)) := by
        apply Prod.ext
        · rfl
        · show T[k].2 = (j : Int); omega
      rw [htk, e]
      exact ⟨hml, hmu⟩
  · obtain rfl : k = T.length := by omega
    rw [decide_eq_false (show ¬ ((T.length : Nat) : Int) < ((T.length : Nat) : Int) by omega)]
    rw [List.take_length] at hm
    exact ⟨_, rfl, hm⟩
/-- how many free units stand in a row, from each unit behind u on -/
def FrA (S : Int) (t : List Bool) (u : Int) (f : List Int) : Prop := f.length = S.toNat + 1 ∧ (∀ v : Nat, (v : Int) ≤ u → f.getD v 0 = 0) ∧
  ∀ v : Nat, u < v → (v : Int) ≤ S → 0 ≤ f.getD v 0 ∧ f.getD v 0 ≤ S - v ∧ ∀ z : Int, 1 ≤ z → (z ≤ f.getD v 0 ↔ v + z ≤ S ∧ ∀ w : Nat, v ≤ w → (w : Int) < v + z → t.getD w false = false)
theorem sortC_ok (S : Int) (T : SpL) (h : GoodA S T) (size d : Int) (hd : 0 ≤ d) (hz : 1 ≤ size) (hf : fitsA S T size d) : sortC (T ++ [(d, size)]) = true := by
  have hlt := good_lt h
  have hne : ∀ s ∈ T, s.1 ≠ d := fun s hs e => hf.2.2 s hs (by have := h.el s hs; omega)
  have ex : ∀ L : SpL, (L.Pairwise fun a b => a.1 < b.1) → (∀ s ∈ L, s.1 ≠ d) → ∃ i, (∀ s ∈ L.take i, s.1 < d) ∧ ∀ s ∈ L.drop i, d < s.1 := by
    intro L
    induction L with
    | nil => intro _ _; exact ⟨0, by simp, by simp⟩
    | cons a L ih =>
      intro hp hn
      obtain ⟨p1, p2⟩ := List.pairwise_cons.1 hp
      have := hn a List.mem_cons_self
      by_cases q : a.1 < d
      · obtain ⟨i, i1, i2⟩ := ih p2 fun s hs => hn s (List.mem_cons_of_mem _ hs)
        refine ⟨i + 1, fun s hs => ?_, fun s hs => i2 s (by simpa using hs)⟩
        rw [List.take_succ_cons] at hs
        rcases List.mem_cons.1 hs with rfl | hs
        · exact q
        · exact i1 s hs
      · refine ⟨0, by simp, fun s hs => ?_⟩
        rw [List.drop_zero] at hs
        rcases List.mem_cons.1 hs with rfl | hs
        · omega
        · have := p1 s hs; omega
  obtain ⟨i, i1, i2⟩ := ex T hlt hne
  have hp : (sortV (T ++ [(d, size)])).Pairwise fun a b => a.1 < b.1 := by
    rw [insA T (d, size) i i1 i2 hlt]; exact insA_lt T (d, size) i i1 i2 hlt
  have hs2 := h.s2; have hlen := h.len
  simp only [sortC, Bool.and_eq_true, Bool.not_eq_true', List.all_eq_true, decide_eq_true_eq]
  refine ⟨⟨by simp, by simp; omega⟩, fun x hx => ?_, hp⟩
  rcases List.mem_append.1 hx with hx | hx
  · have := h.el x hx; omega
  · obtain rfl := List.mem_singleton.1 hx
    have := hf.1
    show 0 ≤ d ∧ d ≤ 65536
    omega
theorem docL (n : Nat) (hn : 80000 < n) (S : Int) (T : SpL) (h : GoodA S T) (size align : Int) (hz : 1 ≤ size ∧ size ≤ 4096) (ha : 1 ≤ align ∧ align ≤ 4096) (t : List Bool) (ht : TkA S T t) (f : List Int) (hf : FrA S t (-1) f) :
    ∃ r, loopF (F7_l18 n S T size align f) n 0 = some r ∧ FindA S T size align 0 r := by
  have hs1 := h.s1; have hs2 := h.s2
  refine loopF_post (F7_l18 n S T size align f) (fun d => 0 ≤ d ∧ d ≤ 70000) (fun d r => FindA S T size align d r) (fun d => (80000 - d).toNat) ?_ n 0 (by omega) (by simp; omega)
  intro kk d hd ih
  obtain ⟨d, rfl⟩ : ∃ k : Nat, d = k := ⟨d.toNat, by omega⟩
  simp only [F7_l18, Int.toNat_natCast]
  by_cases hS : (d : Int) < S
  · rw [decide_eq_true hS, cond_true, inb_true (by omega) (by have := hf.1; omega), cond_true, w64 (n := (d : Int) + align) (by omega) (by omega), w64 (n := 4096 - size) (by omega) (by omega), Int.tmod_eq_emod_of_nonneg (by omega)]
    have next : ¬ fitsA S T size d → ∃ r, kk (d + align) = some r ∧ FindA S T size align d r := fun hnf => by
      obtain ⟨r, e, hr⟩ := ih (d + align) (by omega) (by omega)
      exact ⟨r, e, findA_next hnf hr⟩
    obtain ⟨v0, v1, vz⟩ := hf.2.2 d (by omega) (by omega)
    have key : size ≤ f.getD d 0 ↔ (d : Int) + size ≤ S ∧ ∀ s ∈ T, ¬ (s.1 < d + size ∧ d < s.1 + s.2) := by
      rw [vz size hz.1]
      refine and_congr_right fun hle => ⟨fun hw s hs ho => ?_, fun hw w h1 h2 => ?_⟩
      · have hel := h.el s hs
        -- a unit in both
        obtain ⟨u, hu1, hu2⟩ : ∃ u : Nat, (u : Int) = max s.1 d ∧ True := ⟨(max s.1 (d : Int)).toNat, by omega, trivial⟩
        have hfw := hw u (by omega) (by omega)
        have := (ht.2 u (by rw [ht.1]; omega)).2 ⟨s, hs, by omega⟩
        rw [this] at hfw; cases hfw
      · rw [← Bool.not_eq_true, ht.2 w (by rw [ht.1]; omega)]
        rintro ⟨s, hs, h3⟩
        exact hw s hs (by omega)
    by_cases hk : size ≤ f.getD d 0
    · rw [decide_eq_true (show f.getD d 0 ≥ size from hk), cond_true]
      by_cases pg : (d : Int) % 4096 ≤ 4096 - size
      · obtain ⟨k1, k2⟩ := key.1 hk
        have hfit : fitsA S T size d := ⟨k1, by omega, k2⟩
        have hlen := h.len
        rw [decide_eq_true pg, cond_true, clonT n T h.len, Option.bind_some, decide_eq_true (show T.length + [((d : Int), size)].length ≤ 8796093022208 by simp; omega), cond_true, decide_eq_true (sortC_ok S T h size d (by omega) hz.1 hfit), cond_true]
        have z : (d : Int) + ((0 : Nat) : Int) * align = d := by simp
        exact ⟨_, rfl, .inr ⟨0, by rw [z]; exact hfit, fun j hj => absurd hj (by omega), by rw [z]; rfl⟩⟩
      · rw [decide_eq_false pg, cond_false]
        exact next fun hc => pg (by have := hc.2.1; omega)
    · rw [decide_eq_false (show ¬ f.getD d 0 ≥ size from hk), cond_false]
      exact next fun hc => hk (key.2 ⟨hc.1, hc.2.2⟩)
  · rw [decide_eq_false hS, cond_false]
    exact ⟨endA, rfl, .inl ⟨rfl, fun k hk => by have := hk.1; have := mulA k align ha.1; omega⟩⟩
theorem docF (n : Nat) (hn : 80000 < n) (S : Int) (T : SpL) (h : GoodA S T) (size align : Int) (hz : 1 ≤ size ∧ size ≤ 4096) (ha : 1 ≤ align ∧ align ≤ 4096) (t : List Bool) (ht : TkA S T t) :
    ∃ r, loopF (F7_l17 n S T size align t) n (S - 1, List.replicate (S + 1).toNat 0) = some r ∧ FindA S T size align 0 r := by
  have hs1 := h.s1; have hs2 := h.s2
  refine loopF_post (F7_l17 n S T size align t) (fun d => (-1 ≤ d.1 ∧ d.1 ≤ S - 1) ∧ FrA S t d.1 d.2) (fun _ r => FindA S T size align 0 r) (fun d => (d.1 + 1).toNat) ?_ n _ ⟨by show -1 ≤ S - 1 ∧ S - 1 ≤ S - 1; omega, by simp; omega, fun v hv => by
      rw [List.getD_eq_getElem?_getD, List.getElem?_replicate]; split <;> rfl, fun v h1 h2 => ?_⟩ (by show (S - 1 + 1).toNat < n; omega)
  rotate_left
  · have e : (List.replicate (S + 1).toNat (0 : Int)).getD v 0 = 0 := by rw [List.getD_eq_getElem?_getD, List.getElem?_replicate]; split <;> rfl
    have h1 : S - 1 < (v : Int) := h1
    simp only [e]
    exact ⟨by omega, by omega, fun z hz => ⟨fun h => by omega, fun h => by omega⟩⟩
  rintro kk ⟨u, f⟩ ⟨hu, hf⟩ ih
  simp only at hu hf
  simp only [F7_l17]
  by_cases h0 : 0 ≤ u
  · obtain ⟨u, rfl⟩ : ∃ k : Nat, u = k := ⟨u.toNat, by omega⟩
    have wm : IntKind.wrap .i64 ((u : Int) - 1) = (u : Int) - 1 := w64 (by omega) (by omega)
    have wp : IntKind.wrap .i64 ((u : Int) + 1) = ((u + 1 : Nat) : Int) := by rw [w64 (by omega) (by omega)]; omega
    rw [decide_eq_true (show (u : Int) ≥ 0 from h0), cond_true, inb_true h0 (by rw [ht.1]; omega), cond_true, wm, wp]
    simp only [Int.toNat_natCast]
    obtain ⟨f1, f2, f3⟩ := hf
    obtain ⟨v0, v1, vz⟩ := f3 (u + 1) (by omega) (by omega)
    cases htu : t.getD u false with
    | false =>
      simp only [Bool.not_false, cond_true]
      rw [inb_true (by omega) (by omega), inb_true (by omega) (by omega), w64 (n := f.getD (u + 1) 0 + 1) (by omega) (by omega)]
      simp only [cond_true]
      refine ih _ ⟨by show -1 ≤ (u : Int) - 1 ∧ (u : Int) - 1 ≤ S - 1; omega, by simpa using f1, fun v hv => ?_, fun v h1 h2 => ?_⟩ (by show ((u : Int) - 1 + 1).toNat < ((u : Int) + 1).toNat; omega)
      · have hv : (v : Int) ≤ (u : Int) - 1 := hv
        rw [getD_set' _ _ _ _ _ (by omega), if_neg (by omega)]
        exact f2 v (by omega)
      · have h1 : (u : Int) - 1 < (v : Int) := h1
        simp only [getD_set' f u v _ 0 (by omega)]
        by_cases e : u = v
        · subst e
          rw [if_pos rfl]
          refine ⟨by omega, by omega, fun z hz => ?_⟩
          by_cases z1 : z = 1
          · subst z1
            refine ⟨fun _ => ⟨by omega, fun w q1 q2 => ?_⟩, fun _ => by omega⟩
            obtain rfl : w = u := by omega
            exact htu
          · have := vz (z - 1) (by omega)
            refine ⟨fun hle => ?_, fun ⟨q1, q2⟩ => ?_⟩
            · obtain ⟨r1, r2⟩ := this.1 (by omega)
              refine ⟨by omega, fun w q1 q2 => ?_⟩
              by_cases e2 : w = u
              · subst e2; exact htu
              · exact r2 w (by omega) (by omega)
            · have := this.2 ⟨by omega, fun w r1 r2 => q2 w (by omega) (by omega)⟩
              omega
        · rw [if_neg e]
          exact f3 v (by omega) h2
    | true =>
      simp only [Bool.not_true, cond_false]
      refine ih _ ⟨by show -1 ≤ (u : Int) - 1 ∧ (u : Int) - 1 ≤ S - 1; omega, f1, fun v hv => f2 v (by have hv : (v : Int) ≤ (u : Int) - 1 := hv; omega), fun v h1 h2 => ?_⟩ (by show ((u : Int) - 1 + 1).toNat < ((u : Int) + 1).toNat; omega)
      have h1 : (u : Int) - 1 < (v : Int) := h1
      by_cases e : u = v
      · subst e
        rw [f2 u (by omega)]
        refine ⟨by omega, by omega, fun z hz => ⟨fun hle => by omega, fun ⟨q1, q2⟩ => ?_⟩⟩
        have := q2 u (by omega) (by omega)
        rw [htu] at this; cases this
      · exact f3 v (by omega) h2
  · obtain rfl : u = -1 := by omega
    rw [decide_eq_false (show ¬ (-1 : Int) ≥ 0 by omega), cond_false]
    exact docL n hn S T h size align hz ha t ht f hf
theorem two13 (m : Nat) : ∀ k : Nat, k < 13 → F20 (m + 200) (k : Int) = some ((2 ^ k : Nat) : Int)
  | 0, _ => by kernel_rfl
  | 1, _ => by kernel_rfl
  | 2, _ => by kernel_rfl
  | 3, _ => by kernel_rfl
  | 4, _ => by kernel_rfl
  | 5, _ => by kernel_rfl
  | 6, _ => by kernel_rfl
  | 7, _ => by kernel_rfl
  | 8, _ => by kernel_rfl
  | 9, _ => by kernel_rfl
  | 10, _ => by kernel_rfl
  | 11, _ => by kernel_rfl
  | 12, _ => by kernel_rfl
  | k + 13, h => by omega
def pwA (a : Int) (k : Nat) : Bool := (List.range k).any fun j => a == ((2 ^ j : Nat) : Int)
theorem pwA_succ (a : Int) (k : Nat) : pwA a (k + 1) = (pwA a k || (a == ((2 ^ k : Nat) : Int))) := by
  unfold pwA
  rw [List.range_succ, List.any_append]; simp
theorem pow_tab : ((List.range 4097).all fun m => m == 0 || (((m &&& (m - 1)) == 0) == ((List.range 13).any fun j => m == 2 ^ j))) = true := by kernel_rfl
theorem powA (a : Int) : (1 ≤ a ∧ a ≤ 4096 ∧ bitsI .and .i64 a (IntKind.wrap .i64 (a - 1)) = 0) ↔ pwA a 13 = true := by
  have tab : ∀ m : Nat, 1 ≤ m → m ≤ 4096 → ((m &&& (m - 1)) = 0 ↔ pwA (m : Int) 13 = true) := fun m h1 h2 => by
    have h := List.all_eq_true.1 pow_tab m (List.mem_range.2 (by omega))
    rw [show (m == 0) = false by simp; omega, Bool.false_or, beq_iff_eq] at h
    have e : pwA (m : Int) 13 = ((List.range 13).any fun j => m == 2 ^ j) := by
      unfold pwA
      congr 1
      funext j
      rw [Bool.eq_iff_iff, beq_iff_eq, beq_iff_eq]
      omega
    rw [e, ← h, beq_iff_eq]
  have bits : ∀ m : Nat, 1 ≤ m → m ≤ 4096 → bitsI .and .i64 (m : Int) (IntKind.wrap .i64 ((m : Int) - 1)) = ((m &&& (m - 1) : Nat) : Int) := fun m h1 h2 => by
    rw [w64 (n := (m : Int) - 1) (by omega) (by omega), show (m : Int) - 1 = ((m - 1 : Nat) : Int) by omega, bAnd m (m - 1) (by omega) (by omega)]
  constructor
  · rintro ⟨h1, h2, h3⟩
    obtain ⟨m, rfl⟩ : ∃ m : Nat, a = m := ⟨a.toNat, by omega⟩
    rw [bits m (by omega) (by omega)] at h3
    exact (tab m (by omega) (by omega)).1 (by omega)
  · intro h
    obtain ⟨j, hj, e⟩ := List.any_eq_true.1 h
    have hj : j < 13 := List.mem_range.1 hj
    have e : a = ((2 ^ j : Nat) : Int) := by simpa using e
    have l1 : 1 ≤ 2 ^ j := Nat.one_le_two_pow
    have l2 : 2 ^ j ≤ 2 ^ 12 := Nat.pow_le_pow_right (by omega) (by omega)
    rw [show (2 : Nat) ^ 12 = 4096 from rfl] at l2
    generalize 2 ^ j = m at *
    subst e
    refine ⟨by omega, by omega, ?_⟩
    rw [bits m l1 l2, (tab m l1 l2).2 h]; rfl
/-- what both give, once the arena is right -/
def AnsA (S : Int) (T : SpL) (size align : Int) (r : RA) : Prop :=
  ((1 ≤ size ∧ size ≤ 4096) ∧ pwA align 13 = true → (T.length = 64 → r = endA) ∧ (T.length ≠ 64 → FindA S T size align 0 r)) ∧ (¬ ((1 ≤ size ∧ size ≤ 4096) ∧ pwA align 13 = true) → r = ((0, 0, 1, []) : RA))
theorem ansA_one {S : Int} {T : SpL} {size align : Int} {r r' : RA} (h : AnsA S T size align r) (h' : AnsA S T size align r') : r = r' := by
  by_cases c : (1 ≤ size ∧ size ≤ 4096) ∧ pwA align 13 = true
  · obtain ⟨a, b⟩ := h.1 c
    obtain ⟨a', b'⟩ := h'.1 c
    by_cases l : T.length = 64
    · rw [a l, a' l]
    · exact findA_one (b l) (b' l)
  · rw [h.2 c, h'.2 c]
theorem progT (n : Nat) (hn : 80000 < n) (S : Int) (T : SpL) (h : GoodA S T) (size align : Int) (hc : F15 n S T = some 0) : ∃ r, F6 n S T size align = some r ∧ AnsA S T size align r := by
  unfold F6
  rw [hc, Option.bind_some]
  simp only [bne_self_eq_false, cond_false]
  have bad : ∀ y : Bool, y = true → ¬ ((1 ≤ size ∧ size ≤ 4096) ∧ pwA align 13 = true) → ∃ r, F6_j6 n S T size align y = some r ∧ AnsA S T size align r := by
    rintro y rfl hb
    exact ⟨(0, 0, 1, []), rfl, fun h => absurd h hb, fun _ => rfl⟩
  by_cases z1 : size < 1
  · rw [decide_eq_true z1, cond_true]; exact bad _ rfl (by omega)
  rw [decide_eq_false z1, cond_false]
  by_cases z2 : size > 4096
  · rw [decide_eq_true z2, cond_true]; exact bad _ rfl (by omega)
  rw [decide_eq_false z2, cond_false]
  by_cases z3 : align < 1
  · rw [decide_eq_true z3, cond_true]; exact bad _ rfl (fun h => by have := (powA align).2 h.2; omega)
  rw [decide_eq_false z3, cond_false]
  by_cases z4 : align > 4096
  · rw [decide_eq_true z4, cond_true]; exact bad _ rfl (fun h => by have := (powA align).2 h.2; omega)
  rw [decide_eq_false z4, cond_false]
  by_cases z5 : bitsI .and .i64 align (IntKind.wrap .i64 (align - 1)) = 0
  · have hp := (powA align).1 ⟨by omega, by omega, z5⟩
    rw [show (bitsI .and .i64 align (IntKind.wrap .i64 (align - 1)) != 0) = false by rw [z5]; rfl]
    simp only [F6_j6, cond_false]
    by_cases hl : T.length = 64
    · rw [show (((T.length : Nat) : Int) == 64) = true by rw [hl]; rfl, cond_true]
      exact ⟨endA, rfl, fun _ => ⟨fun _ => rfl, fun h => absurd hl h⟩, fun hb => absurd ⟨⟨by omega, by omega⟩, hp⟩ hb⟩
    · rw [show (((T.length : Nat) : Int) == 64) = false by rw [beq_eq_false_iff_ne]; omega, cond_false]
      obtain ⟨r, e, hr⟩ := progA n hn S T h size align ⟨by omega, by omega⟩ ⟨by omega, by omega⟩
      exact ⟨r, e, fun _ => ⟨fun h => absurd h hl, fun _ => hr⟩, fun hb => absurd ⟨⟨by omega, by omega⟩, hp⟩ hb⟩
  · rw [show (bitsI .and .i64 align (IntKind.wrap .i64 (align - 1)) != 0) = true by rw [bne_iff_ne]; exact z5]
    exact bad _ rfl (fun h => z5 ((powA align).2 h.2).2.2)
theorem docT (m : Nat) (hn : 80000 < m) (S : Int) (T : SpL) (h : GoodA S T) (size align : Int) (hc : F19 (m + 200) S T = some 0) : ∃ r, F7 (m + 200) S T size align = some r ∧ AnsA S T size align r := by
  unfold F7
  rw [hc, Option.bind_some]
  simp only [bne_self_eq_false, cond_false]
  refine loopF_post (F7_l14 (m + 200) S T size align) (fun d => ∃ k : Nat, d.2 = k ∧ k ≤ 13 ∧ d.1 = pwA align k) (fun _ r => AnsA S T size align r) (fun d => 13 - d.2.toNat) ?_ (m + 200) (false, 0) ⟨0, rfl, by omega, rfl⟩ (by show 13 - (0 : Int).toNat < m + 200; omega)
  rintro kk ⟨_, _⟩ ⟨k, rfl, hk, rfl⟩ ih
  simp only [F7_l14]
  by_cases hkl : k < 13
  · have wk : IntKind.wrap .i64 ((k : Int) + 1) = ((k + 1 : Nat) : Int) := by rw [w64 (by omega) (by omega)]; omega
    rw [decide_eq_true (show (k : Int) < 13 by omega), cond_true, wk, two13 m k hkl, Option.bind_some]
    have e : (bif pwA align k then kk (true, ((k + 1 : Nat) : Int)) else kk (align == ((2 ^ k : Nat) : Int), ((k + 1 : Nat) : Int))) = kk (pwA align (k + 1), ((k + 1 : Nat) : Int)) := by
      rw [pwA_succ]
      cases pwA align k <;> rfl
    rw [e]
    exact ih _ ⟨k + 1, rfl, hkl, rfl⟩ (by simp only [Int.toNat_natCast]; omega)
  · obtain rfl : k = 13 := by omega
    rw [decide_eq_false (show ¬ ((13 : Nat) : Int) < 13 by omega), cond_false, betA, Option.bind_some]
    by_cases hz : 1 ≤ size ∧ size ≤ 4096
    · rw [decide_eq_true hz]
      simp only [Bool.not_true, cond_false]
      cases hp : pwA align 13 with
      | false => exact ⟨(0, 0, 1, []), rfl, fun h => absurd h.2 (by rw [hp]; simp), fun _ => rfl⟩
      | true =>
        simp only [Bool.not_true, cond_false]
        by_cases hl : T.length = 64
        · rw [show (((T.length : Nat) : Int) == 64) = true by rw [hl]; rfl, cond_true]
          exact ⟨endA, rfl, fun _ => ⟨fun _ => rfl, fun h => absurd hl h⟩, fun hb => absurd ⟨hz, hp⟩ hb⟩
        · rw [show (((T.length : Nat) : Int) == 64) = false by rw [beq_eq_false_iff_ne]; omega, cond_false]
          have hs1 := h.s1; have hs2 := h.s2
          obtain ⟨t, t1, t2⟩ := takenA (m + 200) (by omega) S T h
          have wS : IntKind.wrap .i64 (S + 1) = S + 1 := w64 (by omega) (by omega)
          rw [t1, Option.bind_some, wS, decide_eq_true (show 0 ≤ S + 1 ∧ (S + 1 ≤ S + 1 ∧ (S + 1) * 9 ≤ 140737488355328) by omega), cond_true, w64 (n := S - 1) (by omega) (by omega)]
          have ha := (powA align).2 hp
          obtain ⟨r, e, hr⟩ := docF (m + 200) (by omega) S T h size align hz ⟨ha.1, ha.2.1⟩ t t2
          exact ⟨r, e, fun _ => ⟨fun h => absurd h hl, fun _ => hr⟩, fun hb => absurd ⟨hz, hp⟩ hb⟩
    · rw [decide_eq_false hz]
      exact ⟨(0, 0, 1, []), rfl, fun h => absurd h.1 hz, fun _ => rfl⟩
theorem ansA_len {S : Int} {T : SpL} {size align : Int} {r : RA} (h : AnsA S T size align r) (hl : T.length ≤ 64) : r.2.2.2.length ≤ 65 := by
  by_cases c : (1 ≤ size ∧ size ≤ 4096) ∧ pwA align 13 = true
  · obtain ⟨a, b⟩ := h.1 c
    by_cases l : T.length = 64
    · rw [a l]; simp [endA]
    · rcases b l with ⟨rfl, _⟩ | ⟨k, _, _, rfl⟩
      · simp [endA]
      · show (sortV _).length ≤ 65
        rw [sortV, List.length_mergeSort]; simp; omega
  · rw [h.2 c]; simp
theorem takesN (m : Nat) (hm : 80000 < m) (S : Int) (T : SpL) (size align : Int) : F3 (m + 200) S T size align = some true := by
  have key : ∃ r, F6 (m + 200) S T size align = some r ∧ F7 (m + 200) S T size align = some r ∧ r.2.2.2.length ≤ 65 := by
    obtain ⟨c, c1, c2, c3⟩ := checkA (m + 200) (by omega) S T
    by_cases h0 : c = 0
    · subst h0
      have hg := c3 rfl
      obtain ⟨r, e, hr⟩ := progT (m + 200) (by omega) S T hg size align c1
      obtain ⟨r', e', hr'⟩ := docT m hm S T hg size align c2
      obtain rfl := ansA_one hr hr'
      exact ⟨r, e, e', ansA_len hr hg.len⟩
    · unfold F6 F7
      rw [c1, c2]
      simp only [Option.bind_some]
      rw [show (c != 0) = true by simp [h0]]
      exact ⟨_, rfl, rfl, by simp⟩
  obtain ⟨r, e1, e2, e3⟩ := key
  unfold F3
  rw [e1, e2]
  simp only [Option.bind_some]
  unfold F8
  rw [show (r.1 == r.1) = true by simp, eqSp (m + 200) r.2.2.2 e3 (by omega)]
  simp
theorem arenaTakes_says (a0 : Sh.T (.st (.pair (.int .i64) (.sl (.st (.pair (.int .i64) (.int .i64))))))) (g0 : Sh.good (.st (.pair (.int .i64) (.sl (.st (.pair (.int .i64) (.int .i64)))))) a0) (a1 : Sh.T (.int .i64)) (g1 : Sh.good (.int .i64) a1) (a2 : Sh.T (.int .i64)) (g2 : Sh.good (.int .i64) a2) :
    ∃ n, F3 n a0.1 a0.2 a1 a2 = some true := ⟨80201, takesN 80001 (by omega) a0.1 a0.2 a1 a2⟩
end Go.Proofs.Ytfcilapoefaanaa
