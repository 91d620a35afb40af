/- Giving back, in plain Lean: the law ArenaGives. -/
import Derived.Test.YtnhdocmdjlijkaaFag
import Derived.Test.YtnhdocmdjlijkaaAm26
import Derived.Test.YtnhdocmdjlijkaaAm22
namespace Go.Proofs.Ytnhdocmdjlijkaa
open Go Go.RowKit
set_option linter.unusedVariables false

abbrev SpL := List (Int × Int)
theorem betA (n : Nat) (v lo hi : Int) : F50 n v lo hi = some (decide (lo ≤ v ∧ v ≤ hi)) := by
  unfold F50
  by_cases h : lo ≤ v <;> simp [h]
theorem getA (T : SpL) (k : Nat) (h : k < T.length) : T.getD k (0, 0) = T[k] := by
  rw [List.getD_eq_getElem?_getD, List.getElem?_eq_getElem h]; rfl
theorem takeA (T : SpL) (k : Nat) (h : k < T.length) : T.take (k + 1) = T.take k ++ [T[k]] := by
  rw [List.take_add_one, List.getElem?_eq_getElem h]; rfl
/-- both check the same -/
theorem checkA (n : Nat) (hn : 100 < n) (S : Int) (T : SpL) : ∃ r, F56 n S T = some r ∧ F61 n S T = some r ∧ (r = 0 → T.length ≤ 64 ∧ List.Pairwise (fun a b => a.1 < b.1) T) := by
  unfold F56 F61
  rw [betA]
  simp only [Option.bind_some]
  by_cases hS : 1 ≤ S ∧ S ≤ 65536
  · rw [decide_eq_true hS, decide_eq_false (show ¬ S < 1 by omega), decide_eq_false (show ¬ S > 65536 by omega)]
    simp only [cond_false, Bool.not_true]
    by_cases hl : T.length ≤ 64
    · rw [decide_eq_false (show ¬ ((T.length : Nat) : Int) > 64 by omega)]
      simp only [cond_false]
      have main : ∃ r r', loopF (F56_l2 n S T) n (0, 0) = some r ∧ loopF (F61_l2 n S T) n 0 = some r' ∧ (r = r' ∧ (r = 0 → List.Pairwise (fun a b => a.1 < b.1) T)) := by
        refine loopF_rel (F56_l2 n S T) (F61_l2 n S T)
          (fun d d' => ∃ k : Nat, d = (d.1, (k : Int)) ∧ d' = (k : Int) ∧ k ≤ T.length ∧ 0 ≤ d.1 ∧ d.1 ≤ S ∧ (0 < k → d.1 = (T.getD (k - 1) (0, 0)).1 + (T.getD (k - 1) (0, 0)).2) ∧ (k = 0 → d.1 = 0) ∧ List.Pairwise (fun a b => a.1 < b.1) (T.take k) ∧ (∀ x ∈ T.take k, x.1 < d.1))
          (fun r r' => r = r' ∧ (r = 0 → List.Pairwise (fun a b => a.1 < b.1) T)) (fun d => T.length - d.2.toNat) ?_ n n _ _ ⟨0, rfl, rfl, by omega, by omega, by show (0 : Int) ≤ S; omega, by omega, fun _ => rfl, by simp, by simp⟩ (by simp; omega) (by simp; omega)
        rintro kk kk' ⟨v, x⟩ d' ⟨k, e1, rfl, hk, v0, v1, hv, hv0, hp, hlt⟩ ih
        simp only [Prod.mk.injEq, true_and] at e1
        subst e1
        simp only at v0 v1 hv hv0 hlt
        simp only [F56_l2, F61_l2, Int.toNat_natCast, betA, Option.bind_some]
        by_cases hkl : k < T.length
        · rw [decide_eq_true (show (k : Int) < (T.length : Nat) by omega), inb_true (by omega) (show (k : Int) < ((T.length : Nat) : Int) by omega)]
          simp only [cond_true, getA T k hkl]
          have hmem := takeA T k hkl
          generalize hs : T[k] = s at *
          obtain ⟨at_, sz⟩ := s
          simp only
          have wk : IntKind.wrap .i64 ((k : Int) + 1) = ((k + 1 : Nat) : Int) := by rw [w64 (by omega) (by omega)]; omega
          have wS : IntKind.wrap .i64 (S - 1) = S - 1 := w64 (by omega) (by omega)
          rw [wS]
          by_cases ok : 1 ≤ sz ∧ v ≤ at_ ∧ at_ < S ∧ sz ≤ S - at_
          · obtain ⟨o1, o2, o3, o4⟩ := ok
            have wd : IntKind.wrap .i64 (S - at_) = S - at_ := w64 (by omega) (by omega)
            have we : IntKind.wrap .i64 (at_ + sz) = at_ + sz := w64 (by omega) (by omega)
            rw [wd, we, wk, decide_eq_false (show ¬ sz < 1 by omega), decide_eq_false (show ¬ at_ < v by omega), decide_eq_false (show ¬ at_ ≥ S by omega), decide_eq_false (show ¬ sz > S - at_ by omega), decide_eq_true (show 0 ≤ at_ ∧ at_ ≤ S - 1 by omega), decide_eq_true (show 1 ≤ sz ∧ sz ≤ S - at_ by omega)]
            simp only [cond_false, Bool.not_true]
            obtain ⟨r, r', i1, i2, i3⟩ := ih (at_ + sz, ((k + 1 : Nat) : Int)) ((k + 1 : Nat) : Int) ⟨k + 1, rfl, rfl, by omega, by show (0 : Int) ≤ at_ + sz; omega, by show at_ + sz ≤ S; omega, fun _ => by show at_ + sz = _; rw [Nat.add_sub_cancel, getA T k hkl, hs], by omega, by
                rw [hmem]
                refine List.pairwise_append.2 ⟨hp, by simp, fun a ha b hb => ?_⟩
                obtain rfl := List.mem_singleton.1 hb
                have := hlt a ha
                show a.1 < at_
                omega, fun y hy => by
                show y.1 < at_ + sz
                rw [hmem] at hy
                rcases List.mem_append.1 hy with h | h
                · have := hlt y h
                  omega
                · obtain rfl := List.mem_singleton.1 h
                  show at_ < at_ + sz
                  omega⟩ (by simp only [Int.toNat_natCast]; omega)
            refine ⟨r, r', i1, ?_, i3⟩
            by_cases h0 : 0 < k
            · have wm : IntKind.wrap .i64 ((k : Int) - 1) = ((k - 1 : Nat) : Int) := by rw [w64 (by omega) (by omega)]; omega
              have hv2 := hv h0
              rw [decide_eq_true (show (k : Int) > 0 by omega), wm, inb_true (by omega) (show ((k - 1 : Nat) : Int) < ((T.length : Nat) : Int) by omega)]
              have hw : IntKind.wrap .i64 ((T.getD (k - 1) (0, 0)).1 + (T.getD (k - 1) (0, 0)).2) = v := by rw [← hv2]; exact w64 (by omega) (by omega)
              simp only [cond_true, Int.toNat_natCast, hw]
              rw [decide_eq_false (show ¬ v > at_ by omega)]
              exact i2
            · rw [decide_eq_false (show ¬ (k : Int) > 0 by omega)]
              exact i2
          · refine ⟨4, 4, ?_, ?_, rfl, fun h => absurd h (by decide)⟩
            · by_cases a1 : sz < 1
              · rw [decide_eq_true a1]; rfl
              · rw [decide_eq_false a1]
                by_cases a2 : at_ < v
                · rw [decide_eq_true a2]; rfl
                · rw [decide_eq_false a2]
                  by_cases a3 : at_ ≥ S
                  · rw [decide_eq_true a3]; rfl
                  · rw [decide_eq_false a3, w64 (by omega) (by omega), decide_eq_true (show sz > S - at_ by omega)]; rfl
            · by_cases b1 : 0 ≤ at_ ∧ at_ ≤ S - 1
              · have wd : IntKind.wrap .i64 (S - at_) = S - at_ := w64 (by omega) (by omega)
                rw [decide_eq_true b1, wd]
                by_cases b2 : 1 ≤ sz ∧ sz ≤ S - at_
                · rw [decide_eq_true b2]
                  have h0 : 0 < k := by
                    rcases Nat.eq_zero_or_pos k with h | h
                    · exfalso
                      subst h
                      have := hv0 rfl
                      omega
                    · exact h
                  have wm : IntKind.wrap .i64 ((k : Int) - 1) = ((k - 1 : Nat) : Int) := by rw [w64 (by omega) (by omega)]; omega
                  have hv2 := hv h0
                  rw [decide_eq_true (show (k : Int) > 0 by omega), wm, inb_true (by omega) (show ((k - 1 : Nat) : Int) < ((T.length : Nat) : Int) by omega)]
                  have hw : IntKind.wrap .i64 ((T.getD (k - 1) (0, 0)).1 + (T.getD (k - 1) (0, 0)).2) = v := by rw [← hv2]; exact w64 (by omega) (by omega)
                  simp only [cond_true, Int.toNat_natCast, Bool.not_true, cond_false, hw]
                  rw [decide_eq_true (show v > at_ by omega)]; rfl
                · rw [decide_eq_false b2]; rfl
              · rw [decide_eq_false b1]; rfl
        · obtain rfl : k = T.length := by omega
          rw [decide_eq_false (show ¬ ((T.length : Nat) : Int) < ((T.length : Nat) : Int) by omega)]
          exact ⟨0, 0, rfl, rfl, rfl, fun _ => by rw [List.take_length] at hp; exact hp⟩
      obtain ⟨r, r', m1, m2, rfl, m3⟩ := main
      exact ⟨r, m1, m2, fun h => ⟨hl, m3 h⟩⟩
    · rw [decide_eq_true (show ((T.length : Nat) : Int) > 64 by omega)]
      exact ⟨2, rfl, rfl, fun h => absurd h (by decide)⟩
  · rw [decide_eq_false hS]
    refine ⟨1, ?_, rfl, fun h => absurd h (by decide)⟩
    by_cases q : S < 1
    · rw [decide_eq_true q]; rfl
    · rw [decide_eq_false q, decide_eq_true (show S > 65536 by omega)]; rfl
/-- what both give -/
def giveV (S : Int) (T : SpL) (at_ : Int) : Int × Int × SpL :=
  if (T.filter fun s => s.1 != at_).length = T.length then (0, 12, []) else (S, 0, T.filter fun s => s.1 != at_)
theorem filter_split (T : SpL) (at_ : Int) (k : Nat) (hk : k < T.length) (hp : List.Pairwise (fun a b => a.1 < b.1) T) (hne : ∀ s ∈ T.take k, s.1 ≠ at_) (he : T[k].1 = at_) : (T.filter fun s => s.1 != at_) = T.take k ++ T.drop (k + 1) := by
  have e : T = T.take k ++ (T[k] :: T.drop (k + 1)) := by rw [← List.drop_eq_getElem_cons hk, List.take_append_drop]
  have hp2 := hp
  rw [e] at hp2
  have h2 := (List.pairwise_cons.1 (List.pairwise_append.1 hp2).2.1).1
  conv => lhs; rw [e]
  rw [List.filter_append, List.filter_cons, if_neg (by simp [he])]
  congr 1
  · exact List.filter_eq_self.2 fun s hs => by simpa using hne s hs
  · exact List.filter_eq_self.2 fun s hs => by
      have := h2 s hs
      have : s.1 ≠ at_ := by omega
      simpa using this
theorem progG (n : Nat) (hn : 100 < n) (S : Int) (T : SpL) (hl : T.length ≤ 64) (hp : List.Pairwise (fun a b => a.1 < b.1) T) (at_ : Int) : loopF (F23_l6 n S T at_) n 0 = some (giveV S T at_) := by
  have clone : F60 n T = some T := by
    unfold F60
    rw [decide_eq_true (show ([] : SpL).length + T.length ≤ 8796093022208 by simp; omega)]; rfl
  refine loopF_eq (F23_l6 n S T at_) (fun _ => some (giveV S T at_)) (fun x => ∃ k : Nat, x = (k : Int) ∧ k ≤ T.length ∧ ∀ s ∈ T.take k, s.1 ≠ at_) (fun x => T.length - x.toNat) ?_ n 0 ⟨0, rfl, by omega, by simp⟩ (by simp; omega)
  rintro kk x ⟨k, rfl, hk, hall⟩ ih
  simp only [F23_l6, F58, Int.toNat_natCast, Option.bind_some]
  by_cases hkl : k < T.length
  · rw [decide_eq_true (show (k : Int) < (T.length : Nat) by omega), inb_true (by omega) (show (k : Int) < ((T.length : Nat) : Int) by omega)]
    simp only [cond_true, getA T k hkl]
    have wk : IntKind.wrap .i64 ((k : Int) + 1) = ((k + 1 : Nat) : Int) := by rw [w64 (by omega) (by omega)]; omega
    by_cases he : T[k].1 = at_
    · rw [show (T[k].1 == at_) = true by simpa using he]
      have hf := filter_split T at_ k hkl hp hall he
      simp only [cond_true]
      unfold F23_j5
      simp only []
      rw [decide_eq_false (show ¬ (k : Int) < 0 by omega), clone]
      simp only [cond_false, Option.bind_some]
      rw [decide_eq_true (show 0 ≤ (k : Int) ∧ (k : Int) < ((T.length : Nat) : Int) ∧ IntKind.wrap .i64 ((k : Int) + 1) = (k : Int) + 1 by rw [wk]; omega)]
      unfold giveV
      have hlen : (T.take k ++ T.drop (k + 1)).length = T.length - 1 := by rw [List.length_append, List.length_take, List.length_drop]; omega
      rw [hf, if_neg (by rw [hlen]; omega)]
      unfold delV
      rw [Int.toNat_natCast, ← hlen, List.take_left]; rfl
    · rw [show (T[k].1 == at_) = false by simpa using he, wk]
      simp only [cond_false]
      refine ih _ ⟨k + 1, rfl, hkl, fun s hs => ?_⟩ (by simp only [Int.toNat_natCast]; omega)
      rw [takeA T k hkl] at hs
      rcases List.mem_append.1 hs with h | h
      · exact hall s h
      · obtain rfl := List.mem_singleton.1 h; exact he
  · obtain rfl : k = T.length := by omega
    rw [decide_eq_false (show ¬ ((T.length : Nat) : Int) < ((T.length : Nat) : Int) by omega)]
    rw [List.take_length] at hall
    have hf : (T.filter fun s => s.1 != at_) = T := List.filter_eq_self.2 fun s hs => by simpa using hall s hs
    unfold giveV
    rw [hf, if_pos rfl]; rfl
theorem refG (n : Nat) (hn : 100 < n) (S : Int) (T : SpL) (hl : T.length ≤ 64) (at_ : Int) : loopF (F24_l2 n S T at_) n (0, []) = some (giveV S T at_) := by
  refine loopF_eq (F24_l2 n S T at_) (fun _ => some (giveV S T at_)) (fun d => ∃ k : Nat, d = ((k : Int), (T.take k).filter fun s => s.1 != at_) ∧ k ≤ T.length) (fun d => T.length - d.1.toNat) ?_ n _ ⟨0, rfl, by omega⟩ (by simp; omega)
  rintro kk d ⟨k, rfl, hk⟩ ih
  simp only [F24_l2, Int.toNat_natCast]
  by_cases hkl : k < T.length
  · rw [decide_eq_true (show (k : Int) < (T.length : Nat) by omega), inb_true (by omega) (show (k : Int) < ((T.length : Nat) : Int) by omega)]
    simp only [cond_true, getA T k hkl]
    have wk : IntKind.wrap .i64 ((k : Int) + 1) = ((k + 1 : Nat) : Int) := by rw [w64 (by omega) (by omega)]; omega
    have hfl : ((T.take k).filter fun s => s.1 != at_).length ≤ 64 := by
      have h1 := List.length_filter_le (fun s : Int × Int => s.1 != at_) (T.take k)
      rw [List.length_take] at h1
      omega
    rw [wk]
    by_cases he : T[k].1 = at_
    · rw [show (T[k].1 != at_) = false by simp [he]]
      simp only [cond_false]
      exact ih _ ⟨k + 1, by rw [takeA T k hkl, List.filter_append]; simp [he], hkl⟩ (by simp only [Int.toNat_natCast]; omega)
    · rw [show (T[k].1 != at_) = true by simp [he], decide_eq_true (show ((T.take k).filter fun s => s.1 != at_).length + [(T[k].1, T[k].2)].length ≤ 8796093022208 by simp only [List.length_cons, List.length_nil]; omega)]
      simp only [cond_true]
      exact ih _ ⟨k + 1, by rw [takeA T k hkl, List.filter_append]; simp [he], hkl⟩ (by simp only [Int.toNat_natCast]; omega)
  · obtain rfl : k = T.length := by omega
    rw [decide_eq_false (show ¬ ((T.length : Nat) : Int) < ((T.length : Nat) : Int) by omega), List.take_length]
    unfold giveV
    by_cases q : (T.filter fun s => s.1 != at_).length = T.length
    · rw [if_pos q, q, show ((((T.length : Nat)) : Int) == ((T.length : Nat) : Int)) = true by simp]; rfl
    · rw [if_neg q, show (((((T.filter fun s => s.1 != at_).length : Nat)) : Int) == ((T.length : Nat) : Int)) = false by rw [beq_eq_false_iff_ne]; omega]; rfl
theorem eqSp (n : Nat) (l : SpL) (hl : l.length ≤ 64) (hn : 100 < n) : F62 n l l = some true := by
  unfold F62
  rw [show ((((l.length : Nat)) : Int) != ((l.length : Nat) : Int)) = false by simp, cond_false]
  refine loopF_eq (F62_l2 n l l) (fun _ => some true) (fun x => ∃ k : Nat, x = (k : Int) ∧ k ≤ l.length) (fun x => l.length - x.toNat) ?_ n 0 ⟨0, rfl, by omega⟩ (by simp; omega)
  rintro kk x ⟨k, rfl, hk⟩ ih
  simp only [F62_l2]
  by_cases hkl : k < l.length
  · have wk : IntKind.wrap .i64 ((k : Int) + 1) = ((k + 1 : Nat) : Int) := by rw [w64 (by omega) (by omega)]; omega
    rw [decide_eq_true (show (k : Int) < (l.length : Nat) by omega), inb_true (by omega) (show (k : Int) < ((l.length : Nat) : Int) by omega), Sh.beq_self, wk]
    exact ih _ ⟨k + 1, rfl, hkl⟩ (by simp only [Int.toNat_natCast]; omega)
  · obtain rfl : k = l.length := by omega
    rw [decide_eq_false (show ¬ ((l.length : Nat) : Int) < ((l.length : Nat) : Int) by omega)]; rfl
theorem givesN (n : Nat) (hn : 100 < n) (S : Int) (T : SpL) (at_ : Int) : F6 n S T at_ = some true := by
  have key : ∃ r, F23 n S T at_ = some r ∧ F24 n S T at_ = some r ∧ r.2.2.length ≤ 64 := by
    obtain ⟨c, c1, c2, c3⟩ := checkA n hn S T
    unfold F23 F24
    rw [c1, c2]
    simp only [Option.bind_some]
    by_cases h0 : c = 0
    · obtain ⟨hl, hp⟩ := c3 h0
      rw [show (c != 0) = false by simp [h0]]
      refine ⟨_, progG n hn S T hl hp at_, refG n hn S T hl at_, ?_⟩
      unfold giveV
      split
      · simp
      · exact Nat.le_trans (List.length_filter_le _ _) hl
    · rw [show (c != 0) = true by simp [h0]]
      exact ⟨_, rfl, rfl, by simp⟩
  obtain ⟨r, e1, e2, e3⟩ := key
  unfold F6
  rw [e1, e2]
  simp only [Option.bind_some]
  unfold F25
  rw [show (r.1 == r.1) = true by simp, eqSp n r.2.2 e3 hn]
  simp
theorem arenaGives_says (a0 : Sh.T (.st (.pair (.int .i64) (.sl (.st (.pair (.int .i64) (.int .i64))))))) (g0 : Sh.good (.st (.pair (.int .i64) (.sl (.st (.pair (.int .i64) (.int .i64)))))) a0) (a1 : Sh.T (.int .i64)) (g1 : Sh.good (.int .i64) a1) :
    ∃ n, F6 n a0.1 a0.2 a1 = some true := ⟨101, givesN _ (by omega) a0.1 a0.2 a1⟩
end Go.Proofs.Ytnhdocmdjlijkaa
