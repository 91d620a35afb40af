/- What leads from one set of keys to another; keys that go down and up; in plain Lean. -/
import Derived.Test.YtekmnhplhoejdaaDoorSKeyB
namespace Go.Proofs.YtekmnhplhoejdaaDoor
open Go Go.RowKit
set_option linter.unusedVariables false

theorem range_drop (k m : Nat) (h : k < m) : (List.range m).drop k = k :: (List.range m).drop (k + 1) := by
  rw [List.drop_eq_getElem_cons (by simpa using h)]; simp
/-! keys that go down and up -/
theorem codesR (n : Nat) (hn : 300 < n) (b : BitsL) (hb : G4 b) : F90 n b = some (((List.range 256).filter (tb b)).map fun c => ((c : Nat) : Int)) := by
  unfold F90
  refine (loopF_eq (F90_l2 n b) (fun d => some (d.2 ++ (((List.range 256).drop d.1.toNat).filter (tb b)).map fun c => ((c : Nat) : Int))) (fun d => ∃ k : Nat, d.1 = (k : Int) ∧ k ≤ 256 ∧ d.2.length ≤ k) (fun d => 256 - d.1.toNat) ?_ n _ ⟨0, rfl, by omega, by simp⟩ (by simp; omega)).trans (by simp)
  rintro kk ⟨x, m⟩ ⟨k, hx, hk, h2⟩ ih
  simp only at hx h2
  subst hx
  simp only [F90_l2, Int.toNat_natCast]
  by_cases hlt : k < 256
  · have ek : ((k : Int) + 1).toNat = k + 1 := by omega
    rw [decide_eq_true (show (k : Int) < 256 by omega), hasR n b k hb hlt, range_drop k 256 hlt, w64 (n := (k : Int) + 1) (by omega) (by omega)]
    have ih' : ∀ m' : List Int, m'.length ≤ k + 1 → kk ((k : Int) + 1, m') = some (m' ++ (((List.range 256).drop (k + 1)).filter (tb b)).map fun c => ((c : Nat) : Int)) := fun m' g2 => by
      have := ih ((k : Int) + 1, m') ⟨k + 1, by simp, by omega, g2⟩ (by simp only [Int.toNat_natCast, ek]; omega)
      simp only [ek] at this
      exact this
    simp only [cond_true, Option.bind_some, List.filter_cons]
    cases tb b k with
    | true =>
      simp only [cond_true, if_true, List.map_cons]
      rw [decide_eq_true (show m.length + [(k : Int)].length ≤ 17592186044416 by simp only [List.length_cons, List.length_nil]; omega)]
      simp only [cond_true]
      rw [ih' _ (by simp; omega)]; simp
    | false =>
      simp only [cond_false, Bool.false_eq_true, if_false]
      exact ih' m (by omega)
  · have hk2 : k = 256 := by omega
    subst hk2
    rw [decide_eq_false (by omega), show (List.range 256).drop 256 = [] from List.drop_of_length_le (by simp)]
    simp
/-- a set and the list of its codes -/
structure HeldR (b : BitsL) (held : List Int) : Prop where
  good : G4 b
  same : ∀ c, c < 256 → tb b c = held.contains (c : Int)
  nodup : held.Nodup
theorem HeldR.start {b : BitsL} (hb : G4 b) : HeldR b (((List.range 256).filter (tb b)).map fun c => ((c : Nat) : Int)) := by
  refine ⟨hb, fun c hc => ?_, ?_⟩
  · rw [List.contains_eq_mem]
    by_cases h : tb b c = true
    · rw [h, decide_eq_true (List.mem_map.2 ⟨c, List.mem_filter.2 ⟨List.mem_range.2 hc, h⟩, rfl⟩)]
    · rw [decide_eq_false fun hm => ?_]
      · simpa using h
      · obtain ⟨d, hd, he⟩ := List.mem_map.1 hm
        obtain rfl : d = c := by omega
        exact h (List.mem_filter.1 hd).2
  · exact List.Pairwise.map _ (fun a b h => by omega) (List.Pairwise.filter _ List.nodup_range)
theorem contains_app (l : List Int) (c d : Int) : (l ++ [c]).contains d = (l.contains d || (d == c)) := by
  simp only [List.contains_eq_mem, List.mem_append, List.mem_singleton]
  by_cases h : d = c <;> simp [h]
theorem HeldR.add {b : BitsL} {held : List Int} (h : HeldR b held) (c : Nat) (hc : c < 256) (hn : tb b c = false) : HeldR (flipB b c) (held ++ [(c : Int)]) := by
  have hm : (c : Int) ∉ held := by
    have := h.same c hc
    rw [hn, List.contains_eq_mem] at this
    exact of_decide_eq_false this.symm
  refine ⟨flip_good h.good c, fun d hd => ?_, ?_⟩
  · rw [tb_flip h.good c d hc hd, contains_app, ← h.same d hd]
    by_cases e : d = c
    · subst e; rw [if_pos rfl, hn]; simp
    · rw [if_neg e, show (((d : Nat) : Int) == (c : Int)) = false from beq_eq_false_iff_ne.2 (by omega), Bool.or_false]
  · refine List.nodup_append.2 ⟨h.nodup, by simp, fun a ha b hb => ?_⟩
    rw [List.mem_singleton] at hb
    subst hb
    exact fun e => hm (e ▸ ha)
theorem HeldR.del {b : BitsL} {held : List Int} (h : HeldR b held) (c : Nat) (hc : c < 256) (i : Nat) (hi : i < held.length) (he : held[i] = (c : Int)) (hn : tb b c = true) : HeldR (flipB b c) (held.take i ++ held.drop (i + 1)) := by
  have hsplit : held = held.take i ++ ((c : Int) :: held.drop (i + 1)) := by
    rw [← he, ← List.drop_eq_getElem_cons hi, List.take_append_drop]
  have hnd := h.nodup
  rw [hsplit, List.nodup_append] at hnd
  obtain ⟨n1, n2, n3⟩ := hnd
  rw [List.nodup_cons] at n2
  refine ⟨flip_good h.good c, fun d hd => ?_, ?_⟩
  · rw [tb_flip h.good c d hc hd]
    by_cases e : d = c
    · subst e
      rw [if_pos rfl, hn, List.contains_eq_mem]
      refine (decide_eq_false fun hm => ?_).symm
      rcases List.mem_append.1 hm with hm | hm
      · exact n3 _ hm _ (List.mem_cons_self ..) rfl
      · exact n2.1 hm
    · rw [if_neg e, h.same d hd]
      conv => lhs; rw [hsplit]
      have e' : ((d : Nat) : Int) ≠ (c : Int) := by omega
      simp only [List.contains_eq_mem, List.mem_append, List.mem_cons, e', false_or]
  · exact List.nodup_append.2 ⟨n1, n2.2, fun a ha b hb => n3 a ha b (List.mem_cons_of_mem _ hb)⟩
theorem splice_take {α : Type} (l : List α) (lo : Nat) (x : List α) (h : lo ≤ l.length) : (splice l lo x).take lo = l.take lo := by
  unfold splice
  rw [List.append_assoc, List.take_left' (by rw [List.length_take]; omega)]
/-- 'slices.Delete' of one element, in place -/
theorem del_one (m : List Int) (i : Nat) (hi : i < m.length) : ((splice (splice m (0 + i) ((m.take ((i + 1) + (m.length - (i + 1)))).drop (i + 1))) (0 + (i + ((m.take ((i + 1) + (m.length - (i + 1)))).drop (i + 1)).length)) (List.replicate (m.length - (i + ((m.take ((i + 1) + (m.length - (i + 1)))).drop (i + 1)).length)) 0)).take (i + ((m.take ((i + 1) + (m.length - (i + 1)))).drop (i + 1)).length)) = m.take i ++ m.drop (i + 1) := by
  rw [show (i + 1) + (m.length - (i + 1)) = m.length by omega, List.take_length]
  have hl : (m.drop (i + 1)).length = m.length - (i + 1) := List.length_drop
  have ht : (m.take i).length = i := by rw [List.length_take]; omega
  rw [Nat.zero_add, Nat.zero_add, splice_take _ _ _ (by rw [splice_length _ _ _ (by omega)]; omega)]
  unfold splice
  rw [List.take_left' (by rw [List.length_append, ht])]
theorem applyN (n : Nat) (b0 : BitsL) (hb0 : G4 b0) (l : List (Int × Bool)) (hl : l.length ≤ 8796093022208) (hn : l.length + 400 < n) : ∃ r, F51 n b0 l = some r ∧ F55 n b0 l = some r := by
  unfold F51 F55
  rw [codesR n (by omega) b0 hb0, Option.bind_some]
  have hlen0 : (((List.range 256).filter (tb b0)).map fun c => ((c : Nat) : Int)).length ≤ 256 := by
    rw [List.length_map]; exact Nat.le_trans (List.length_filter_le _ _) (by simp)
  suffices hh : ∃ r r', loopF (F51_l2 n l) n (0, b0) = some r ∧ loopF (F55_l7 n l) n (0, ((List.range 256).filter (tb b0)).map fun c => ((c : Nat) : Int)) = some r' ∧ r = r' by
    obtain ⟨r, r', h1, h2, h3⟩ := hh
    exact ⟨r, h1, by rw [h3]; exact h2⟩
  refine loopF_rel (F51_l2 n l) (F55_l7 n l) (fun d d' => ∃ k : Nat, d.1 = (k : Int) ∧ d'.1 = (k : Int) ∧ k ≤ l.length ∧ HeldR d.2 d'.2 ∧ d'.2.length ≤ 256 + k) (fun r r' => r = r') (fun d => l.length - d.1.toNat) ?_ n n (0, b0) (0, _) ⟨0, rfl, rfl, by omega, HeldR.start hb0, hlen0⟩ (by simp; omega) (by simp; omega)
  rintro kk kk' ⟨x, b⟩ ⟨x', held⟩ ⟨k, hx, hx', hk, hR, hlen⟩ ih
  simp only at hx hx' hR hlen
  subst hx; subst hx'
  simp only [F51_l2, F55_l7, Int.toNat_natCast]
  by_cases hkl : k < l.length
  · have ek : ((k : Int) + 1).toNat = k + 1 := by omega
    rw [decide_eq_true (show (k : Int) < ((l.length : Nat) : Int) by omega), inb_true (by omega) (by omega), w64 (n := (k : Int) + 1) (by omega) (by omega)]
    obtain ⟨c, d, hp⟩ : ∃ c d, l.getD k (0, false) = (c, d) := ⟨_, _, rfl⟩
    simp only [hp, cond_true]
    rw [indexP n held c (by omega) (by omega)]
    simp only [Option.bind_some, F27]
    by_cases h4 : c < 4
    · rw [decide_eq_true h4, decide_eq_false (show ¬ (4 ≤ c) by omega)]
      exact ⟨_, _, rfl, rfl, rfl⟩
    · rw [decide_eq_false h4, decide_eq_true (show 4 ≤ c by omega)]
      by_cases h255 : c > 255
      · rw [decide_eq_true h255, decide_eq_false (show ¬ c ≤ 255 by omega)]
        exact ⟨_, _, rfl, rfl, rfl⟩
      · obtain ⟨cn, rfl⟩ : ∃ cn : Nat, c = (cn : Int) := ⟨c.toNat, by omega⟩
        have hcn : cn < 256 := by omega
        rw [decide_eq_false h255, decide_eq_true (show (cn : Int) ≤ 255 by omega), hasP n b cn hR.good hcn]
        simp only [cond_true, cond_false, Option.bind_some, Bool.not_true]
        have hj : cn % 64 < 64 := Nat.mod_lt _ (by omega)
        have hflip : b.set ((((cn / 64 : Nat) : Int)).toNat) (bitsI .xor .u64 (b.getD ((((cn / 64 : Nat) : Int)).toNat) 0) (shlI .u64 1 ((cn % 64 : Nat) : Int))) = flipB b cn := by
          obtain ⟨e1, e2⟩ := hR.good.word (cn / 64)
          rw [Int.toNat_natCast, e1, kShl _ hj, kXor _ _ e2 (two64 _ hj)]; rfl
        have hidx : decide (idxI (held.findIdx? (fun y => (cn : Int) == y)) ≥ 0) = tb b cn := by
          rw [hR.same cn hcn, List.contains_eq_mem]
          cases h : held.findIdx? (fun y => (cn : Int) == y) with
          | none =>
            rw [List.findIdx?_eq_none_iff] at h
            rw [decide_eq_false (show ¬ ((cn : Int) ∈ held) from fun hm => by have := h _ hm; simp at this)]; rfl
          | some i =>
            obtain ⟨hi, hv, _⟩ := List.findIdx?_eq_some_iff_getElem.1 h
            rw [decide_eq_true (show ((cn : Int) ∈ held) by rw [eq_of_beq hv]; exact List.getElem_mem hi)]
            exact decide_eq_true (by simp [idxI])
        rw [hidx]
        by_cases htw : tb b cn = d
        · rw [show (tb b cn == d) = true from beq_iff_eq.2 htw]
          exact ⟨_, _, rfl, rfl, rfl⟩
        · rw [show (tb b cn == d) = false from beq_eq_false_iff_ne.2 htw, tdiv64, tmod64, w64 (n := ((cn / 64 : Nat) : Int)) (by omega) (by omega), inb_true (by omega) (by omega), ku64 (cn % 64) (by omega), decide_eq_true (show (0 : Int) ≤ ((cn % 64 : Nat) : Int) by omega), hflip]
          simp only [cond_true, cond_false]
          cases d with
          | true =>
            have hf : tb b cn = false := by simpa using htw
            simp only [cond_true]
            rw [decide_eq_true (show held.length + [(cn : Int)].length ≤ 17592186044416 by simp only [List.length_cons, List.length_nil]; omega)]
            exact ih _ _ ⟨k + 1, by simp, by simp, by omega, hR.add cn hcn hf, by simp; omega⟩ (by simp only [Int.toNat_natCast, ek]; omega)
          | false =>
            have hf : tb b cn = true := by simpa using htw
            cases h : held.findIdx? (fun y => (cn : Int) == y) with
            | none => rw [h, hf] at hidx; simp [idxI] at hidx
            | some i =>
              obtain ⟨hi, hv, _⟩ := List.findIdx?_eq_some_iff_getElem.1 h
              have he : held[i] = (cn : Int) := (eq_of_beq hv).symm
              have ei : ((i : Int) + 1).toNat = i + 1 := by omega
              have hdl : ((held.take ((i + 1) + (held.length - (i + 1)))).drop (i + 1)).length = held.length - (i + 1) := by
                rw [List.length_drop, List.length_take]; omega
              have ew : IntKind.wrap .i64 ((i : Int) + 1) = (i : Int) + 1 := w64 (by omega) (by omega)
              have p1 : ((0 : Int) ≤ (i : Int) ∧ (i : Int) ≤ (i : Int) + 1 ∧ (i : Int) + 1 ≤ ((held.length : Nat) : Int) ∧ ((held.length : Nat) : Int) ≤ ((held.length : Nat) : Int)) = True := eq_true (by omega)
              have p2 : (0 + i + ((held.take ((i + 1) + (held.length - (i + 1)))).drop (i + 1)).length ≤ held.length) = True := eq_true (by omega)
              have p3 : ((0 : Int) ≤ (((i + ((held.take ((i + 1) + (held.length - (i + 1)))).drop (i + 1)).length : Nat)) : Int) ∧ (((i + ((held.take ((i + 1) + (held.length - (i + 1)))).drop (i + 1)).length : Nat)) : Int) ≤ ((held.length : Nat) : Int) ∧ ((0 : Nat) : Int) + ((held.length : Nat) : Int) ≤ (((splice held (0 + i) ((held.take ((i + 1) + (held.length - (i + 1)))).drop (i + 1))).length : Nat) : Int)) = True := eq_true (by
                rw [splice_length held (0 + i) _ (by omega)]; omega)
              have q1 : (((i : Nat) : Int) == (i : Int) + 1) = false := beq_eq_false_iff_ne.2 (by omega)
              have q2 : subB held.length none (some (i : Int)) = true := by simp only [subB, Bool.and_eq_true, decide_eq_true_eq]; omega
              have q3 : subB held.length (some ((i : Int) + 1)) none = true := by simp only [subB, Bool.and_eq_true, decide_eq_true_eq]; omega
              simp only [cond_false, Int.toNat_natCast, idxI, ew, ei, p1, p2, p3, q1, q2, q3, decide_true, cond_true]
              simp only [cond_true, F55_j8]
              rw [w64 (n := (k : Int) + 1) (by omega) (by omega)]
              have hd := del_one held i hi
              rw [hd]
              exact ih _ _ ⟨k + 1, by simp, by simp, by omega, hR.del cn hcn i hi he hf, by rw [List.length_append, List.length_take, List.length_drop]; omega⟩ (by simp only [Int.toNat_natCast, ek]; omega)
  · rw [decide_eq_false (show ¬ (k : Int) < ((l.length : Nat) : Int) by omega)]
    obtain ⟨b', e1, e2, e3⟩ := keySetP n held (by omega) (by omega) (by omega)
    rw [e1]
    simp only [cond_false, Option.bind_some]
    refine ⟨_, _, rfl, rfl, ?_⟩
    rw [G4.ext hR.good e2 fun c hc => by rw [hR.same c hc, e3 c hc]]
theorem good_g4 (b : BitsL) (h : Sh.good (.st (.arr 4 (.int .u64))) b) : G4 b := by
  refine ⟨h.1, fun x hx => ?_⟩
  have h' : (Lit.int .u64 x).wf = true := h.2 x hx
  have e1 : IntKind.u64.min = 0 := by decide
  have e2 : IntKind.u64.max = 18446744073709551615 := by decide
  simp only [Lit.wf, e1, e2, Bool.and_eq_true, decide_eq_true_eq] at h'
  omega
end Go.Proofs.YtekmnhplhoejdaaDoor
