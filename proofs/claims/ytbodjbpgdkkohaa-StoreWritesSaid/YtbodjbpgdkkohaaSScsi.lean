/- Commands of a disk: their form; in plain Lean. -/
import Derived.Test.YtbodjbpgdkkohaaFst
import Derived.Test.YtbodjbpgdkkohaaAm26
namespace Go.Proofs.Ytbodjbpgdkkohaa
open Go Go.RowKit
set_option linter.unusedVariables false

abbrev DTx := List UInt8
def by' (s : DTx) (k : Nat) : Nat := (s.getD k 0).toNat
theorem by_lt (s : DTx) (k : Nat) : by' s k < 256 := UInt8.toNat_lt _
theorem dropE {α : Type} (l : List α) (k : Nat) (z : α) (h : k < l.length) : l.drop k = l.getD k z :: l.drop (k + 1) := by
  rw [List.drop_eq_getElem_cons h]; simp [List.getD_eq_getElem?_getD, h]
theorem containsD (n : Nat) (l : List Int) (v : Int) (hl : l.length + 1 < n) (hs : l.length < 1000) : F52 n l v = some (decide (v ∈ l)) := by
  unfold F52 F84
  have : loopF (F84_l2 n l v) n 0 = some (if v ∈ l then ((l.idxOf v : Nat) : Int) else -1) := by
    refine (loopF_eq (F84_l2 n l v) (fun x => some (if v ∈ l.drop x.toNat then (((l.drop x.toNat).idxOf v + x.toNat : Nat) : Int) else -1)) (fun x => ∃ k : Nat, x = (k : Int) ∧ k ≤ l.length) (fun x => l.length - x.toNat) ?_ n 0 ⟨0, rfl, by omega⟩ (by simp; omega)).trans (by simp)
    rintro kk x ⟨k, rfl, hk⟩ ih
    simp only [F84_l2, Int.toNat_natCast]
    by_cases hkl : k < l.length
    · have ek : ((k : Int) + 1).toNat = k + 1 := by omega
      have ih' := ih ((k : Int) + 1) ⟨k + 1, by omega, by omega⟩ (by simp only [Int.toNat_natCast, ek]; omega)
      rw [decide_eq_true (show (k : Int) < (l.length : Int) by omega), inb_true (by omega) (by omega), w64 (n := (k : Int) + 1) (by omega) (by omega), ih']
      simp only [ek, cond_true, dropE l k 0 hkl, List.mem_cons, List.idxOf_cons]
      by_cases h : v = l.getD k 0
      · rw [show (v == l.getD k 0) = true from beq_iff_eq.2 h, if_pos (Or.inl h), show (l.getD k 0 == v) = true from beq_iff_eq.2 h.symm]
        simp
      · rw [show (v == l.getD k 0) = false from beq_eq_false_iff_ne.2 h, show (l.getD k 0 == v) = false from beq_eq_false_iff_ne.2 (fun e => h e.symm)]
        simp only [cond_false, h, false_or, Option.some.injEq]
        by_cases h2 : v ∈ l.drop (k + 1)
        · rw [if_pos h2, if_pos h2]; simp; omega
        · rw [if_neg h2, if_neg h2]
    · have ed : l.drop k = [] := List.drop_of_length_le (by omega)
      rw [decide_eq_false (by omega)]
      simp only [ed]
      simp
  rw [this]
  by_cases h : v ∈ l
  · rw [if_pos h, decide_eq_true h]; simp
  · rw [if_neg h, decide_eq_false h]; rfl
theorem btw4 (n : Nat) (v lo hi : Int) : F57 n v lo hi = some (decide (lo ≤ v ∧ v ≤ hi)) := by
  unfold F57
  by_cases h : lo ≤ v
  · rw [decide_eq_true h]
    simp only [cond_true, Option.some.injEq]
    by_cases h2 : v ≤ hi <;> simp [h, h2]
  · rw [decide_eq_false h, decide_eq_false (show ¬ (lo ≤ v ∧ v ≤ hi) from fun hh => h hh.1)]; rfl
/-! the disk -/
def all16 (D : List DTx) : Bool := D.all fun b => decide (b.length = 16)
def diskV (D : List DTx) (sn : Int) : Int := if ¬ (1 ≤ D.length ∧ D.length ≤ 64) then 1 else if all16 D = false then 4 else if sn ∈ [(0 : Int), 32, 33, 36] then 0 else 4
theorem blocksL (n : Nat) (D : List DTx) (sn : Int) (hD : D.length ≤ 64) (hn : 100 < n) : loopF (F22_l2 n D sn) n 0 = some (if all16 D = false then 4 else if sn ∈ [(0 : Int), 32, 33, 36] then 0 else 4) := by
  refine (loopF_eq (F22_l2 n D sn) (fun x => bif all16 (D.drop x.toNat) then some (if sn ∈ [(0 : Int), 32, 33, 36] then 0 else 4) else some 4) (fun x => ∃ k : Nat, x = (k : Int) ∧ k ≤ D.length) (fun x => D.length - x.toNat) ?_ n 0 ⟨0, rfl, by omega⟩ (by simp; omega)).trans (by
    show (bif all16 D then _ else _) = _
    cases all16 D <;> rfl)
  rintro kk x ⟨k, rfl, hk⟩ ih
  simp only [F22_l2, Int.toNat_natCast]
  by_cases hkl : k < D.length
  · have ek : ((k : Int) + 1).toNat = k + 1 := by omega
    have ih' := ih ((k : Int) + 1) ⟨k + 1, by omega, by omega⟩ (by simp only [Int.toNat_natCast, ek]; omega)
    have ed : all16 (D.drop k) = (decide ((D.getD k []).length = 16) && all16 (D.drop (k + 1))) := by rw [dropE D k [] hkl]; simp only [all16, List.all_cons]
    rw [decide_eq_true (show (k : Int) < (D.length : Int) by omega), inb_true (by omega) (by omega), w64 (n := (k : Int) + 1) (by omega) (by omega), ih', ek, ed]
    simp only [cond_true]
    by_cases h : (D.getD k []).length = 16
    · rw [decide_eq_true h, show ((((D.getD k []).length : Nat) : Int) != 16) = false from bne_eq_false_iff_eq.2 (by omega)]; rfl
    · rw [decide_eq_false h, show ((((D.getD k []).length : Nat) : Int) != 16) = true from bne_iff_ne.2 (by omega)]; rfl
  · have ed : D.drop k = [] := List.drop_of_length_le (by omega)
    rw [decide_eq_false (by omega), ed, containsD n _ _ (by simp; omega) (by simp)]
    simp only [cond_false, Option.bind_some]
    rw [show all16 [] = true from rfl]
    by_cases h : sn ∈ [(0 : Int), 32, 33, 36]
    · rw [decide_eq_true h, if_pos h]; rfl
    · rw [decide_eq_false h, if_neg h]; rfl
theorem diskP (n : Nat) (D : List DTx) (sn : Int) (hn : 100 < n) : F22 n D sn = some (diskV D sn) := by
  unfold F22 diskV
  by_cases h1 : D.length < 1
  · rw [decide_eq_true (show ((D.length : Nat) : Int) < 1 by omega), if_pos (by omega)]; rfl
  rw [decide_eq_false (show ¬ ((D.length : Nat) : Int) < 1 by omega)]
  by_cases h2 : 64 < D.length
  · rw [decide_eq_true (show ((D.length : Nat) : Int) > 64 by omega), if_pos (by omega)]; rfl
  rw [decide_eq_false (show ¬ ((D.length : Nat) : Int) > 64 by omega), if_neg (by omega)]
  exact blocksL n D sn (by omega) hn
theorem diskR (n : Nat) (D : List DTx) (sn : Int) (hn : 100 < n) : F24 n D sn = some (diskV D sn) := by
  unfold F24 diskV
  rw [btw4]
  simp only [Option.bind_some]
  by_cases h1 : 1 ≤ D.length ∧ D.length ≤ 64
  · rw [decide_eq_true (show (1 : Int) ≤ ((D.length : Nat) : Int) ∧ ((D.length : Nat) : Int) ≤ 64 by omega), if_neg (by omega)]
    simp only [Bool.not_true, cond_false]
    have : F24_l2 n D sn = F22_l2 n D sn := rfl
    rw [this]
    exact blocksL n D sn (by omega) hn
  · rw [decide_eq_false (show ¬ ((1 : Int) ≤ ((D.length : Nat) : Int) ∧ ((D.length : Nat) : Int) ≤ 64) by omega), if_pos h1]; rfl
/-! forms -/
def cls (v : Int) : Option (List Int × DTx) :=
  if v = 0 then some ([], [48, 48, 48, 48, 48, 48])
  else if v = 3 ∨ v = 18 then some ([4], [48, 48, 48, 48, 110, 48])
  else if v = 26 then some ([2, 4], [48, 48, 110, 48, 110, 48])
  else if v = 37 then some ([], [48, 48, 48, 48, 48, 48, 48, 48, 48, 48])
  else if v = 40 ∨ v = 42 ∨ v = 53 then some ([2, 3, 4, 5, 7, 8], [48, 48, 110, 110, 110, 110, 48, 110, 110, 48])
  else none
def maskOk (u : List Int) (m : DTx) : Bool := (List.range 10).all fun j => (decide (m.length ≤ j)) || (decide ((runeAt m j).2 = 1) && (j == 0 || ((by' m j == 48) == !decide ((j : Int) ∈ u))))
theorem cls_ok {v : Int} {u : List Int} {m : DTx} (h : cls v = some (u, m)) : maskOk u m = true ∧ m.length = (if v < 32 then 6 else 10) ∧ u.length ≤ 6 := by
  unfold cls at h
  split at h
  · rename_i hv; subst hv; simp only [Option.some.injEq, Prod.mk.injEq] at h; obtain ⟨rfl, rfl⟩ := h; exact ⟨by decide +kernel, rfl, by simp⟩
  split at h
  · rename_i hv; simp only [Option.some.injEq, Prod.mk.injEq] at h; obtain ⟨rfl, rfl⟩ := h; exact ⟨by decide +kernel, by rw [if_pos (by omega)]; rfl, by simp⟩
  split at h
  · rename_i hv; subst hv; simp only [Option.some.injEq, Prod.mk.injEq] at h; obtain ⟨rfl, rfl⟩ := h; exact ⟨by decide +kernel, rfl, by simp⟩
  split at h
  · rename_i hv; subst hv; simp only [Option.some.injEq, Prod.mk.injEq] at h; obtain ⟨rfl, rfl⟩ := h; exact ⟨by decide +kernel, rfl, by simp⟩
  split at h
  · rename_i hv; simp only [Option.some.injEq, Prod.mk.injEq] at h; obtain ⟨rfl, rfl⟩ := h; exact ⟨by decide +kernel, by rw [if_neg (by omega)]; rfl, by simp⟩
  · cases h
theorem mask_at {u : List Int} {m : DTx} (h : maskOk u m = true) (j : Nat) (hj : j < m.length) (h10 : m.length ≤ 10) : (runeAt m j).2 = 1 ∧ (1 ≤ j → ((by' m j == 48) = !decide ((j : Int) ∈ u))) := by
  unfold maskOk at h
  rw [List.all_eq_true] at h
  have := h j (List.mem_range.2 (by omega))
  rw [decide_eq_false (show ¬ m.length ≤ j by omega), Bool.false_or, Bool.and_eq_true, decide_eq_true_eq, Bool.or_eq_true] at this
  refine ⟨this.1, fun h1 => ?_⟩
  rcases this.2 with h2 | h2
  · have : j = 0 := by simpa using h2
    omega
  · exact beq_iff_eq.1 h2
theorem fieldsP (n : Nat) (v : Int) : F85 n v = some (match cls v with | some (u, _) => (true, u) | none => (false, [])) := by
  unfold F85 cls
  by_cases h0 : v = 0
  · subst h0; rfl
  rw [if_neg h0, show (v == 0) = false from beq_eq_false_iff_ne.2 h0]
  simp only [cond_false, F85_j4]
  by_cases h37 : v = 37
  · subst h37; rfl
  rw [show (v == 37) = false from beq_eq_false_iff_ne.2 h37]
  simp only [cond_false]
  by_cases h3 : v = 3
  · subst h3; rfl
  rw [show (v == 3) = false from beq_eq_false_iff_ne.2 h3]
  simp only [cond_false, F85_j5]
  by_cases h18 : v = 18
  · subst h18; rfl
  rw [show (v == 18) = false from beq_eq_false_iff_ne.2 h18, if_neg (show ¬ (v = 3 ∨ v = 18) by omega)]
  simp only [cond_false]
  by_cases h26 : v = 26
  · subst h26; rfl
  rw [show (v == 26) = false from beq_eq_false_iff_ne.2 h26, if_neg h26, if_neg h37]
  simp only [cond_false, F85_j6]
  by_cases h40 : v = 40
  · subst h40; rfl
  rw [show (v == 40) = false from beq_eq_false_iff_ne.2 h40]
  simp only [cond_false]
  by_cases h42 : v = 42
  · subst h42; rfl
  rw [show (v == 42) = false from beq_eq_false_iff_ne.2 h42]
  simp only [cond_false]
  by_cases h53 : v = 53
  · subst h53; rfl
  rw [show (v == 53) = false from beq_eq_false_iff_ne.2 h53, if_neg (show ¬ (v = 40 ∨ v = 42 ∨ v = 53) by omega)]; rfl
theorem maskP (n : Nat) (v : Int) : F58 n v = some (match cls v with | some (_, m) => m | none => []) := by
  unfold F58 cls
  by_cases h0 : v = 0
  · subst h0; rfl
  rw [if_neg h0, show (v == 0) = false from beq_eq_false_iff_ne.2 h0]
  simp only [cond_false, F58_j2]
  by_cases h3 : v = 3
  · subst h3; rfl
  rw [show (v == 3) = false from beq_eq_false_iff_ne.2 h3]
  simp only [cond_false]
  by_cases h18 : v = 18
  · subst h18; rfl
  rw [show (v == 18) = false from beq_eq_false_iff_ne.2 h18, if_neg (show ¬ (v = 3 ∨ v = 18) by omega)]
  simp only [cond_false]
  by_cases h26 : v = 26
  · subst h26; rfl
  rw [show (v == 26) = false from beq_eq_false_iff_ne.2 h26, if_neg h26]
  simp only [cond_false]
  by_cases h37 : v = 37
  · subst h37; rfl
  rw [show (v == 37) = false from beq_eq_false_iff_ne.2 h37, if_neg h37]
  simp only [cond_false]
  by_cases h40 : v = 40
  · subst h40; rfl
  rw [show (v == 40) = false from beq_eq_false_iff_ne.2 h40]
  simp only [cond_false]
  by_cases h42 : v = 42
  · subst h42; rfl
  rw [show (v == 42) = false from beq_eq_false_iff_ne.2 h42]
  simp only [cond_false]
  by_cases h53 : v = 53
  · subst h53; rfl
  rw [show (v == 53) = false from beq_eq_false_iff_ne.2 h53, if_neg (show ¬ (v = 40 ∨ v = 42 ∨ v = 53) by omega)]; rfl
/-- a byte is used that may not be: from place k on, in so many steps -/
def badFrom (u : List Int) (c : DTx) : Nat → Nat → Bool
  | _, 0 => false
  | k, f + 1 => ((by' c k != 0) && !decide ((k : Int) ∈ u)) || badFrom u c (k + 1) f
def formV (c : DTx) : Int :=
  if c = [] then 32 else
  match cls (by' c 0 : Int) with
  | none => 32
  | some (u, m) => if c.length ≠ m.length then 36 else if badFrom u c 1 (m.length - 1) = true then 36 else if by' c 0 = 26 ∧ by' c 2 ≠ 63 then 36 else 0
theorem formP (n : Nat) (hn : 100 < n) (c : DTx) : F53 n c = some (formV c, decide (formV c ≠ 0)) := by
  unfold F53 formV
  by_cases h0 : c = []
  · subst h0; rfl
  have hc : 0 < c.length := List.length_pos_iff.2 h0
  rw [show (c == []) = false from beq_eq_false_iff_ne.2 h0, if_neg h0, inb_true (by omega) (by omega), fieldsP]
  simp only [cond_false, cond_true, Option.bind_some]
  rw [show (((c.getD 0 0).toNat : Nat) : Int) = ((by' c 0 : Nat) : Int) from rfl]
  cases hcl : cls ((by' c 0 : Nat) : Int) with
  | none => rfl
  | some um =>
    obtain ⟨u, m⟩ := um
    obtain ⟨_, hm, hu⟩ := cls_ok hcl
    simp only [Bool.not_true, cond_false]
    have key : ∀ sz : Nat, m.length = sz → sz = 6 ∨ sz = 10 → F53_j3 n c (true, u) (sz : Int) = some ((if c.length ≠ m.length then 36 else if badFrom u c 1 (m.length - 1) = true then 36 else if by' c 0 = 26 ∧ by' c 2 ≠ 63 then 36 else 0), decide ((if c.length ≠ m.length then (36 : Int) else if badFrom u c 1 (m.length - 1) = true then 36 else if by' c 0 = 26 ∧ by' c 2 ≠ 63 then 36 else 0) ≠ 0)) := by
      intro sz hsz h610
      simp only [F53_j3, hsz]
      by_cases hl : c.length = sz
      · rw [show (((c.length : Nat) : Int) != (sz : Int)) = false from bne_eq_false_iff_eq.2 (by omega), if_neg (by omega)]
        simp only [cond_false]
        refine (loopF_eq (F53_l4 n c (true, u) (sz : Int)) (fun x => bif badFrom u c x.toNat (sz - x.toNat) then some (36, true) else some (if by' c 0 = 26 ∧ by' c 2 ≠ 63 then (36, true) else (0, false))) (fun x => ∃ k : Nat, x = (k : Int) ∧ 1 ≤ k ∧ k ≤ sz) (fun x => sz - x.toNat) ?_ n 1 ⟨1, rfl, by omega, by omega⟩ (by simp; omega)).trans ?_
        · rintro kk x ⟨k, rfl, hk1, hk⟩ ih
          simp only [F53_l4, Int.toNat_natCast]
          by_cases hkl : k < sz
          · have ek : ((k : Int) + 1).toNat = k + 1 := by omega
            have ih' := ih ((k : Int) + 1) ⟨k + 1, by omega, by omega, by omega⟩ (by simp only [Int.toNat_natCast, ek]; omega)
            have eb : badFrom u c k (sz - k) = (((by' c k != 0) && !decide ((k : Int) ∈ u)) || badFrom u c (k + 1) (sz - (k + 1))) := by
              rw [show sz - k = (sz - (k + 1)) + 1 by omega]; rfl
            rw [decide_eq_true (show (k : Int) < (sz : Int) by omega), inb_true (by omega) (by omega), w64 (n := (k : Int) + 1) (by omega) (by omega), ih', ek, containsD n u _ (by omega) (by omega), eb]
            simp only [cond_true, Option.bind_some]
            rw [show ((((c.getD k 0).toNat : Nat) : Int) != 0) = (by' c k != 0) by
              by_cases h : by' c k = 0
              · rw [show (by' c k != 0) = false from bne_eq_false_iff_eq.2 h]; exact bne_eq_false_iff_eq.2 (by unfold by' at h; omega)
              · rw [show (by' c k != 0) = true from bne_iff_ne.2 h]; exact bne_iff_ne.2 (by unfold by' at h; omega)]
            cases (by' c k != 0) <;> cases decide ((k : Int) ∈ u) <;> rfl
          · obtain rfl : k = sz := by omega
            rw [decide_eq_false (by omega), Nat.sub_self, inb_true (show (0 : Int) ≤ 2 by omega) (by omega)]
            simp only [cond_false, badFrom]
            by_cases h26 : by' c 0 = 26
            · rw [show ((((c.getD 0 0).toNat : Nat) : Int) == 26) = true from beq_iff_eq.2 (by unfold by' at h26; omega)]
              simp only [cond_true]
              by_cases h63 : by' c 2 = 63
              · rw [show ((((c.getD 2 0).toNat : Nat) : Int) != 63) = false from bne_eq_false_iff_eq.2 (by unfold by' at h63; omega), if_neg (by omega)]; rfl
              · rw [show ((((c.getD 2 0).toNat : Nat) : Int) != 63) = true from bne_iff_ne.2 (by unfold by' at h63; omega), if_pos ⟨h26, h63⟩]; rfl
            · rw [show ((((c.getD 0 0).toNat : Nat) : Int) == 26) = false from beq_eq_false_iff_ne.2 (by unfold by' at h26; omega), if_neg (by omega)]; rfl
        · rw [show (1 : Int).toNat = 1 from rfl]
          cases badFrom u c 1 (sz - 1) with
          | true => rfl
          | false =>
            by_cases h : by' c 0 = 26 ∧ by' c 2 ≠ 63
            · simp [h]
            · simp [h]
      · rw [show (((c.length : Nat) : Int) != (sz : Int)) = true from bne_iff_ne.2 (by omega), if_pos hl]; rfl
    by_cases h32 : by' c 0 < 32
    · rw [decide_eq_true (show ((by' c 0 : Nat) : Int) < 32 by omega)]
      rw [if_pos (by omega)] at hm
      exact key 6 hm (Or.inl rfl)
    · rw [decide_eq_false (show ¬ ((by' c 0 : Nat) : Int) < 32 by omega)]
      rw [if_neg (by omega)] at hm
      exact key 10 hm (Or.inr rfl)
end Go.Proofs.Ytbodjbpgdkkohaa
