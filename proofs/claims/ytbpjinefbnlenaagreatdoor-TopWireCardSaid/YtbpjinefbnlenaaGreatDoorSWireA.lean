import Derived.Test.YtbpjinefbnlenaaGreatDoorSBits
import Derived.Test.YtbpjinefbnlenaaGreatDoorSStuff2
import Derived.Test.YtbpjinefbnlenaaGreatDoorAm22
/- Packets as levels, and levels as packets; in plain Lean. -/
namespace Go.Proofs.YtbpjinefbnlenaaGreatDoor
open Go Go.RowKit
set_option linter.unusedVariables false

/-! Send -/
/-! Piece -/
theorem unF_ge : ∀ (l : Tx) (o : Nat) (acc : Tx), (unF o l acc).2 = 0 → acc.length ≤ (unF o l acc).1.length
  | [], o, acc, h => by
    simp only [unF] at h ⊢
    split at h
    · cases h
    · rename_i hh; rw [if_neg hh]; exact Nat.le_refl _
  | c :: l, o, acc, h => by
    simp only [unF] at h ⊢
    split at h
    · rename_i hh
      rw [if_pos hh]
      split at h
      · cases h
      · rename_i h2
        rw [if_neg h2]
        exact unF_ge l 0 acc h
    · rename_i hh
      rw [if_neg hh]
      split at h
      · rename_i h2
        rw [if_pos h2]
        have := unF_ge l 0 _ h
        simp only [List.length_append, List.length_cons, List.length_nil] at this
        omega
      · rename_i h2
        rw [if_neg h2]
        have := unF_ge l (o + 1) _ h
        simp only [List.length_append, List.length_cons, List.length_nil] at this
        omega
theorem unF_le : ∀ (l : Tx) (o : Nat) (acc : Tx), (unF o l acc).1.length ≤ acc.length + l.length
  | [], o, acc => by
    simp only [unF]
    split <;> simp
  | c :: l, o, acc => by
    have h0 := unF_le l 0 acc
    have h1 := unF_le l 0 (acc ++ [c])
    have h2 := unF_le l (o + 1) (acc ++ [c])
    simp only [List.length_append, List.length_cons, List.length_nil] at h1 h2 ⊢
    simp only [unF]
    split
    · split
      · simp
      · omega
    · split
      · omega
      · omega
abbrev pat8 : Tx := [48, 48, 48, 48, 48, 48, 48, 49]
abbrev lev8 : Tx := [75, 74, 75, 74, 75, 74, 75, 75]
def chg (x p : UInt8) : UInt8 := if x = p then 49 else 48
theorem pat_lev (a b c d e f g h : UInt8) (ha : a = 74 ∨ a = 75) (hb : b = 74 ∨ b = 75) (hc : c = 74 ∨ c = 75) (hd : d = 74 ∨ d = 75) (he : e = 74 ∨ e = 75) (hf : f = 74 ∨ f = 75) (hg : g = 74 ∨ g = 75) (hh : h = 74 ∨ h = 75) :
    (([chg a 74, chg b a, chg c b, chg d c, chg e d, chg f e, chg g f, chg h g] : Tx) == pat8) = (([a, b, c, d, e, f, g, h] : Tx) == lev8) := by
  rcases ha with rfl | rfl
  · rfl
  rcases hb with rfl | rfl
  rotate_left
  · rfl
  rcases hc with rfl | rfl
  · rfl
  rcases hd with rfl | rfl
  rotate_left
  · rfl
  rcases he with rfl | rfl
  · rfl
  rcases hf with rfl | rfl
  rotate_left
  · rfl
  rcases hg with rfl | rfl
  · rfl
  rcases hh with rfl | rfl <;> rfl
theorem rowU_chg (s : Tx) (x p : UInt8) (j : Nat) (h1 : s.getD j 0 = x) (h2 : pvL s 74 j = ((p.toNat : Nat) : Int)) : UInt8.ofNat (rowU s 74 j).toNat = chg x p := by
  unfold rowU chg
  rw [h1, h2]
  by_cases h : x = p
  · subst h; rw [if_pos rfl, if_pos rfl]; rfl
  · rw [if_neg (fun e => h (UInt8.toNat.inj (by omega))), if_neg h]; rfl
theorem take8 (s : Tx) (h8 : 8 ≤ s.length) (hb : ∀ x ∈ s, x = 74 ∨ x = 75) : ((strOf ((List.range s.length).map (rowU s 74))).take 8 == pat8) = (s.take 8 == lev8) := by
  have hg : ∀ j, j < s.length → s.getD j 0 = 74 ∨ s.getD j 0 = 75 := fun j hj => hb _ (by rw [List.getD_eq_getElem?_getD, List.getElem?_eq_getElem hj]; exact List.getElem_mem hj)
  have e1 : (strOf ((List.range s.length).map (rowU s 74))).take 8 = strOf ((List.range 8).map (rowU s 74)) := by
    unfold strOf
    rw [← List.map_take, ← List.map_take, List.take_range, Nat.min_eq_left h8]
  have e2 : s.take 8 = (List.range 8).map fun j => s.getD j 0 := by
    apply List.ext_getElem
    · simp; omega
    · intro j h1 h2
      have hj : j < 8 := by simpa using h2
      simp [List.getD_eq_getElem?_getD, List.getElem?_eq_getElem (show j < s.length by omega)]
  have hp : ∀ j, pvL s 74 (j + 1) = (((s.getD j 0).toNat : Nat) : Int) := fun j => rfl
  rw [e1, e2]
  show ([UInt8.ofNat (rowU s 74 0).toNat, UInt8.ofNat (rowU s 74 1).toNat, UInt8.ofNat (rowU s 74 2).toNat, UInt8.ofNat (rowU s 74 3).toNat, UInt8.ofNat (rowU s 74 4).toNat, UInt8.ofNat (rowU s 74 5).toNat, UInt8.ofNat (rowU s 74 6).toNat, UInt8.ofNat (rowU s 74 7).toNat] == pat8) =
    ([s.getD 0 0, s.getD 1 0, s.getD 2 0, s.getD 3 0, s.getD 4 0, s.getD 5 0, s.getD 6 0, s.getD 7 0] == lev8)
  rw [rowU_chg s _ 74 0 rfl rfl, rowU_chg s _ _ 1 rfl (hp 0), rowU_chg s _ _ 2 rfl (hp 1), rowU_chg s _ _ 3 rfl (hp 2), rowU_chg s _ _ 4 rfl (hp 3), rowU_chg s _ _ 5 rfl (hp 4), rowU_chg s _ _ 6 rfl (hp 5), rowU_chg s _ _ 7 rfl (hp 6)]
  exact pat_lev _ _ _ _ _ _ _ _ (hg 0 (by omega)) (hg 1 (by omega)) (hg 2 (by omega)) (hg 3 (by omega)) (hg 4 (by omega)) (hg 5 (by omega)) (hg 6 (by omega)) (hg 7 (by omega))
theorem rowU_bits (s : Tx) : onlyB (strOf ((List.range s.length).map (rowU s 74))) [48, 49] = true := by
  refine List.all_eq_true.2 fun x hx => ?_
  unfold strOf at hx
  obtain ⟨y, hy, rfl⟩ := List.mem_map.1 hx
  obtain ⟨j, _, rfl⟩ := List.mem_map.1 hy
  unfold rowU
  split <;> rfl
/-- what a packet's levels carry, behind the head -/
def pcV (r : Tx) : Tx × Int :=
  if (unV2 r).2 ≠ 0 then ([], (unV2 r).2) else
    if (byV ((unV2 r).1.drop 8)).2 ≠ 0 then ([], (byV ((unV2 r).1.drop 8)).2) else
      if (byV ((unV2 r).1.drop 8)).1 = [] then ([], 3) else if (byV ((unV2 r).1.drop 8)).1.length > 80 then ([], 2) else ((byV ((unV2 r).1.drop 8)).1, 0)
def pieceV (s : Tx) : Tx × Int :=
  if onlyB s [74, 75] = false then ([], 4) else if s.length < 8 ∨ (s.take 8 == lev8) = false then ([], 7) else pcV (strOf ((List.range s.length).map (rowU s 74)))
theorem unV2_len (r : Tx) : (unV2 r).1.length ≤ r.length := by
  unfold unV2
  split
  · simp
  · have := unF_le r 0 []
    simpa using this
theorem unV2_ge (r : Tx) (ho : onlyB r [48, 49] = true) (hp : (r.take 8 == pat8) = true) (h : (unV2 r).2 = 0) : 8 ≤ (unV2 r).1.length := by
  have e : r = pat8 ++ r.drop 8 := by
    have := eq_of_beq hp
    rw [← this, List.take_append_drop]
  unfold unV2 at h ⊢
  rw [ho] at h ⊢
  simp only [Bool.true_eq_false, if_false] at h ⊢
  have e2 : unF 0 r [] = unF 1 (r.drop 8) pat8 := by
    conv => lhs; rw [e]
    rfl
  rw [e2] at h ⊢
  exact unF_ge (r.drop 8) 1 pat8 h
theorem beq_nil (l : Tx) : (l == ([] : Tx)) = decide (l = []) := by cases l <;> rfl
theorem bne_int (x : Int) : (x != 0) = decide (x ≠ 0) := by
  by_cases h : x = 0
  · subst h; rfl
  · rw [decide_eq_true h]; exact bne_iff_ne.2 h
theorem subB8 (l : Tx) (h : 8 ≤ l.length) : subB l.length (some 8) none = true := by
  simp only [subB, Bool.and_eq_true, decide_eq_true_eq]; omega
theorem piecePV (n : Nat) (hn : 140737488355338 < n) (s : Tx) (hs : s.length ≤ 1048576) : F29 n s = some (pieceV s) := by
  unfold F29 pieceV
  rw [unPV n hn s 74 (by omega)]
  simp only [Option.bind_some]
  cases ho : onlyB s [74, 75] with
  | false => simp [unV, ho]
  | true =>
    have hb : ∀ x ∈ s, x = 74 ∨ x = 75 := fun x hx => by
      have := (List.all_eq_true.1 ho) x hx
      simpa using this
    have hrl : (strOf ((List.range s.length).map (rowU s 74))).length = s.length := by simp [strOf]
    have hro := rowU_bits s
    have hu : unV s 74 = (strOf ((List.range s.length).map (rowU s 74)), 0) := by
      unfold unV
      rw [if_neg (by rw [ho]; simp)]
    rw [hu]
    have ht := take8 s
    generalize strOf ((List.range s.length).map (rowU s 74)) = r at hrl hro ht ⊢
    rw [show ((r, (0 : Int)).2 != 0) = false from rfl, if_neg (by simp)]
    simp only [cond_false, F43, F88, hrl]
    by_cases h8 : s.length < 8
    · rw [decide_eq_false (show ¬ ((s.length : Nat) : Int) ≥ ((([48, 48, 48, 48, 48, 48, 48, 49] : Tx).length : Nat) : Int) by simp only [List.length_cons, List.length_nil]; omega), if_pos (Or.inl h8)]
      rfl
    · rw [decide_eq_true (show ((s.length : Nat) : Int) ≥ ((([48, 48, 48, 48, 48, 48, 48, 49] : Tx).length : Nat) : Int) by simp only [List.length_cons, List.length_nil]; omega),
        show subB s.length none (some ((([48, 48, 48, 48, 48, 48, 48, 49] : Tx).length : Nat) : Int)) = true by simp only [subB, List.length_cons, List.length_nil, Bool.and_eq_true, decide_eq_true_eq]; omega]
      have ht2 := ht (by omega) hb
      simp only [cond_true, Option.bind_some]
      rw [show (r.take (((([48, 48, 48, 48, 48, 48, 48, 49] : Tx).length : Nat) : Int).toNat) == ([48, 48, 48, 48, 48, 48, 48, 49] : Tx)) = (r.take 8 == pat8) from rfl, ht2]
      cases hl : (s.take 8 == lev8) with
      | false => rw [if_pos (Or.inr rfl)]; rfl
      | true =>
        rw [hl] at ht2
        rw [if_neg (by simp; omega), unstuffPV n hn r (by omega)]
        simp only [Bool.not_true, cond_false, Option.bind_some, bne_int]
        unfold pcV
        by_cases hu : (unV2 r).2 = 0
        · have hge := unV2_ge r hro ht2 hu
          have hle := unV2_len r
          rw [decide_eq_false (by simpa using hu), subB8 _ hge, if_neg (by simpa using hu), bytesPV n hn _ (by rw [List.length_drop]; omega)]
          simp only [cond_false, cond_true, Option.bind_some, beq_nil]
          generalize byV ((unV2 r).1.drop 8) = y
          by_cases h1 : y.2 = 0
          · rw [decide_eq_false (by simpa using h1), if_neg (by simpa using h1)]
            by_cases h2 : y.1 = []
            · rw [decide_eq_true h2, if_pos h2]; rfl
            · rw [decide_eq_false h2, if_neg h2]
              by_cases h3 : y.1.length > 80
              · rw [decide_eq_true (show ((y.1.length : Nat) : Int) > 80 by omega), if_pos h3]; rfl
              · rw [decide_eq_false (show ¬ ((y.1.length : Nat) : Int) > 80 by omega), if_neg h3]; rfl
          · rw [decide_eq_true h1, if_pos h1]; rfl
        · rw [decide_eq_true hu, if_pos hu]; rfl
end Go.Proofs.YtbpjinefbnlenaaGreatDoor

/- Hearing: levels are gathered until a packet ends, or is too long; in plain Lean. -/
namespace Go.Proofs.YtbpjinefbnlenaaGreatDoor
open Go Go.RowKit
set_option linter.unusedVariables false

/-- does a packet end here? -/
def endJ (r : Tx) : Bool := decide (3 ≤ r.length) && (r.drop (r.length - 3) == [48, 48, 74])
abbrev HOut := List (Tx × Int)
/-- what is left, what was heard -/
def hearV : Tx → Tx → HOut → Tx × HOut
  | rest, [], out => (rest, out)
  | rest, c :: l, out =>
    bif ((((c.toNat : Nat) : Int) == 74) && ((rest.length : Int) == 0)) then hearV [] l out else
      bif endJ (rest ++ [c]) then hearV [] l (out ++ [pieceV ((rest ++ [c]).take ((rest ++ [c]).length - 3))]) else
        bif decide ((((rest ++ [c]).length : Nat) : Int) > 1000) then hearV [] l (out ++ [([], 2)]) else hearV (rest ++ [c]) l out
def castI (l : Tx) : List Int := l.map fun b => ((b.toNat : Nat) : Int)
theorem strOf_cast (l : Tx) : strOf (castI l) = l := by
  unfold strOf castI
  rw [List.map_map]
  conv => rhs; rw [← List.map_id l]
  exact List.map_congr_left fun x _ => by simp
theorem castI_len (l : Tx) : (castI l).length = l.length := by simp [castI]
theorem bif_two {α : Type} (a b : Bool) (x y : α) : (bif a then (bif b then x else y) else y) = (bif (a && b) then x else y) := by cases a <;> cases b <;> rfl
theorem hearPV (n : Nat) (hn : 140737488355338 < n) (lv r0 : Tx) (hl : lv.length ≤ 1048576) (hr : r0.length ≤ 1048576) :
    loopF (F10_l2 n lv) n (0, [], castI r0) = some ((hearV r0 lv []).1, 0, (hearV r0 lv []).2) := by
  have main := loopF_eq (F10_l2 n lv) (fun d => some ((hearV (strOf d.2.2) (lv.drop d.1.toNat) d.2.1).1, 0, (hearV (strOf d.2.2) (lv.drop d.1.toNat) d.2.1).2))
    (fun d => ∃ (k : Nat) (out : HOut) (rest : Tx), d = ((k : Int), out, castI rest) ∧ k ≤ lv.length ∧ out.length ≤ k ∧ rest.length ≤ 1048576) (fun d => lv.length - d.1.toNat) ?_ n (0, [], castI r0) ⟨0, [], r0, rfl, by omega, by simp, hr⟩ (by simp; omega)
  · rw [main]; simp [strOf_cast]
  rintro kk d ⟨k, out, rest, rfl, hk, ho, hrl⟩ ih
  simp only [F10_l2, Int.toNat_natCast, strOf_cast]
  by_cases hkl : k < lv.length
  · have ed : lv.drop k = lv.getD k 0 :: lv.drop (k + 1) := by
      rw [List.drop_eq_getElem_cons hkl]; simp [List.getD_eq_getElem?_getD, hkl]
    have ek : ((k : Int) + 1).toNat = k + 1 := by omega
    rw [decide_eq_true (show (k : Int) < ((lv.length : Nat) : Int) by omega), inb_true (by omega) (by omega), ed, w64 (n := (k : Int) + 1) (by omega) (by omega)]
    have ih' : ∀ (out' : HOut) (rest' : Tx), out'.length ≤ k + 1 → rest'.length ≤ 1048576 → kk ((k : Int) + 1, out', castI rest') = some ((hearV rest' (lv.drop (k + 1)) out').1, 0, (hearV rest' (lv.drop (k + 1)) out').2) := fun out' rest' h1 h2 => by
      rw [ih _ ⟨k + 1, out', rest', by simp, by omega, h1, h2⟩ (by simp only [Int.toNat_natCast, ek]; omega)]
      simp only [strOf_cast, ek]
    clear ih
    obtain ⟨c, hc⟩ : ∃ c, lv.getD k 0 = c := ⟨_, rfl⟩
    obtain ⟨l, hl2⟩ : ∃ l, lv.drop (k + 1) = l := ⟨_, rfl⟩
    simp only [hc, hl2] at ih' ⊢
    have e0 : castI rest ++ [((c.toNat : Nat) : Int)] = castI (rest ++ [c]) := by simp [castI]
    have hrl2 : (rest ++ [c]).length = rest.length + 1 := by simp
    simp only [cond_true, e0, bif_two, castI_len, hearV]
    cases hsk : (((c.toNat : Nat) : Int) == 74) && (((rest.length : Nat) : Int) == 0) with
    | true =>
      have h0 : rest.length = 0 := by
        rw [Bool.and_eq_true] at hsk
        have := eq_of_beq hsk.2
        omega
      obtain rfl := List.length_eq_zero_iff.1 h0
      simp only [cond_true]
      exact ih' out [] (by omega) (by simp)
    | false =>
      simp only [cond_false]
      obtain ⟨r, hr2⟩ : ∃ r, rest ++ [c] = r := ⟨_, rfl⟩
      simp only [hr2] at hrl2 ⊢
      rw [show decide (rest.length + [((c.toNat : Nat) : Int)].length ≤ 140737488355328) = true from decide_eq_true (by simp only [List.length_cons, List.length_nil]; omega),
        w64 (n := ((r.length : Nat) : Int) - 3) (by omega) (by omega)]
      have h1 : ∀ x : Tx × Int, decide (out.length + [x].length ≤ 5864062014805) = true := fun x => decide_eq_true (by simp only [List.length_cons, List.length_nil]; omega)
      have h2 : ∀ m : Nat, subB m none (some (0 : Int)) = true := fun m => by simp only [subB, Bool.and_eq_true, decide_eq_true_eq]; omega
      have hB : (bif decide (((r.length : Nat) : Int) > 1000) then (bif (decide (out.length + ([(([] : Tx), (2 : Int))]).length ≤ 5864062014805) && subB r.length none (some (0 : Int))) then kk ((k : Int) + 1, out ++ [([], 2)], List.take 0 (castI r)) else none) else kk ((k : Int) + 1, out, castI r)) =
          some ((bif decide (((r.length : Nat) : Int) > 1000) then hearV [] l (out ++ [([], 2)]) else hearV r l out).1, 0, (bif decide (((r.length : Nat) : Int) > 1000) then hearV [] l (out ++ [([], 2)]) else hearV r l out).2) := by
        simp only [h1, h2, Bool.and_true, cond_true]
        by_cases hbig : ((r.length : Nat) : Int) > 1000
        · rw [decide_eq_true hbig]
          exact ih' _ [] (by simp only [List.length_append, List.length_cons, List.length_nil]; omega) (by simp)
        · rw [decide_eq_false hbig]
          exact ih' _ r (by omega) (by omega)
      simp only [cond_true]
      by_cases h3 : 3 ≤ r.length
      · have e3 : (((r.length : Nat) : Int) - 3).toNat = r.length - 3 := by omega
        have es : strOf (((castI r).take (r.length - 3 + (r.length - (r.length - 3)))).drop (r.length - 3)) = r.drop (r.length - 3) := by
          rw [show r.length - 3 + (r.length - (r.length - 3)) = r.length by omega, ← castI_len r, List.take_length]
          rw [castI_len, show (castI r).drop (r.length - 3) = castI (r.drop (r.length - 3)) by simp [castI, List.map_drop], strOf_cast]
        have ep : strOf (((castI r).take (0 + (r.length - 3))).drop 0) = r.take (r.length - 3) := by
          rw [Nat.zero_add, List.drop_zero, show (castI r).take (r.length - 3) = castI (r.take (r.length - 3)) by simp [castI, List.map_take], strOf_cast]
        rw [decide_eq_true (show ((r.length : Nat) : Int) - 3 ≥ 0 by omega), show subB r.length (some (((r.length : Nat) : Int) - 3)) none = true by simp only [subB, Bool.and_eq_true, decide_eq_true_eq]; omega,
          show subB r.length none (some (((r.length : Nat) : Int) - 3)) = true by simp only [subB, Bool.and_eq_true, decide_eq_true_eq]; omega, e3, es, ep, piecePV n hn (r.take (r.length - 3)) (by rw [List.length_take]; omega)]
        have he : endJ r = (r.drop (r.length - 3) == [48, 48, 74]) := by unfold endJ; rw [decide_eq_true h3]; rfl
        rw [he]
        cases hj : (r.drop (r.length - 3) == [48, 48, 74]) with
        | true =>
          simp only [cond_true, Option.bind_some, h1, h2]
          exact ih' _ [] (by simp only [List.length_append, List.length_cons, List.length_nil]; omega) (by simp)
        | false =>
          simp only [cond_true, cond_false]
          exact hB
      · have he : endJ r = false := by unfold endJ; rw [decide_eq_false h3]; rfl
        rw [decide_eq_false (show ¬ ((r.length : Nat) : Int) - 3 ≥ 0 by omega), he]
        simp only [cond_false]
        exact hB
  · rw [decide_eq_false (show ¬ (k : Int) < ((lv.length : Nat) : Int) by omega), List.drop_of_length_le (show lv.length ≤ k by omega)]
    simp only [cond_false, hearV]
/-! the document's way: from one end to the next -/
end Go.Proofs.YtbpjinefbnlenaaGreatDoor

/- What is sent is heard: stuffed, turned and back; packets in a row, however they are cut; in plain Lean (for TopWire). -/
namespace Go.Proofs.YtbpjinefbnlenaaGreatDoor
open Go Go.RowKit
open Bk
set_option linter.unusedVariables false

theorem bits_only {l : Tx} (h : bits01 l) : onlyB l [48, 49] = true := List.all_eq_true.2 fun x hx => by
  rcases h x hx with rfl | rfl <;> rfl
/-- unstuffing what was stuffed -/
theorem un_st : ∀ (l : Tx) (o : Nat) (acc : Tx), o ≤ 5 → bits01 l → unF o (stF o l) acc = (acc ++ l, 0)
  | [], o, acc, h, _ => by
    simp only [stF, unF]
    rw [if_neg (by omega), List.append_nil]
  | c :: l, o, acc, h, hb => by
    have hb' : bits01 l := fun x hx => hb x (by simp [hx])
    rcases hb c (by simp) with rfl | rfl
    · simp only [stF, if_true, unF]
      rw [if_neg (by omega), un_st l 0 _ (by omega) hb']
      simp
    · simp only [stF]
      rw [if_neg (by decide)]
      by_cases h5 : o = 5
      · subst h5
        simp only [if_true, unF]
        rw [if_neg (by omega), if_neg (by decide), if_neg (by decide), un_st l 0 _ (by omega) hb']
        simp
      · rw [if_neg h5]
        simp only [unF]
        rw [if_neg (by omega), if_neg (by decide), un_st l (o + 1) _ (by omega) hb']
        simp
theorem st_bits : ∀ (l : Tx) (o : Nat), bits01 l → bits01 (stF o l)
  | [], o, _ => fun x hx => by simp [stF] at hx
  | c :: l, o, hb => by
    have hb' : bits01 l := fun x hx => hb x (by simp [hx])
    have hc := hb c (by simp)
    intro x hx
    simp only [stF] at hx
    split at hx
    · rcases List.mem_cons.1 hx with rfl | hx
      · exact hc
      · exact st_bits l 0 hb' x hx
    · split at hx
      · rcases List.mem_cons.1 hx with rfl | hx
        · exact hc
        · rcases List.mem_cons.1 hx with rfl | hx
          · exact .inl rfl
          · exact st_bits l 0 hb' x hx
      · rcases List.mem_cons.1 hx with rfl | hx
        · exact hc
        · exact st_bits l (o + 1) hb' x hx
/-- seven bits make at most eight -/
theorem st_len7 : ∀ (l : Tx) (o : Nat), o ≤ 5 → 6 * (stF o l).length ≤ 7 * l.length + o
  | [], o, _ => by simp [stF]
  | c :: l, o, h => by
    have h0 := st_len7 l 0 (by omega)
    simp only [stF]
    split
    · simp only [List.length_cons]; omega
    · split
      · simp only [List.length_cons]; omega
      · have h1 := st_len7 l (o + 1) (by omega)
        simp only [List.length_cons]; omega
theorem st_ge : ∀ (l : Tx) (o : Nat), l.length ≤ (stF o l).length
  | [], o => by simp [stF]
  | c :: l, o => by
    have h0 := st_ge l 0
    have h1 := st_ge l (o + 1)
    simp only [stF]
    split
    · simp only [List.length_cons]; omega
    · split
      · simp only [List.length_cons]; omega
      · simp only [List.length_cons]; omega
theorem st_pat (l : Tx) : stF 0 (pat8 ++ l) = pat8 ++ stF 1 l := by simp [pat8, stF]
/-- the bytes of a text's bits -/
theorem dig_bits (f : Nat → Nat) (m : Nat) (hf : ∀ k, f k < 2) : bits01 (dig f m) := fun x hx => by
  obtain ⟨k, _, rfl⟩ := List.mem_map.1 hx
  have := hf k
  rcases (show f k = 0 ∨ f k = 1 by omega) with h | h <;> rw [h]
  · exact .inl rfl
  · exact .inr rfl
theorem dig_getD (f : Nat → Nat) (m k : Nat) (hf : ∀ k, f k < 2) (hk : k < m) : ((dig f m).getD k 0).toNat - 48 = f k := by
  have := hf k
  rw [List.getD_eq_getElem?_getD]
  simp only [dig, List.getElem?_map, List.getElem?_range hk, Option.map_some, Option.getD_some]
  rcases (show f k = 0 ∨ f k = 1 by omega) with h | h <;> rw [h] <;> rfl
theorem by_bits (s : Tx) : byV (dig (tb s) (8 * s.length)) = (s, 0) := by
  unfold byV
  rw [bits_only (dig_bits _ _ (tb_lt s)), if_neg (by decide), dig_len, if_neg (by omega), show 8 * s.length / 8 = s.length by omega]
  congr 1
  apply List.ext_getElem
  · simp [pack]
  · intro i h1 h2
    simp only [pack, List.getElem_map, List.getElem_range]
    have e : nm (fun k => ((dig (tb s) (8 * s.length)).getD (8 * i + k) 0).toNat - 48) 8 = nm (fun k => s[i].toNat / 2 ^ k % 2) 8 := by
      apply nm_congr
      intro k hk
      rw [dig_getD _ _ _ (tb_lt s) (by omega)]
      unfold tb
      rw [show (8 * i + k) / 8 = i by omega, show (8 * i + k) % 8 = k by omega, List.getD_eq_getElem?_getD, List.getElem?_eq_getElem h2, Option.getD_some]
    rw [e, byte_nm _ (UInt8.toNat_lt _)]
    simp
/-- levels of a row, from J on -/
def lvT (row : Tx) : Tx := strOf ((List.range row.length).map (rwTn row 74))
theorem lvT_len (row : Tx) : (lvT row).length = row.length := by simp [lvT, strOf]
theorem lv_two (z : Nat) : lv 74 z = 74 ∨ lv 74 z = 75 := by
  unfold lv
  split
  · exact .inr rfl
  · exact .inl rfl
theorem lvT_get (row : Tx) (j : Nat) (h : j < row.length) : (((lvT row).getD j 0).toNat : Int) = lv 74 (zc row (j + 1)) := by
  rw [List.getD_eq_getElem?_getD]
  simp only [lvT, strOf, List.getElem?_map, List.getElem?_range h, Option.map_some, Option.getD_some, rwTn]
  rcases lv_two (zc row (j + 1)) with e | e <;> rw [e] <;> rfl
theorem lvT_jk (row : Tx) : ∀ x ∈ lvT row, x = 74 ∨ x = 75 := fun x hx => by
  obtain ⟨y, hy, rfl⟩ := List.mem_map.1 hx
  obtain ⟨j, _, rfl⟩ := List.mem_map.1 hy
  rcases lv_two (zc row (j + 1)) with e | e
  · left; show UInt8.ofNat (lv 74 (zc row (j + 1))).toNat = 74; rw [e]; rfl
  · right; show UInt8.ofNat (lv 74 (zc row (j + 1))).toNat = 75; rw [e]; rfl
theorem lv_ne (z : Nat) : lv 74 (z + 1) ≠ lv 74 z := by
  unfold lv
  by_cases h : z % 2 = 1
  · rw [if_neg (by omega), if_pos h]; decide
  · rw [if_pos (by omega), if_neg h]; decide
/-- the row of its levels -/
theorem un_turn (row : Tx) (hb : bits01 row) : strOf ((List.range (lvT row).length).map (rowU (lvT row) 74)) = row := by
  apply List.ext_getElem
  · simp [strOf, lvT_len]
  · intro j h1 h2
    simp only [strOf, List.getElem_map, List.getElem_range]
    have hp : pvL (lvT row) 74 j = lv 74 (zc row j) := by
      cases j with
      | zero => rfl
      | succ j =>
        show (((lvT row).getD j 0).toNat : Int) = _
        exact lvT_get row j (by omega)
    unfold rowU
    rw [hp, lvT_get row j h2]
    have hz : zc row (j + 1) = zc row j + if row[j].toNat = 48 then 1 else 0 := by
      show zc row j + (if (row.getD j 0).toNat = 48 then 1 else 0) = _
      rw [List.getD_eq_getElem?_getD, List.getElem?_eq_getElem h2, Option.getD_some]
    rw [hz]
    rcases hb row[j] (List.getElem_mem h2) with e | e <;> rw [e]
    · rw [show (if UInt8.toNat 48 = 48 then 1 else 0) = 1 from rfl, if_neg (lv_ne _)]; rfl
    · rw [show (if UInt8.toNat 49 = 48 then 1 else 0) = 0 from rfl, Nat.add_zero, if_pos rfl]; rfl
/-- the levels of a packet's bytes, ahead of its end -/
def sendL (s : Tx) : Tx := lvT (stF 0 (pat8 ++ dig (tb s) (8 * s.length)))
theorem row_bits (s : Tx) : bits01 (pat8 ++ dig (tb s) (8 * s.length)) := fun x hx => by
  rcases List.mem_append.1 hx with h | h
  · simp only [List.mem_cons, List.not_mem_nil, or_false] at h
    rcases h with rfl | rfl | rfl | rfl | rfl | rfl | rfl | rfl <;> simp
  · exact dig_bits _ _ (tb_lt s) x h
theorem piece_send (s : Tx) (h1 : s ≠ []) (h2 : s.length ≤ 80) : pieceV (sendL s) = (s, 0) := by
  have hb := row_bits s
  have hb2 := st_bits _ 0 hb
  have hu := un_turn _ hb2
  have hlen : 8 ≤ (sendL s).length := by
    rw [sendL, lvT_len]
    have h9 := st_ge (pat8 ++ dig (tb s) (8 * s.length)) 0
    rw [List.length_append, show pat8.length = 8 from rfl] at h9; omega
  have hjk : onlyB (sendL s) [74, 75] = true := List.all_eq_true.2 fun x hx => by
    rcases lvT_jk _ x hx with rfl | rfl <;> rfl
  have ht := take8 (sendL s) hlen (lvT_jk _)
  have hrow : strOf ((List.range (sendL s).length).map (rowU (sendL s) 74)) = stF 0 (pat8 ++ dig (tb s) (8 * s.length)) := hu
  rw [hrow, st_pat] at ht
  have hp : (List.take 8 (pat8 ++ stF 1 (dig (tb s) (8 * s.length))) == pat8) = true := by simp [pat8]
  rw [hp] at ht
  unfold pieceV
  rw [hjk, if_neg (by decide), if_neg (by
    rintro (h | h)
    · omega
    · rw [← ht] at h; cases h), hrow]
  have hun : unV2 (stF 0 (pat8 ++ dig (tb s) (8 * s.length))) = (pat8 ++ dig (tb s) (8 * s.length), 0) := by
    unfold unV2
    rw [bits_only hb2, if_neg (by decide), un_st _ 0 _ (by omega) hb, List.nil_append]
  unfold pcV
  rw [hun]
  have hd : (pat8 ++ dig (tb s) (8 * s.length)).drop 8 = dig (tb s) (8 * s.length) := by simp [pat8]
  simp only [hd, by_bits]
  rw [if_neg (by decide), if_neg (by decide), if_neg h1, if_neg (by omega)]
theorem send_head (s : Tx) : ∃ t, sendL s = 75 :: t := by
  have hl : 0 < (sendL s).length := by
    rw [sendL, lvT_len]
    have h9 := st_ge (pat8 ++ dig (tb s) (8 * s.length)) 0
    rw [List.length_append, show pat8.length = 8 from rfl] at h9; omega
  obtain ⟨c, t, e⟩ := List.exists_cons_of_length_pos hl
  have h := lvT_get (stF 0 (pat8 ++ dig (tb s) (8 * s.length))) 0 (by rw [← lvT_len]; exact hl)
  have h' : (((sendL s).getD 0 0).toNat : Int) = lv 74 (zc (stF 0 (pat8 ++ dig (tb s) (8 * s.length))) 1) := h
  rw [e, st_pat] at h'
  have hz : lv 74 (zc (pat8 ++ stF 1 (dig (tb s) (8 * s.length))) 1) = 75 := by simp [pat8, zc, lv]
  rw [hz] at h'
  have hc : c = 75 := by
    apply UInt8.toNat_inj.1
    have : (c.toNat : Int) = 75 := h'
    show c.toNat = 75
    omega
  exact ⟨t, by rw [e, hc]⟩
theorem send_len (s : Tx) (h : s.length ≤ 80) : (sendL s).length + 3 ≤ 1000 := by
  rw [sendL, lvT_len]
  have := st_len7 (pat8 ++ dig (tb s) (8 * s.length)) 0 (by omega)
  simp only [List.length_append, dig_len, List.length_cons, List.length_nil] at this
  omega
/-! hearing -/
theorem endJ_iff (r : Tx) : endJ r = true ↔ ∃ p, r = p ++ [48, 48, 74] := by
  unfold endJ
  rw [Bool.and_eq_true, decide_eq_true_iff, beq_iff_eq]
  constructor
  · rintro ⟨h1, h2⟩
    exact ⟨r.take (r.length - 3), by rw [← h2, List.take_append_drop]⟩
  · rintro ⟨p, rfl⟩
    simp
theorem endJ_no (r : Tx) (h : ∀ x ∈ r, x = 74 ∨ x = 75) (c : UInt8) : endJ (r ++ [c]) = false := by
  rw [Bool.eq_false_iff, ne_eq, endJ_iff]
  rintro ⟨p, e⟩
  have e2 : r ++ [c] = (p ++ [48, 48]) ++ [74] := by simpa using e
  obtain ⟨e3, -⟩ := List.append_inj' e2 rfl
  have := h 48 (by rw [e3]; simp)
  rcases this with h | h <;> exact absurd h (by decide)
theorem endJ_no2 (r : Tx) (h : ∀ x ∈ r, x = 74 ∨ x = 75) : endJ (r ++ [48] ++ [48]) = false := by
  rw [Bool.eq_false_iff, ne_eq, endJ_iff]
  rintro ⟨p, e⟩
  have e2 : (r ++ [48]) ++ [48] = (p ++ [48, 48]) ++ [74] := by simpa using e
  obtain ⟨-, e3⟩ := List.append_inj' e2 rfl
  exact absurd e3 (by decide)
theorem hear_keep (rest l : Tx) (c : UInt8) (out : HOut) (h1 : rest ≠ [] ∨ c ≠ 74) (h2 : endJ (rest ++ [c]) = false) (h3 : rest.length + 1 ≤ 1000) : hearV rest (c :: l) out = hearV (rest ++ [c]) l out := by
  have e1 : ((((c.toNat : Nat) : Int) == 74) && ((rest.length : Int) == 0)) = false := by
    rw [Bool.and_eq_false_iff]
    rcases h1 with h | h
    · right
      have : rest.length ≠ 0 := fun e => h (List.length_eq_zero_iff.1 e)
      rw [beq_eq_false_iff_ne]; omega
    · left
      rw [beq_eq_false_iff_ne]
      intro e
      apply h
      apply UInt8.toNat_inj.1
      show c.toNat = 74
      omega
  have e3 : decide ((((rest ++ [c]).length : Nat) : Int) > 1000) = false := decide_eq_false (by simp; omega)
  rw [hearV, e1, h2, e3]
  rfl
theorem hear_end (rest l : Tx) (out : HOut) (h : ∀ x ∈ rest, x = 74 ∨ x = 75) (hr : rest ≠ []) (h3 : rest.length + 3 ≤ 1000) : hearV rest (48 :: 48 :: 74 :: l) out = hearV [] l (out ++ [pieceV rest]) := by
  rw [hear_keep rest _ 48 out (.inl hr) (endJ_no rest h 48) (by omega),
    hear_keep (rest ++ [48]) _ 48 out (.inl (by simp)) (endJ_no2 rest h) (by simp; omega)]
  have e : endJ (rest ++ [48] ++ [48] ++ [74]) = true := (endJ_iff _).2 ⟨rest, by simp⟩
  have e1 : (((((74 : UInt8).toNat : Nat) : Int) == 74) && (((rest ++ [48] ++ [48] : Tx).length : Int) == 0)) = false := by
    rw [Bool.and_eq_false_iff]; right; rw [beq_eq_false_iff_ne]; simp; omega
  rw [hearV, e1, e]
  simp
theorem hear_row : ∀ (T rest l : Tx) (out : HOut), (∀ x ∈ rest, x = 74 ∨ x = 75) → (∀ x ∈ T, x = 74 ∨ x = 75) → rest ≠ [] → rest.length + T.length + 3 ≤ 1000 →
    hearV rest (T ++ 48 :: 48 :: 74 :: l) out = hearV [] l (out ++ [pieceV (rest ++ T)])
  | [], rest, l, out, h1, _, h3, h4 => by
    rw [List.append_nil, List.nil_append, hear_end rest l out h1 h3 (by simpa using h4)]
  | c :: T, rest, l, out, h1, h2, h3, h4 => by
    simp only [List.length_cons] at h4
    rw [List.cons_append, hear_keep rest _ c out (.inl h3) (endJ_no rest h1 c) (by omega),
      hear_row T (rest ++ [c]) l out (fun x hx => by
        rcases List.mem_append.1 hx with h | h
        · exact h1 x h
        · exact h2 x (by simp at h; simp [h])) (fun x hx => h2 x (by simp [hx])) (by simp) (by simp; omega)]
    simp
/-- a packet that is sent is heard -/
theorem hear_send (s l : Tx) (out : HOut) (h1 : s ≠ []) (h2 : s.length ≤ 80) : hearV [] (sendL s ++ 48 :: 48 :: 74 :: l) out = hearV [] l (out ++ [(s, 0)]) := by
  obtain ⟨t, e⟩ := send_head s
  have hj := lvT_jk (stF 0 (pat8 ++ dig (tb s) (8 * s.length)))
  have hj' : ∀ x ∈ sendL s, x = 74 ∨ x = 75 := hj
  have hl := send_len s h2
  have hp := piece_send s h1 h2
  rw [e] at hj' hl hp ⊢
  simp only [List.length_cons] at hl
  rw [List.cons_append, hear_keep [] _ 75 out (.inr (by decide)) (endJ_no [] (by simp) 75) (by simp)]
  rw [List.nil_append, hear_row t [75] l out (by simp) (fun x hx => hj' x (by simp [hx])) (by simp) (by simp; omega)]
  rw [show [75] ++ t = 75 :: t from rfl, hp]
theorem hear_all : ∀ (L : List Tx) (out : HOut), (∀ s ∈ L, s ≠ [] ∧ s.length ≤ 80) → hearV [] (L.flatMap fun s => sendL s ++ [48, 48, 74]) out = ([], out ++ L.map fun s => (s, (0 : Int)))
  | [], out, _ => by simp [hearV]
  | s :: L, out, h => by
    have hs := h s (by simp)
    rw [List.flatMap_cons, List.append_assoc]
    show hearV [] (sendL s ++ 48 :: 48 :: 74 :: L.flatMap fun s => sendL s ++ [48, 48, 74]) out = _
    rw [hear_send s _ out hs.1 hs.2, hear_all L _ (fun x hx => h x (by simp [hx]))]
    simp
theorem hear_app : ∀ (a rest b : Tx) (out : HOut), hearV rest (a ++ b) out = hearV (hearV rest a out).1 b (hearV rest a out).2
  | [], rest, b, out => rfl
  | c :: a, rest, b, out => by
    simp only [List.cons_append, hearV]
    cases ((((c.toNat : Nat) : Int) == 74) && ((rest.length : Int) == 0)) with
    | true => exact hear_app a _ b _
    | false =>
      cases endJ (rest ++ [c]) with
      | true => exact hear_app a _ b _
      | false =>
        cases decide ((((rest ++ [c]).length : Nat) : Int) > 1000) with
        | true => exact hear_app a _ b _
        | false => exact hear_app a _ b _
theorem hear_out : ∀ (l rest : Tx) (out : HOut), hearV rest l out = ((hearV rest l []).1, out ++ (hearV rest l []).2)
  | [], rest, out => by simp [hearV]
  | c :: l, rest, out => by
    simp only [hearV]
    cases ((((c.toNat : Nat) : Int) == 74) && ((rest.length : Int) == 0)) with
    | true => exact hear_out l _ out
    | false =>
      cases endJ (rest ++ [c]) with
      | true =>
        simp only [cond_false, cond_true]
        rw [hear_out l [] (out ++ _), hear_out l [] ([] ++ _)]; simp
      | false =>
        cases decide ((((rest ++ [c]).length : Nat) : Int) > 1000) with
        | true =>
          simp only [cond_false, cond_true]
          rw [hear_out l [] (out ++ _), hear_out l [] ([] ++ _)]; simp
        | false => exact hear_out l _ out
/-- what is left is at most what lies there -/
theorem hear_rest_le : ∀ (l rest : Tx) (out : HOut), (hearV rest l out).1.length ≤ rest.length + l.length
  | [], rest, out => by simp [hearV]
  | c :: l, rest, out => by
    simp only [hearV]
    cases ((((c.toNat : Nat) : Int) == 74) && ((rest.length : Int) == 0)) with
    | true => have h9 := hear_rest_le l [] out; simp only [cond_true, List.length_cons, List.length_nil] at h9 ⊢; omega
    | false =>
      cases endJ (rest ++ [c]) with
      | true => have h9 := hear_rest_le l [] (out ++ [pieceV ((rest ++ [c]).take ((rest ++ [c]).length - 3))]); simp only [cond_true, cond_false, List.length_cons, List.length_nil] at h9 ⊢; omega
      | false =>
        cases decide ((((rest ++ [c]).length : Nat) : Int) > 1000) with
        | true => have h9 := hear_rest_le l [] (out ++ [([], 2)]); simp only [cond_true, cond_false, List.length_cons, List.length_nil] at h9 ⊢; omega
        | false => have := hear_rest_le l (rest ++ [c]) out; simp only [cond_false, List.length_cons, List.length_append, List.length_nil] at this ⊢; omega
/-- what is left is of the same signs -/
theorem hear_mem (p : UInt8 → Prop) : ∀ (l rest : Tx) (out : HOut), (∀ x ∈ l, p x) → (∀ x ∈ rest, p x) → ∀ x ∈ (hearV rest l out).1, p x
  | [], rest, out, _, hr => fun x hx => hr x (by simpa [hearV] using hx)
  | c :: l, rest, out, hl, hr => by
    have hl' : ∀ x ∈ l, p x := fun x hx => hl x (by simp [hx])
    have h0 : ∀ x ∈ ([] : Tx), p x := fun x hx => by cases hx
    have h1 : ∀ x ∈ rest ++ [c], p x := fun x hx => by
      rcases List.mem_append.1 hx with h | h
      · exact hr x h
      · exact hl x (by simp at h; simp [h])
    simp only [hearV]
    cases ((((c.toNat : Nat) : Int) == 74) && ((rest.length : Int) == 0)) with
    | true => exact hear_mem p l [] out hl' h0
    | false =>
      cases endJ (rest ++ [c]) with
      | true => exact hear_mem p l [] _ hl' h0
      | false =>
        cases decide ((((rest ++ [c]).length : Nat) : Int) > 1000) with
        | true => exact hear_mem p l [] _ hl' h0
        | false => exact hear_mem p l _ out hl' h1
end Go.Proofs.YtbpjinefbnlenaaGreatDoor
