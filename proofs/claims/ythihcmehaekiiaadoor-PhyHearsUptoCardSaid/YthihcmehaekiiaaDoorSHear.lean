/- Hearing: levels are gathered until a packet ends, or is too long; in plain Lean. -/
import Derived.Test.YthihcmehaekiiaaDoorSPhy
namespace Go.Proofs.YthihcmehaekiiaaDoor
open Go Go.RowKit
set_option linter.unusedVariables false

/-- does a packet end here? -/
def endJ (r : Tx) : Bool := decide (3 ≤ r.length) && (r.drop (r.length - 3) == [48, 48, 74])
abbrev HOut := List (Tx × Int)
/-- what is left, what was heard -/
def hearV : Tx → Tx → HOut → Tx × HOut
  | rest, [], out => (rest, out)
  | rest, c :: l, out =>
    bif ((((c.toNat : Nat) : Int) == 74) && ((rest.length : Int) == 0)) then hearV [] l out else
      bif endJ (rest ++ [c]) then hearV [] l (out ++ [pieceV ((rest ++ [c]).take ((rest ++ [c]).length - 3))]) else
        bif decide ((((rest ++ [c]).length : Nat) : Int) > 1000) then hearV [] l (out ++ [([], 2)]) else hearV (rest ++ [c]) l out
def castI (l : Tx) : List Int := l.map fun b => ((b.toNat : Nat) : Int)
theorem strOf_cast (l : Tx) : strOf (castI l) = l := by
  unfold strOf castI
  rw [List.map_map]
  conv => rhs; rw [← List.map_id l]
  exact List.map_congr_left fun x _ => by simp
theorem castI_len (l : Tx) : (castI l).length = l.length := by simp [castI]
theorem bif_two {α : Type} (a b : Bool) (x y : α) : (bif a then (bif b then x else y) else y) = (bif (a && b) then x else y) := by cases a <;> cases b <;> rfl
theorem hearPV (n : Nat) (hn : 140737488355338 < n) (lv r0 : Tx) (hl : lv.length ≤ 1048576) (hr : r0.length ≤ 1048576) :
    loopF (F23_l2 n lv) n (0, [], castI r0) = some ((hearV r0 lv []).1, 0, (hearV r0 lv []).2) := by
  have main := loopF_eq (F23_l2 n lv) (fun d => some ((hearV (strOf d.2.2) (lv.drop d.1.toNat) d.2.1).1, 0, (hearV (strOf d.2.2) (lv.drop d.1.toNat) d.2.1).2))
    (fun d => ∃ (k : Nat) (out : HOut) (rest : Tx), d = ((k : Int), out, castI rest) ∧ k ≤ lv.length ∧ out.length ≤ k ∧ rest.length ≤ 1048576) (fun d => lv.length - d.1.toNat) ?_ n (0, [], castI r0) ⟨0, [], r0, rfl, by omega, by simp, hr⟩ (by simp; omega)
  · rw [main]; simp [strOf_cast]
  rintro kk d ⟨k, out, rest, rfl, hk, ho, hrl⟩ ih
  simp only [F23_l2, Int.toNat_natCast, strOf_cast]
  by_cases hkl : k < lv.length
  · have ed : lv.drop k = lv.getD k 0 :: lv.drop (k + 1) := by
      rw [List.drop_eq_getElem_cons hkl]; simp [List.getD_eq_getElem?_getD, hkl]
    have ek : ((k : Int) + 1).toNat = k + 1 := by omega
    rw [decide_eq_true (show (k : Int) < ((lv.length : Nat) : Int) by omega), inb_true (by omega) (by omega), ed, w64 (n := (k : Int) + 1) (by omega) (by omega)]
    have ih' : ∀ (out' : HOut) (rest' : Tx), out'.length ≤ k + 1 → rest'.length ≤ 1048576 → kk ((k : Int) + 1, out', castI rest') = some ((hearV rest' (lv.drop (k + 1)) out').1, 0, (hearV rest' (lv.drop (k + 1)) out').2) := fun out' rest' h1 h2 => by
      rw [ih _ ⟨k + 1, out', rest', by simp, by omega, h1, h2⟩ (by simp only [Int.toNat_natCast, ek]; omega)]
      simp only [strOf_cast, ek]
    clear ih
    obtain ⟨c, hc⟩ : ∃ c, lv.getD k 0 = c := ⟨_, rfl⟩
    obtain ⟨l, hl2⟩ : ∃ l, lv.drop (k + 1) = l := ⟨_, rfl⟩
    simp only [hc, hl2] at ih' ⊢
    have e0 : castI rest ++ [((c.toNat : Nat) : Int)] = castI (rest ++ [c]) := by simp [castI]
    have hrl2 : (rest ++ [c]).length = rest.length + 1 := by simp
    simp only [cond_true, e0, bif_two, castI_len, hearV]
    cases hsk : (((c.toNat : Nat) : Int) == 74) && (((rest.length : Nat) : Int) == 0) with
    | true =>
      have h0 : rest.length = 0 := by
        rw [Bool.and_eq_true] at hsk
        have := eq_of_beq hsk.2
        omega
      obtain rfl := List.length_eq_zero_iff.1 h0
      simp only [cond_true]
      exact ih' out [] (by omega) (by simp)
    | false =>
      simp only [cond_false]
      obtain ⟨r, hr2⟩ : ∃ r, rest ++ [c] = r := ⟨_, rfl⟩
      simp only [hr2] at hrl2 ⊢
      rw [show decide (rest.length + [((c.toNat : Nat) : Int)].length ≤ 140737488355328) = true from decide_eq_true (by simp only [List.length_cons, List.length_nil]; omega),
        w64 (n := ((r.length : Nat) : Int) - 3) (by omega) (by omega)]
      have h1 : ∀ x : Tx × Int, decide (out.length + [x].length ≤ 5864062014805) = true := fun x => decide_eq_true (by simp only [List.length_cons, List.length_nil]; omega)
      have h2 : ∀ m : Nat, subB m none (some (0 : Int)) = true := fun m => by simp only [subB, Bool.and_eq_true, decide_eq_true_eq]; omega
      have hB : (bif decide (((r.length : Nat) : Int) > 1000) then (bif (decide (out.length + ([(([] : Tx), (2 : Int))]).length ≤ 5864062014805) && subB r.length none (some (0 : Int))) then kk ((k : Int) + 1, out ++ [([], 2)], List.take 0 (castI r)) else none) else kk ((k : Int) + 1, out, castI r)) =
          some ((bif decide (((r.length : Nat) : Int) > 1000) then hearV [] l (out ++ [([], 2)]) else hearV r l out).1, 0, (bif decide (((r.length : Nat) : Int) > 1000) then hearV [] l (out ++ [([], 2)]) else hearV r l out).2) := by
        simp only [h1, h2, Bool.and_true, cond_true]
        by_cases hbig : ((r.length : Nat) : Int) > 1000
        · rw [decide_eq_true hbig]
          exact ih' _ [] (by simp only [List.length_append, List.length_cons, List.length_nil]; omega) (by simp)
        · rw [decide_eq_false hbig]
          exact ih' _ r (by omega) (by omega)
      simp only [cond_true]
      by_cases h3 : 3 ≤ r.length
      · have e3 : (((r.length : Nat) : Int) - 3).toNat = r.length - 3 := by omega
        have es : strOf (((castI r).take (r.length - 3 + (r.length - (r.length - 3)))).drop (r.length - 3)) = r.drop (r.length - 3) := by
          rw [show r.length - 3 + (r.length - (r.length - 3)) = r.length by omega, ← castI_len r, List.take_length]
          rw [castI_len, show (castI r).drop (r.length - 3) = castI (r.drop (r.length - 3)) by simp [castI, List.map_drop], strOf_cast]
        have ep : strOf (((castI r).take (0 + (r.length - 3))).drop 0) = r.take (r.length - 3) := by
          rw [Nat.zero_add, List.drop_zero, show (castI r).take (r.length - 3) = castI (r.take (r.length - 3)) by simp [castI, List.map_take], strOf_cast]
        rw [decide_eq_true (show ((r.length : Nat) : Int) - 3 ≥ 0 by omega), show subB r.length (some (((r.length : Nat) : Int) - 3)) none = true by simp only [subB, Bool.and_eq_true, decide_eq_true_eq]; omega,
          show subB r.length none (some (((r.length : Nat) : Int) - 3)) = true by simp only [subB, Bool.and_eq_true, decide_eq_true_eq]; omega, e3, es, ep, piecePV n hn (r.take (r.length - 3)) (by rw [List.length_take]; omega)]
        have he : endJ r = (r.drop (r.length - 3) == [48, 48, 74]) := by unfold endJ; rw [decide_eq_true h3]; rfl
        rw [he]
        cases hj : (r.drop (r.length - 3) == [48, 48, 74]) with
        | true =>
          simp only [cond_true, Option.bind_some, h1, h2]
          exact ih' _ [] (by simp only [List.length_append, List.length_cons, List.length_nil]; omega) (by simp)
        | false =>
          simp only [cond_true, cond_false]
          exact hB
      · have he : endJ r = false := by unfold endJ; rw [decide_eq_false h3]; rfl
        rw [decide_eq_false (show ¬ ((r.length : Nat) : Int) - 3 ≥ 0 by omega), he]
        simp only [cond_false]
        exact hB
  · rw [decide_eq_false (show ¬ (k : Int) < ((lv.length : Nat) : Int) by omega), List.drop_of_length_le (show lv.length ≤ k by omega)]
    simp only [cond_false, hearV]
/-! the document's way: from one end to the next -/
theorem hear_trim (l : Tx) (out : HOut) : hearV [] l out = hearV [] (Lib.trimLeftB l 74) out := by
  induction l with
  | nil => rfl
  | cons c l ih =>
    unfold Lib.trimLeftB at ih ⊢
    by_cases hc : c = 74
    · subst hc
      rw [List.dropWhile_cons_of_pos (by rfl), ← ih]
      rfl
    · rw [List.dropWhile_cons_of_neg (by simpa using hc)]
theorem trim_head (l : Tx) (h : 0 < (Lib.trimLeftB l 74).length) : (Lib.trimLeftB l 74).getD 0 0 ≠ 74 := by
  induction l with
  | nil => simp [Lib.trimLeftB] at h
  | cons c l ih =>
    unfold Lib.trimLeftB at ih h ⊢
    by_cases hc : c = 74
    · rw [List.dropWhile_cons_of_pos (by simpa using hc)] at h ⊢
      exact ih h
    · rw [List.dropWhile_cons_of_neg (by simpa using hc)]
      simpa using hc
theorem trim_len (l : Tx) : (Lib.trimLeftB l 74).length ≤ l.length := by
  unfold Lib.trimLeftB
  exact (List.dropWhile_suffix _).length_le
theorem sufP (n : Nat) (r : Tx) (hr : r.length ≤ 9223372036854775807) : F42 n r [48, 48, 74] = some (endJ r) := by
  unfold F42 F58 endJ
  have e3 : ((([48, 48, 74] : Tx).length : Nat) : Int) = 3 := rfl
  rw [e3]
  by_cases h3 : 3 ≤ r.length
  · rw [decide_eq_true (show ((r.length : Nat) : Int) ≥ 3 by omega), w64 (by omega) (by omega), show subB r.length (some (((r.length : Nat) : Int) - 3)) none = true by simp only [subB, Bool.and_eq_true, decide_eq_true_eq]; omega, decide_eq_true h3, show (((r.length : Nat) : Int) - 3).toNat = r.length - 3 by omega]
    simp
  · rw [decide_eq_false (show ¬ ((r.length : Nat) : Int) ≥ 3 by omega), decide_eq_false h3]; rfl
/-- how the sought result is spelled -/
def hres (p : Tx × HOut) : Option (Tx × Int × HOut) := some (p.1, 0, p.2)
theorem hearIn (n : Nat) (hn : 140737488355338 < n) (kk : (Tx × Int × HOut) → Option (Tx × Int × HOut)) (a : Nat) (m1 : HOut) (all : Tx) (ha : a ≤ all.length) (hal : all.length ≤ 2097152) (h2 : a ≤ 1048576) (hm : m1.length ≤ 2097152) (h0 : a = 0 → 0 < all.length → all.getD 0 0 ≠ 74)
    (hkk : ∀ (e : Nat) (out : HOut), a < e → e ≤ all.length → out.length = m1.length + 1 → kk (all.drop e, 0, out) = hres (hearV [] (all.drop e) out)) :
    F24_j23 n kk (a : Int) m1 all = hres (hearV (all.take a) (all.drop a) m1) := by
  unfold F24_j23
  refine (loopF_eq (F24_l26 n kk (a : Int) m1 all) (fun x => hres (hearV (all.take x.toNat) (all.drop x.toNat) m1)) (fun x => ∃ e : Nat, x = (e : Int) ∧ a ≤ e ∧ e ≤ all.length ∧ (e = a ∨ e < all.length) ∧ e ≤ 1048576) (fun x => all.length - x.toNat) ?_ n (a : Int) ⟨a, rfl, by omega, ha, .inl rfl, h2⟩ (by simp; omega)).trans (by simp)
  rintro k x ⟨e, rfl, hae, hel, hor, he1⟩ ih
  simp only [F24_l26, Int.toNat_natCast]
  by_cases hlt : e < all.length
  · have ed : all.drop e = all.getD e 0 :: all.drop (e + 1) := by
      rw [List.drop_eq_getElem_cons hlt]; simp [List.getD_eq_getElem?_getD, hlt]
    have et : all.take e ++ [all.getD e 0] = all.take (e + 1) := by
      rw [List.take_add_one, List.getElem?_eq_getElem hlt]; simp [List.getD_eq_getElem?_getD, hlt]
    have ek : ((e : Int) + 1).toNat = e + 1 := by omega
    have hrl : (all.take (e + 1)).length = e + 1 := by rw [List.length_take]; omega
    have hsk : ((((all.getD e 0).toNat : Nat) : Int) == 74 && (((all.take e).length : Nat) : Int) == 0) = false := by
      rw [Bool.and_eq_false_iff]
      by_cases hz : e = 0
      · left
        refine beq_eq_false_iff_ne.2 fun h => ?_
        have := h0 (by omega) (by omega)
        rw [hz] at h
        exact this (UInt8.toNat.inj (by simpa using (by omega : (all.getD 0 0).toNat = 74)))
      · right
        refine beq_eq_false_iff_ne.2 fun h => ?_
        rw [List.length_take] at h
        omega
    rw [decide_eq_true (show (e : Int) < ((all.length : Nat) : Int) by omega), w64 (n := (e : Int) + 1) (by omega) (by omega), show subB all.length none (some ((e : Int) + 1)) = true by simp only [subB, Bool.and_eq_true, decide_eq_true_eq]; omega, ed]
    simp only [cond_true, ek, hearV, hsk, et, cond_false]
    rw [sufP n _ (by omega)]
    have hj25 : ∀ out : HOut, out.length = m1.length + 1 → F24_j25 n kk (a : Int) all ((e : Int) + 1, out) = hres (hearV [] (all.drop (e + 1)) out) := fun out ho => by
      simp only [F24_j25]
      rw [show (((e : Int) + 1) == (a : Int)) = false from beq_eq_false_iff_ne.2 (by omega), show subB all.length (some ((e : Int) + 1)) none = true by simp only [subB, Bool.and_eq_true, decide_eq_true_eq]; omega]
      simp only [cond_true, cond_false, ek]
      exact hkk (e + 1) out (by omega) (by omega) ho
    have h1 : ∀ x : Tx × Int, decide (m1.length + [x].length ≤ 5864062014805) = true := fun x => decide_eq_true (by simp only [List.length_cons, List.length_nil]; omega)
    simp only [Option.bind_some]
    rw [hrl]
    cases hj : endJ (all.take (e + 1)) with
    | true =>
      have h3 : 3 ≤ e + 1 := by
        unfold endJ at hj
        rw [hrl, Bool.and_eq_true] at hj
        exact of_decide_eq_true hj.1
      rw [w64 (n := (e : Int) + 1 - 3) (by omega) (by omega), show subB all.length none (some ((e : Int) + 1 - 3)) = true by simp only [subB, Bool.and_eq_true, decide_eq_true_eq]; omega, show ((e : Int) + 1 - 3).toNat = e + 1 - 3 by omega, pieceRV n hn _ (by rw [List.length_take]; omega)]
      simp only [cond_true, Option.bind_some, h1]
      rw [hj25 _ (by simp)]
      rw [List.take_take, Nat.min_eq_left (by omega)]
    | false =>
      simp only [cond_false]
      by_cases hbig : ((e : Nat) : Int) + 1 > 1000
      · rw [decide_eq_true hbig, decide_eq_true (show (((e + 1 : Nat) : Nat) : Int) > 1000 by omega)]
        simp only [cond_true, h1]
        rw [hj25 _ (by simp)]
      · rw [decide_eq_false hbig, decide_eq_false (show ¬ (((e + 1 : Nat) : Nat) : Int) > 1000 by omega)]
        simp only [cond_false]
        by_cases hend : e + 1 = all.length
        · rw [show (((e : Int) + 1) == ((all.length : Nat) : Int)) = true from beq_iff_eq.2 (by omega)]
          simp only [cond_true]
          rw [hend, List.take_length, List.drop_length]
          rfl
        · rw [show (((e : Int) + 1) == ((all.length : Nat) : Int)) = false from beq_eq_false_iff_ne.2 (by omega)]
          simp only [cond_false]
          rw [ih _ ⟨e + 1, by simp, by omega, by omega, .inr (by omega), by omega⟩ (by simp only [Int.toNat_natCast, ek]; omega), ek]
  · obtain rfl : e = a := by omega
    rw [decide_eq_false (by omega)]
    have hq : e = all.length := by omega
    simp only [cond_false, F24_j25]
    rw [show (((e : Nat) : Int) == ((e : Nat) : Int)) = true from beq_iff_eq.2 rfl, hq, List.take_length, List.drop_length]
    rfl
theorem hearRV (n : Nat) (hn : 140737488355338 < n) (lv r0 : Tx) (hl : lv.length ≤ 1048576) (hr : r0.length ≤ 1048576) :
    loopF (F24_l22 n) n (r0 ++ lv, ((r0.length : Nat) : Int), []) = hres (hearV r0 lv []) := by
  refine (loopF_eq (F24_l22 n) (fun d => hres (hearV (d.1.take d.2.1.toNat) (d.1.drop d.2.1.toNat) d.2.2))
    (fun d => ∃ (a : Nat) (all : Tx) (out : HOut), d = (all, (a : Int), out) ∧ a ≤ all.length ∧ a ≤ 1048576 ∧ all.length ≤ 2097152 ∧ out.length + (all.length - a) ≤ 2097152) (fun d => d.1.length - d.2.1.toNat) ?_ n _ ⟨r0.length, _, [], rfl, by simp, hr, by simp; omega, by simp; omega⟩ (by simp; omega)).trans (by simp)
  rintro kk d ⟨a, all, out, rfl, ha, ha1, hal, ho⟩ ih
  simp only [F24_l22, Int.toNat_natCast]
  have go : ∀ all2 : Tx, all2.length ≤ all.length → a ≤ all2.length → (a = 0 → 0 < all2.length → all2.getD 0 0 ≠ 74) → F24_j23 n kk (a : Int) out all2 = hres (hearV (all2.take a) (all2.drop a) out) := fun all2 h1 h2 h3 => by
    refine hearIn n hn kk a out all2 h2 (by omega) ha1 (by omega) h3 fun e out' he hel ho' => ?_
    have := ih (all2.drop e, ((0 : Nat) : Int), out') ⟨0, _, out', rfl, by omega, by omega, by rw [List.length_drop]; omega, by rw [List.length_drop]; omega⟩ (by simp only [List.length_drop, Int.toNat_natCast]; omega)
    simpa using this
  by_cases h0 : a = 0
  · subst h0
    rw [show (((0 : Nat) : Int) == 0) = true from rfl]
    unfold F41
    rw [decide_eq_true (show ([74] : Tx).length = 1 ∧ (([74] : Tx).headD 0).toNat < 128 from ⟨rfl, by decide⟩)]
    simp only [cond_true, Option.bind_some, List.headD_cons]
    rw [go _ (trim_len all) (by omega) (fun _ h => trim_head all h)]
    simp only [List.take_zero, List.drop_zero]
    rw [← hear_trim]
  · rw [show (((a : Nat) : Int) == 0) = false from beq_eq_false_iff_ne.2 (by omega)]
    simp only [cond_false]
    exact go all (Nat.le_refl _) ha (fun h => absurd h h0)
theorem eqHeard (n : Nat) (a : HOut) (ha : a.length ≤ 100000000) (hn : 100000001 < n) : F25 n a a = some true := by
  unfold F25
  rw [show ((((a.length : Nat) : Int)) != ((a.length : Nat) : Int)) = false by simp, cond_false]
  refine loopF_eq (F25_l2 n a a) (fun _ => some true) (fun x => ∃ k : Nat, x = (k : Int) ∧ k ≤ a.length) (fun x => a.length - x.toNat) ?_ n 0 ⟨0, rfl, by omega⟩ (by simp; omega)
  rintro kk x ⟨k, rfl, hk⟩ ih
  simp only [F25_l2, Int.toNat_natCast, Sh.beq_self, Bool.not_true, cond_false]
  by_cases hkl : k < a.length
  · rw [decide_eq_true (by omega), inb_true (by omega) (by omega), w64 (by omega) (by omega)]
    exact ih _ ⟨k + 1, by simp, by omega⟩ (by simp only [Int.toNat_natCast]; omega)
  · rw [decide_eq_false (by omega)]; rfl
theorem hearV_len : ∀ (l rest : Tx) (out : HOut), (hearV rest l out).2.length ≤ out.length + l.length
  | [], rest, out => by simp [hearV]
  | c :: l, rest, out => by
    have h := hearV_len l
    simp only [hearV, List.length_cons]
    generalize (((c.toNat : Nat) : Int) == 74 && ((rest.length : Nat) : Int) == 0) = b1
    generalize endJ (rest ++ [c]) = b2
    generalize decide ((((rest ++ [c]).length : Nat) : Int) > 1000) = b3
    cases b1 <;> cases b2 <;> cases b3 <;> simp only [cond_true, cond_false] <;> refine Nat.le_trans (h _ _) ?_ <;> simp <;> omega
theorem hearsN (n : Nat) (hn : 140737488355338 < n) (r0 lv : Tx) (hl : lv.length ≤ 1048576) (hr : r0.length ≤ 1048576) : F7 n r0 lv = some true := by
  unfold F7
  have e1 : F23 n r0 lv = if onlyB (lv ++ r0) [74, 75, 48] = true then hres (hearV r0 lv []) else some (r0, 1, []) := by
    unfold F23
    have hT : ∀ s : Tx, s.length ≤ 1048576 → F40 n s [74, 75, 48] = some (Lib.trimS s [74, 75, 48]) := fun s hs => by
      unfold F40
      rw [decide_eq_true (show s.length ≤ 9223372036854775807 ∧ ([74, 75, 48] : Tx).length < 4294967281 ∧ (([74, 75, 48] : Tx).all fun b => decide (b.toNat < 128)) = true from ⟨by omega, by decide, by decide⟩)]; rfl
    rw [hT lv hl, hT r0 hr]
    simp only [Option.bind_some, trim_only]
    have ha : onlyB (lv ++ r0) [74, 75, 48] = (onlyB lv [74, 75, 48] && onlyB r0 [74, 75, 48]) := by unfold onlyB; rw [List.all_append]
    rw [ha]
    cases onlyB lv [74, 75, 48] with
    | false => rfl
    | true =>
      cases onlyB r0 [74, 75, 48] with
      | false => rfl
      | true =>
        rw [decide_eq_true (show r0.length ≤ 140737488355328 by omega)]
        exact hearPV n hn lv r0 hl hr
  have e2 : F24 n r0 lv = if onlyB (lv ++ r0) [74, 75, 48] = true then hres (hearV r0 lv []) else some (r0, 1, []) := by
    unfold F24
    rw [decide_eq_true (show lv.length + r0.length ≤ 9223372036854775807 by omega), decide_eq_true (show r0.length + lv.length ≤ 9223372036854775807 by omega), onlyP n _ _ (by rw [List.length_append]; omega) hn]
    simp only [cond_true, Option.bind_some]
    cases onlyB (lv ++ r0) [74, 75, 48] with
    | false => rfl
    | true => exact hearRV n hn lv r0 hl hr
  rw [e1, e2]
  cases onlyB (lv ++ r0) [74, 75, 48] with
  | false =>
    rw [if_neg (by simp)]
    simp only [Option.bind_some, Sh.beq_self, cond_true]
    rw [eqHeard n [] (by simp) (by omega)]; rfl
  | true =>
    have := hearV_len lv r0 []
    simp only [List.length_nil, Nat.zero_add] at this
    rw [if_pos rfl]
    simp only [hres, Option.bind_some, Sh.beq_self, cond_true]
    rw [eqHeard n _ (by omega) (by omega)]; rfl
theorem phyHears_says (a0 : Sh.T (.st .str)) (g0 : Sh.good (.st .str) a0) (u0 : Sh.bulk (.st .str) a0 ≤ 1048576) (a1 : Sh.T .str) (g1 : Sh.good .str a1) (u1 : Sh.bulk .str a1 ≤ 1048576) : ∃ n, F7 n a0 a1 = some true := by
  have h0 : List.length a0 ≤ 1048576 := by simp only [Sh.bulk] at u0; omega
  have h1 : List.length a1 ≤ 1048576 := by simp only [Sh.bulk] at u1; omega
  exact ⟨1125899906842624, hearsN _ (by omega) a0 a1 h1 h0⟩
end Go.Proofs.YthihcmehaekiiaaDoor
