/- Stuff and Unstuff on both sides; in plain Lean. -/
import Derived.Test.YtekmnhplhoejdaaDoorSStuff
import Derived.Test.YtekmnhplhoejdaaDoorAm22
import Derived.Test.YtekmnhplhoejdaaDoorAm26
namespace Go.Proofs.YtekmnhplhoejdaaDoor
open Go Go.RowKit
set_option linter.unusedVariables false

theorem drop_getD (s : Tx) (k : Nat) (h : k < s.length) : s.drop k = s.getD k 0 :: s.drop (k + 1) := by
  rw [List.drop_eq_getElem_cons h]; simp [List.getD_eq_getElem?_getD, h]
theorem strOf_one (c : UInt8) : strOf [((c.toNat : Nat) : Int)] = [c] := by simp [strOf]
theorem is48 (c : UInt8) : (((c.toNat : Nat) : Int) == 48) = decide (c = 48) := by
  by_cases h : c = 48
  · subst h; rfl
  · rw [decide_eq_false h]
    refine beq_eq_false_iff_ne.2 fun e => h ?_
    apply UInt8.toNat.inj
    show c.toNat = 48
    omega
theorem is49 (c : UInt8) : (((c.toNat : Nat) : Int) == 49) = decide (c = 49) := by
  by_cases h : c = 49
  · subst h; rfl
  · rw [decide_eq_false h]
    refine beq_eq_false_iff_ne.2 fun e => h ?_
    apply UInt8.toNat.inj
    show c.toNat = 49
    omega
def stV (row : Tx) : Tx × Int := if onlyB row [48, 49] = false then ([], 1) else (stF 0 row, 0)
def unV2 (row : Tx) : Tx × Int := if onlyB row [48, 49] = false then ([], 1) else unF 0 row []
theorem stuffP (n : Nat) (row : Tx) (hs : row.length ≤ 9000000) (hn : row.length + 100 < n) : loopF (F103_l31 n row) n (0, 0, true, []) = some (stF 0 row, 0) := by
  refine (loopF_eq (F103_l31 n row) (fun d => some (strOf d.2.2.2 ++ stF d.1.toNat (row.drop d.2.1.toNat), 0)) (fun d => ∃ o x : Nat, ∃ z : Bool, ∃ m : List Int, d = ((o : Int), (x : Int), z, m) ∧ o ≤ 5 ∧ x ≤ row.length ∧ m.length ≤ 2 * x) (fun d => row.length - d.2.1.toNat) ?_ n _ ⟨0, 0, true, [], rfl, by omega, by omega, by simp⟩ (by simp; omega)).trans ?_
  · rintro kk d ⟨o, x, z, m, rfl, ho, hx, hm⟩ ih
    simp only [F103_l31, F103_j35, F103_j36, F103_j40, Int.toNat_natCast]
    by_cases hxl : x < row.length
    · have ed := drop_getD row x hxl
      obtain ⟨c, hc⟩ : ∃ c, row.getD x 0 = c := ⟨_, rfl⟩
      rw [hc] at ed
      simp only [hc]
      have l1 : (m ++ [((c.toNat : Nat) : Int)]).length = m.length + 1 := by simp
      have a1 : ((x : Int) + 1) = ((x + 1 : Nat) : Int) := by omega
      rw [decide_eq_true (show (x : Int) < ((row.length : Nat) : Int) by omega), inb_true (by omega) (by omega), l1, decide_eq_true (show m.length + [((c.toNat : Nat) : Int)].length ≤ 140737488355328 by simp only [List.length_cons, List.length_nil]; omega),
        decide_eq_true (show m.length + 1 + ([48] : List Int).length ≤ 140737488355328 by simp only [List.length_cons, List.length_nil]; omega), w64 (n := (x : Int) + 1) (by omega) (by omega), w64 (n := (o : Int) + 1) (by omega) (by omega), is48, a1, ed]
      simp only [cond_true, stF]
      have k0 : ∀ z2 : Bool, kk (0, ((x + 1 : Nat) : Int), z2, m ++ [((c.toNat : Nat) : Int)]) = some (strOf m ++ (c :: stF 0 (row.drop (x + 1))), 0) := by
        intro z2
        rw [ih (0, ((x + 1 : Nat) : Int), z2, _) ⟨0, x + 1, z2, _, rfl, by omega, by omega, by simp; omega⟩ (by simp only [Int.toNat_natCast]; omega)]
        simp only [strOf_app, strOf_one, Int.toNat_natCast, List.append_assoc]; rfl
      have k6 : ∀ z2 : Bool, kk (0, ((x + 1 : Nat) : Int), z2, m ++ [((c.toNat : Nat) : Int)] ++ [48]) = some (strOf m ++ (c :: 48 :: stF 0 (row.drop (x + 1))), 0) := by
        intro z2
        rw [ih (0, ((x + 1 : Nat) : Int), z2, _) ⟨0, x + 1, z2, _, rfl, by omega, by omega, by simp; omega⟩ (by simp only [Int.toNat_natCast]; omega)]
        simp only [strOf_app, strOf_one, Int.toNat_natCast, List.append_assoc]; rfl
      have k1 : ∀ z2 : Bool, o ≠ 5 → kk (((o : Int) + 1), ((x + 1 : Nat) : Int), z2, m ++ [((c.toNat : Nat) : Int)]) = some (strOf m ++ (c :: stF (o + 1) (row.drop (x + 1))), 0) := by
        intro z2 h5
        rw [show (o : Int) + 1 = ((o + 1 : Nat) : Int) by omega, ih _ ⟨o + 1, x + 1, z2, _, rfl, by omega, by omega, by simp; omega⟩ (by simp only [Int.toNat_natCast]; omega)]
        simp only [strOf_app, strOf_one, Int.toNat_natCast, List.append_assoc]; rfl
      by_cases h48 : c = 48
      · rw [decide_eq_true h48, if_pos h48]
        simp only [cond_true, show ((0 : Int) == 6) = false from rfl, cond_false, k0]
        cases z <;> rfl
      · rw [decide_eq_false h48, if_neg h48]
        simp only [cond_false]
        by_cases h5 : o = 5
        · subst h5
          rw [if_pos rfl, show ((((5 : Nat) : Int) + 1) == 6) = true from rfl]
          simp only [cond_true, k6]
          cases z <;> rfl
        · rw [if_neg h5, show (((o : Int) + 1) == 6) = false from beq_eq_false_iff_ne.2 (by omega)]
          simp only [cond_false, k1 _ h5]
          cases z <;> rfl
    · rw [decide_eq_false (by omega), List.drop_of_length_le (by omega)]
      simp [stF]
  · simp [strOf]
theorem stuffPV (n : Nat) (hn : 140737488355338 < n) (row : Tx) (hs : row.length ≤ 9000000) : F103 n row = some (stV row) := by
  unfold F103 stV
  rw [isP n row _ (by omega) (by decide) (by decide)]
  simp only [Option.bind_some]
  cases ho : onlyB row [48, 49] with
  | false => rfl
  | true => simp only [Bool.not_true, cond_false]; exact stuffP n row hs (by omega)
theorem map_step (f : Tx → Tx) (l : List Tx) (k : Nat) (hk : k < l.length) : ((l.take k).map f ++ l.drop k).set k (f (l.getD k [])) = (l.take (k + 1)).map f ++ l.drop (k + 1) := by
  have hl : ((l.take k).map f).length = k := by simp; omega
  rw [List.set_append_right _ _ (by omega), hl, Nat.sub_self, List.drop_eq_getElem_cons hk, List.set_cons_zero, List.take_add_one]
  simp only [Option.toList_some, List.map_append, List.map_cons, List.map_nil, List.append_assoc, List.cons_append, List.nil_append, List.getD_eq_getElem?_getD, List.getElem?_eq_getElem hk, Option.getD_some]
theorem stuffRV (n : Nat) (hn : 140737488355338 < n) (row : Tx) (hs : row.length ≤ 9000000) : F106 n row = some (stV row) := by
  unfold F106 stV
  rw [onlyP n row _ (by omega) hn]
  simp only [Option.bind_some]
  cases ho : onlyB row [48, 49] with
  | false => rfl
  | true =>
    obtain ⟨e1, e2, e3, e4⟩ := split_law row.length row (Nat.le_refl _) (bits_of ho)
    simp only [Bool.not_true, cond_false, F50]
    rw [decide_eq_true (show row.length < 4294967281 ∧ 1 ≤ ([48] : Tx).length from ⟨by omega, by decide⟩)]
    simp only [cond_true, Option.bind_some]
    generalize Lib.split row [48] = L at e1 e2 e3 e4
    refine (loopF_eq (F106_l2 n L) (fun _ => some (stF 0 row, 0)) (fun d => ∃ k : Nat, k ≤ L.length ∧ d = ((k : Int), (L.take k).map repR ++ L.drop k)) (fun d => L.length - d.1.toNat) ?_ n (0, L) ⟨0, by omega, rfl⟩ (by simp; omega)).trans ?_
    · rintro kk d ⟨k, hk, rfl⟩ ih
      have hlen : ((L.take k).map repR ++ L.drop k).length = L.length := by simp; omega
      simp only [F106_l2, Int.toNat_natCast, F135, F45]
      by_cases hkl : k < L.length
      · have hg : ((L.take k).map repR ++ L.drop k).getD k [] = L.getD k [] := by
          have hl : ((L.take k).map repR).length = k := by simp; omega
          rw [List.getD_eq_getElem?_getD, List.getElem?_append_right (by omega), hl, Nat.sub_self, List.getElem?_drop]; rfl
        have hmem : L.getD k [] ∈ L := by rw [List.getD_eq_getElem?_getD, List.getElem?_eq_getElem hkl]; exact List.getElem_mem hkl
        have ha := e4 _ hmem
        have hcnt := Lib.count_le (L.getD k []) S6
        simp only [hg]
        rw [decide_eq_true (show (k : Int) < ((L.length : Nat) : Int) by omega), inb_true (by omega) (by rw [hlen]; omega), w64 (n := (k : Int) + 1) (by omega) (by omega),
          decide_eq_true (show (L.getD k []).length < 4294967281 ∧ 1 ≤ S6.length ∧ (L.getD k []).length + Lib.count (L.getD k []) S6 * S7.length ≤ 140737488355328 from ⟨by omega, by decide, by
            show (L.getD k []).length + Lib.count (L.getD k []) S6 * 7 ≤ 140737488355328
            omega⟩)]
        simp only [cond_true, Option.bind_some]
        refine ih _ ⟨k + 1, by omega, ?_⟩ (by simp only; omega)
        rw [← map_step repR L k hkl]; rfl
      · obtain rfl : k = L.length := by omega
        have hj := stF_len row 0
        rw [decide_eq_false (by omega), List.take_length, List.drop_length, List.append_nil, e1, decide_eq_true (show (stF 0 row).length ≤ 140737488355328 ∧ (L.map repR).length ≤ 140737488355328 from ⟨by omega, by rw [List.length_map]; omega⟩)]
        rfl
    · rfl
/-! Unstuff -/
theorem take_six {s : Tx} {i : Nat} (h : Lib.index s S6 = (i : Int)) : s.take i ++ S6 = s.take (i + 6) ∧ i + 6 ≤ s.length := by
  have hr := Lib.index_room s S6 (by omega)
  rw [h] at hr
  have hl : S6.length = 6 := rfl
  rcases Lib.index_spec s S6 with ⟨h1, _⟩ | ⟨j, h1, _, h2, _⟩
  · omega
  · obtain rfl : i = j := by omega
    rw [Lib.occAt_iff_take s S6 i (by omega), hl] at h2
    have e := beq_iff_eq.1 h2
    refine ⟨?_, by omega⟩
    rw [List.take_add, e]
end Go.Proofs.YtekmnhplhoejdaaDoor
