/- Texts of a configuration, in plain Lean. -/
import Derived.Test.YtghbnolfadnoaaaGreatFgm
import Derived.Test.YtghbnolfadnoaaaGreatAm26
namespace Go.Proofs.YtghbnolfadnoaaaGreat
open Go Go.RowKit
set_option linter.unusedVariables false
abbrev CTx := List UInt8
abbrev CK := Int × Bool
abbrev CEnd := Int × Bool × Int × Int × Int
abbrev CFace := Int × Int × Int × Int × List CTx × List CEnd
abbrev CM := List (CK × Bool)
theorem dropC {α : Type} (l : List α) (k : Nat) (z : α) (h : k < l.length) : l.drop k = l.getD k z :: l.drop (k + 1) := by
 rw [List.drop_eq_getElem_cons h]; simp [List.getD_eq_getElem?_getD, h]
theorem takeD {α : Type} (l : List α) (k : Nat) (z : α) (h : k < l.length) : l.take (k + 1) = l.take k ++ [l.getD k z] := by
 rw [List.take_add_one, List.getD_eq_getElem?_getD]; simp [h]
def inR2 (most x : Int) : Prop := 0 ≤ x ∧ x ≤ most
instance (most x : Int) : Decidable (inR2 most x) := by unfold inR2; infer_instance
def allIn (most : Int) (l : List Int) : Bool := l.all fun x => decide (inR2 most x)
theorem withinV (n : Nat) (most : Int) (l : List Int) (hn : l.length + 1 < n) (hl : l.length ≤ 1000000) : F52 n most l = some (allIn most l) := by
 unfold F52
 refine (loopF_eq (F52_l2 n most l) (fun x => some (allIn most (l.drop x.toNat))) (fun x => ∃ k : Nat, x = (k : Int) ∧ k ≤ l.length) (fun x => l.length - x.toNat) ?_ n 0 ⟨0, rfl, by omega⟩ (by simp; omega)).trans (by simp)
 rintro kk x ⟨k, rfl, hk⟩ ih
 simp only [F52_l2, Int.toNat_natCast]
 by_cases hkl : k < l.length
 ·have ek : ((k : Int) + 1).toNat = k + 1 := by omega
  have ih' := ih ((k : Int) + 1) ⟨k + 1, by omega, by omega⟩ (by simp only [Int.toNat_natCast, ek]; omega)
  rw [decide_eq_true (show (k : Int) < (l.length : Int) by omega), inb_true (by omega) (by omega), w64 (n := (k : Int) + 1) (by omega) (by omega), ih', ek, dropC l k 0 hkl]
  simp only [cond_true, allIn, List.all_cons]
  by_cases h1 : l.getD k 0 < 0
  ·rw [decide_eq_true h1, decide_eq_false (show ¬ inR2 most (l.getD k 0) by unfold inR2; omega)]; rfl
  ·rw [decide_eq_false h1]
   by_cases h2 : l.getD k 0 > most
   ·rw [decide_eq_true h2, decide_eq_false (show ¬ inR2 most (l.getD k 0) by unfold inR2; omega)]; rfl
   ·rw [decide_eq_false h2, decide_eq_true (show inR2 most (l.getD k 0) by unfold inR2; omega)]; rfl
 ·rw [decide_eq_false (by omega), List.drop_of_length_le (by omega)]; rfl
theorem bytesB (n : Nat) (l : List Int) (hn : l.length + 1 < n) (hl : l.length ≤ 1000000) : F51 n l = some (allIn 255 l) := by
 unfold F51
 rw [withinV n 255 l hn hl]; rfl
def wb (l : List Int) : List Int := l.map fun x => IntKind.wrap .u8 x
def putV (l : List Int) : CTx := strOf (wb l)
theorem wb_snoc (l : List Int) (x : Int) : wb (l ++ [x]) = wb l ++ [IntKind.wrap .u8 x] := by simp [wb]
theorem putP (n : Nat) (l : List Int) (hn : l.length + 1 < n) (hl : l.length ≤ 1000000) : F53 n l = some (putV l) := by
 unfold F53
 refine loopF_eq (F53_l2 n l) (fun d => some (putV l)) (fun d => ∃ k : Nat, k ≤ l.length ∧ d = ((k : Int), wb (l.take k))) (fun d => l.length - d.1.toNat) ?_ n (0, []) ⟨0, by omega, by simp [wb]⟩ (by simp; omega)
 rintro kk d ⟨k, hk, rfl⟩ ih
 simp only [F53_l2, Int.toNat_natCast]
 by_cases hkl : k < l.length
 ·rw [decide_eq_true (show (k : Int) < (l.length : Int) by omega), inb_true (by omega) (by omega), w64 (n := (k : Int) + 1) (by omega) (by omega), decide_eq_true (by simp [wb]; omega)]
  simp only [cond_true]
  exact ih _ ⟨k + 1, by omega, by rw [takeD l k 0 hkl, wb_snoc]; rfl⟩ (by simp only [Int.toNat_natCast]; omega)
 ·rw [decide_eq_false (by omega), List.take_of_length_le (by omega)]; rfl
theorem wordP (n : Nat) (v : Int) (hn : 10 < n) : F54 n v = some (putV [v, shrI .i64 v 8]) := by
 unfold F54
 rw [putP n _ (by simp; omega) (by simp)]; rfl
theorem btw3 (n : Nat) (v lo hi : Int) : F17 n v lo hi = some (decide (lo ≤ v ∧ v ≤ hi)) := by
 unfold F17
 by_cases h : lo ≤ v
 ·rw [decide_eq_true h]
  simp only [cond_true, Option.some.injEq]
  by_cases h2 : v ≤ hi <;> simp [h, h2]
 ·rw [decide_eq_false h, decide_eq_false (show ¬ (lo ≤ v ∧ v ≤ hi) from fun hh => h hh.1)]; rfl
theorem bytesR (n : Nat) (l : List Int) (hn : l.length + 1 < n) (hl : l.length ≤ 1000000) : F43 n l = some (if allIn 255 l = true then (putV l, true) else ([], false)) := by
 unfold F43
 refine (loopF_eq (F43_l2 n l) (fun d => some (if allIn 255 (l.drop d.1.toNat) = true then (putV l, true) else ([], false))) (fun d => ∃ k : Nat, k ≤ l.length ∧ d = ((k : Int), wb (l.take k))) (fun d => l.length - d.1.toNat) ?_ n (0, []) ⟨0, by omega, by simp [wb]⟩ (by simp; omega)).trans (by simp)
 rintro kk d ⟨k, hk, rfl⟩ ih
 simp only [F43_l2, Int.toNat_natCast, btw3]
 by_cases hkl : k < l.length
 ·have ek : ((k : Int) + 1).toNat = k + 1 := by omega
  have ih' := ih ((k : Int) + 1, wb (l.take (k + 1))) ⟨k + 1, by omega, rfl⟩ (by simp only [Int.toNat_natCast, ek]; omega)
  rw [takeD l k 0 hkl, wb_snoc] at ih'
  have ed : allIn 255 (l.drop k) = (decide (inR2 255 (l.getD k 0)) && allIn 255 (l.drop (k + 1))) := by rw [dropC l k 0 hkl]; simp only [allIn, List.all_cons]
  rw [decide_eq_true (show (k : Int) < (l.length : Int) by omega), inb_true (by omega) (by omega), w64 (n := (k : Int) + 1) (by omega) (by omega)]
  simp only [ed, cond_true, Option.bind_some]
  by_cases h1 : 0 ≤ l.getD k 0 ∧ l.getD k 0 ≤ 255
  ·rw [decide_eq_true h1, decide_eq_true (show inR2 255 (l.getD k 0) from h1), decide_eq_true (by simp [wb]; omega)]
   simp only [Bool.not_true, cond_false, cond_true, Bool.true_and]
   rw [ih']; simp only [ek]
  ·rw [decide_eq_false h1, decide_eq_false (show ¬ inR2 255 (l.getD k 0) from h1)]; rfl
 ·have ed : l.drop k = [] := List.drop_of_length_le (by omega)
  rw [decide_eq_false (by omega), List.take_of_length_le (by omega)]; simp only [ed]; rfl
def endOk (d : CEnd) : Prop := (1 ≤ d.1 ∧ d.1 ≤ 15) ∧ (0 ≤ d.2.2.1 ∧ d.2.2.1 ≤ 3) ∧ (1 ≤ d.2.2.2.1 ∧ d.2.2.2.1 ≤ 64) ∧ (0 ≤ d.2.2.2.2 ∧ d.2.2.2.2 ≤ 255)
instance (d : CEnd) : Decidable (endOk d) := by unfold endOk; infer_instance
def keyE (d : CEnd) : CK := (d.1, d.2.1)
def keysE (l : List CEnd) : List CK := l.map keyE
def endsE : List CK → List CEnd → Int
 | _, [] => 0
 | A, d :: l => if endOk d then (if keyE d ∈ A then 13 else endsE (A ++ [keyE d]) l) else 1
def exOk (x : CTx) : Prop := (2 ≤ x.length ∧ x.length ≤ 32) ∧ (x.getD 0 0).toNat = x.length ∧ 6 ≤ (x.getD 1 0).toNat
instance (x : CTx) : Decidable (exOk x) := by unfold exOk; infer_instance
def faceE (f : CFace) (A : List CK) : Int :=
 if allIn 255 [f.1, f.2.1, f.2.2.1, f.2.2.2.1] = false then 1 else if 2 < f.2.2.2.2.1.length then 2 else if (f.2.2.2.2.1.all fun x => decide (exOk x)) = false then 1 else if 4 < f.2.2.2.2.2.length then 2 else endsE A f.2.2.2.2.2
def AllT (m : CM) : Prop := ∀ y ∈ m, y.2 = true
theorem kbeq (a b : CK) : Sh.beq (.st (.pair (.int .i64) .bool)) a b = decide (a = b) := by
 obtain ⟨a1, a2⟩ := a; obtain ⟨b1, b2⟩ := b
 simp only [Sh.beq]
 by_cases h1 : a1 = b1
 ·subst h1
  cases a2 <;> cases b2 <;> simp
 ·simp [h1]
theorem get_mem (k : CK) : ∀ (m : CM), AllT m → ((mapGet (.st (.pair (.int .i64) .bool)) .bool k m).getD false = true ↔ k ∈ m.map (·.1))
 | [], _ => by simp [mapGet, mapFind]
 | y :: m, h => by
  have ih := get_mem k m (fun z hz => h z (List.mem_cons_of_mem _ hz))
  unfold mapGet at ih ⊢
  simp only [mapFind, kbeq]
  by_cases e : k = y.1
  ·simp [e, h y (List.mem_cons_self ..)]
  ·rw [decide_eq_false e]
   simp only [cond_false, List.map_cons, List.mem_cons, e, false_or]
   rw [← ih]
   cases mapFind (.st (.pair (.int .i64) .bool)) .bool k m with
   | none => simp
   | some i => simp
theorem find_none (k : CK) : ∀ (m : CM), k ∉ m.map (·.1) → mapFind (.st (.pair (.int .i64) .bool)) .bool k m = none
 | [], _ => rfl
 | y :: m, h => by
  simp only [List.map_cons, List.mem_cons, not_or] at h
  simp only [mapFind, kbeq, decide_eq_false h.1, cond_false, find_none k m h.2, Option.map_none]
def MapOf (m : CM) (A : List CK) : Prop := AllT m ∧ m.map (·.1) = A
theorem MapOf.get {m : CM} {A : List CK} (h : MapOf m A) (k : CK) : (mapGet (.st (.pair (.int .i64) .bool)) .bool k m).getD false = decide (k ∈ A) := by
 rw [Bool.eq_iff_iff, get_mem k m h.1, h.2]; simp
theorem MapOf.put {m : CM} {A : List CK} (h : MapOf m A) {k : CK} (hk : k ∉ A) : mapPut (.st (.pair (.int .i64) .bool)) .bool k true m = m ++ [(k, true)] ∧ MapOf (m ++ [(k, true)]) (A ++ [k]) := by
 constructor
 ·unfold mapPut
  rw [find_none k m (by rw [h.2]; exact hk)]
 ·refine ⟨fun y hy => ?_, by simp [h.2]⟩
  rcases List.mem_append.1 hy with hy | hy
  ·exact h.1 y hy
  ·simp at hy; rw [hy]
def mapAll (m : CM) (l : List CEnd) : CM := m ++ l.map fun d => (keyE d, true)
def endA (d : CEnd) : Int := if d.2.1 = true then d.1 + 128 else d.1
def endT (d : CEnd) : CTx := putV [7, 5, endA d, d.2.2.1, d.2.2.2.1, 0, d.2.2.2.2]
def endsT (l : List CEnd) : CTx := l.flatMap endT
def faceT (i : Nat) (f : CFace) : CTx := (putV [9, 4, (i : Int), 0, ((f.2.2.2.2.2.length : Nat) : Int), f.1, f.2.1, f.2.2.1, f.2.2.2.1] ++ Lib.join f.2.2.2.2.1 []) ++ endsT f.2.2.2.2.2
def finT (v nm at' pw : Int) (len : Nat) (rest : CTx) : CTx := putV [9, 2] ++ putV [9 + ((rest.length : Nat) : Int), shrI .i64 (9 + ((rest.length : Nat) : Int)) 8] ++ putV [(len : Int), v, nm, at', pw] ++ rest
def goF (v nm at' pw : Int) (len : Nat) : Nat → CTx → List CK → List CFace → CTx × Int
 | _, rest, _, [] => (finT v nm at' pw len rest, 0)
 | i, rest, A, f :: l => if faceE f A = 0 then goF v nm at' pw len (i + 1) (rest ++ faceT i f) (A ++ keysE f.2.2.2.2.2) l else ([], faceE f A)
def confV (v nm at' pw : Int) (Fs : List CFace) : CTx × Int :=
 if ¬ (1 ≤ v ∧ v ≤ 255) ∨ allIn 255 [nm, at', pw] = false then ([], 1) else if 4 < Fs.length then ([], 2) else goF v nm at' pw Fs.length 0 [] [] Fs
theorem putV_len (l : List Int) : (putV l).length = l.length := by simp [putV, wb, strOf]
theorem endsT_len : ∀ (l : List CEnd), (endsT l).length = 7 * l.length
 | [] => rfl
 | d :: l => by
  have := endsT_len l
  simp only [endsT, List.flatMap_cons, List.length_append, List.length_cons] at this ⊢
  rw [this]
  simp only [endT, putV_len, List.length_cons, List.length_nil]
  omega
theorem join_len (l : List CTx) (h2 : l.length ≤ 2) (h : ∀ x ∈ l, exOk x) : (Lib.join l []).length ≤ 64 := by
 match l, h2, h with
 | [], _, _ => simp [Lib.join, List.intercalate]
 | [a], _, h => have := (h a (by simp)).1; rw [Lib.join_one]; omega
 | [a, b], _, h =>
  have h1 := (h a (by simp)).1
  have h3 := (h b (by simp)).1
  rw [Lib.join_cons]
  simp [Lib.joinTail]
  omega
 | _ :: _ :: _ :: _, h2, _ => simp at h2
theorem endsE_ok : ∀ (l : List CEnd) (A : List CK), endsE A l = 0 → ∀ d ∈ l, endOk d
 | [], A, _, d, hd => by simp at hd
 | e :: l, A, h, d, hd => by
  simp only [endsE] at h
  split at h
  ·rename_i he
   split at h
   ·simp at h
   ·rcases List.mem_cons.1 hd with rfl | hd
    ·exact he
    ·exact endsE_ok l _ h d hd
  ·simp at h
theorem face_ok {f : CFace} {A : List CK} (h : faceE f A = 0) : allIn 255 [f.1, f.2.1, f.2.2.1, f.2.2.2.1] = true ∧ f.2.2.2.2.1.length ≤ 2 ∧ (∀ x ∈ f.2.2.2.2.1, exOk x) ∧ f.2.2.2.2.2.length ≤ 4 ∧ endsE A f.2.2.2.2.2 = 0 := by
 unfold faceE at h
 split at h
 ·simp at h
 rename_i h1
 split at h
 ·simp at h
 rename_i h2
 split at h
 ·simp at h
 rename_i h3
 split at h
 ·simp at h
 rename_i h4
 refine ⟨by simpa using h1, by omega, fun x hx => ?_, by omega, h⟩
 have h5 : (f.2.2.2.2.1.all fun x => decide (exOk x)) = true := by simpa using h3
 rw [List.all_eq_true] at h5
 exact of_decide_eq_true (h5 x hx)
theorem faceT_len {f : CFace} {A : List CK} (i : Nat) (h : faceE f A = 0) : (faceT i f).length ≤ 101 := by
 obtain ⟨_, h2, h3, h4, _⟩ := face_ok h
 have := join_len _ h2 h3
 simp only [faceT, List.length_append, putV_len, endsT_len, List.length_cons, List.length_nil]
 omega
theorem putV_app (a b : List Int) : putV (a ++ b) = putV a ++ putV b := by simp [putV, wb, strOf]
theorem endT3 {d : CEnd} (h : endOk d) : putV [7, 5, endA d, d.2.2.1] ++ putV [d.2.2.2.1, shrI .i64 d.2.2.2.1 8] ++ putV [d.2.2.2.2] = endT d := by
 have e : shrI .i64 d.2.2.2.1 8 = 0 := by
  have := shr_div .i64 d.2.2.2.1 8 (by simp [IntKind.bits])
  rw [show ((8 : Nat) : Int) = (8 : Int) from rfl] at this
  rw [this]
  have := h.2.2.1
  omega
 rw [e, ← putV_app, ← putV_app]; rfl
theorem endsT_snoc (l : List CEnd) (d : CEnd) : endsT (l ++ [d]) = endsT l ++ endT d := by simp [endsT]
theorem j173_bad (n : Nat) (k7 : CTx × Int × CM → Option (CTx × Int)) (Fs : List CFace) (rest : CTx) (x e : Int) (m : CM) (he : e ≠ 0) : F25_j173 n k7 Fs rest x (e, m) = some ([], e) := by
 simp only [F25_j173]
 rw [show (e != 0) = true by simpa using he]; rfl
theorem p176 (n : Nat) (hn : 100 < n) (k7 : CTx × Int × CM → Option (CTx × Int)) (Fs : List CFace) (i : Nat) (f : CFace) (hf : Fs.getD i ((0 : Int), ((0 : Int), ((0 : Int), ((0 : Int), (([] : List (List UInt8)), ([] : List (Int × Bool × Int × Int × Int))))))) = f) (m : CM) (h4 : f.2.2.2.2.2.length ≤ 4) (hok : ∀ d ∈ f.2.2.2.2.2, endOk d) (rest : CTx) (hr : rest.length ≤ 5000) :
  loopF (F25_l176 n k7 Fs (i : Int) m) n (rest, 0) = k7 (rest ++ endsT f.2.2.2.2.2, IntKind.wrap .i64 ((i : Int) + 1), m) := by
 refine loopF_eq (F25_l176 n k7 Fs (i : Int) m) (fun _ => k7 (rest ++ endsT f.2.2.2.2.2, IntKind.wrap .i64 ((i : Int) + 1), m)) (fun d => ∃ j : Nat, j ≤ f.2.2.2.2.2.length ∧ d = (rest ++ endsT (f.2.2.2.2.2.take j), (j : Int))) (fun d => f.2.2.2.2.2.length - d.2.toNat) ?_ n (rest, 0) ⟨0, by omega, by simp [endsT]⟩ (by simp; omega)
 rintro kk d ⟨j, hj, rfl⟩ ih
 simp only [F25_l176, F25_j177, Int.toNat_natCast, hf]
 by_cases hjl : j < f.2.2.2.2.2.length
 ·obtain ⟨d, hd⟩ : ∃ d, f.2.2.2.2.2.getD j ((0 : Int), (false, ((0 : Int), ((0 : Int), (0 : Int))))) = d := ⟨_, rfl⟩
  have hdm : d ∈ f.2.2.2.2.2 := by
   rw [← hd, List.getD_eq_getElem?_getD, List.getElem?_eq_getElem hjl]; exact List.getElem_mem hjl
  have hdo := hok d hdm
  have hlen : (endsT (f.2.2.2.2.2.take j)).length ≤ 28 := by rw [endsT_len, List.length_take]; omega
  have key : ∀ a : Int, a = endA d → ((F53 n [7, 5, a, d.2.2.1]).bind fun y_5 => ((F54 n d.2.2.2.1).bind fun y_6 => (bif (decide (y_5.length + y_6.length ≤ 9223372036854775807)) then ((F53 n [d.2.2.2.2]).bind fun y_7 => (bif (decide ((y_5 ++ y_6).length + y_7.length ≤ 9223372036854775807)) then (bif (decide ((rest ++ endsT (f.2.2.2.2.2.take j)).length + ((y_5 ++ y_6) ++ y_7).length ≤ 9223372036854775807)) then (kk (((rest ++ endsT (f.2.2.2.2.2.take j)) ++ ((y_5 ++ y_6) ++ y_7)), (IntKind.wrap .i64 ((j : Int) + 1)))) else none) else none)) else none))) = k7 (rest ++ endsT f.2.2.2.2.2, IntKind.wrap .i64 ((i : Int) + 1), m) := by
   rintro a rfl
   rw [putP n _ (by simp; omega) (by simp), wordP n _ (by omega), putP n _ (by simp; omega) (by simp)]
   simp only [Option.bind_some]
   rw [decide_eq_true (by simp [putV_len])]
   simp only [cond_true, Option.bind_some]
   rw [decide_eq_true (by simp [putV_len])]
   simp only [cond_true]
   rw [decide_eq_true (by simp only [List.length_append, putV_len, List.length_cons, List.length_nil]; omega)]
   simp only [cond_true]
   rw [endT3 hdo, w64 (n := (j : Int) + 1) (by omega) (by omega)]
   refine ih _ ⟨j + 1, by omega, ?_⟩ (by simp only [Int.toNat_natCast]; omega)
   rw [takeD _ j ((0 : Int), (false, ((0 : Int), ((0 : Int), (0 : Int))))) hjl, hd, endsT_snoc, List.append_assoc]; rfl
  rw [decide_eq_true (show (j : Int) < (f.2.2.2.2.2.length : Int) by omega), inb_true (by omega) (by omega)]
  simp only [hd, cond_true]
  cases hin : d.2.1 with
  | true =>
   simp only [cond_true]
   rw [w64 (n := d.1 + 128) (by have := hdo.1; omega) (by have := hdo.1; omega)]
   exact key _ (by simp [endA, hin])
  | false =>
   simp only [cond_false]
   exact key _ (by simp [endA, hin])
 ·obtain rfl : j = f.2.2.2.2.2.length := by omega
  rw [decide_eq_false (by omega), List.take_of_length_le (by omega)]; rfl
theorem endsE_step (A : List CK) (l : List CEnd) (j : Nat) (d : CEnd) (hj : j < l.length) (hd : l.getD j ((0 : Int), (false, ((0 : Int), ((0 : Int), (0 : Int))))) = d) : endsE (A ++ keysE (l.take j)) (l.drop j) = if endOk d then (if keyE d ∈ A ++ keysE (l.take j) then 13 else endsE (A ++ keysE (l.take (j + 1))) (l.drop (j + 1))) else 1 := by
 rw [dropC l j ((0 : Int), (false, ((0 : Int), ((0 : Int), (0 : Int))))) hj, takeD l j ((0 : Int), (false, ((0 : Int), ((0 : Int), (0 : Int))))) hj, hd]
 simp only [endsE, keysE, List.map_append, List.map_cons, List.map_nil, List.append_assoc]
theorem p189 (n : Nat) (hn : 100 < n) (k7 : CTx × Int × CM → Option (CTx × Int)) (Fs : List CFace) (i : Nat) (f : CFace) (hf : Fs.getD i ((0 : Int), ((0 : Int), ((0 : Int), ((0 : Int), (([] : List (List UInt8)), ([] : List (Int × Bool × Int × Int × Int))))))) = f) (rest : CTx) (m : CM) (A : List CK) (hm : MapOf m A) (h4 : f.2.2.2.2.2.length ≤ 4) :
  loopF (F25_l189 n k7 Fs rest (i : Int)) n (0, m) = if endsE A f.2.2.2.2.2 = 0 then F25_j173 n k7 Fs rest (i : Int) (0, mapAll m f.2.2.2.2.2) else some ([], endsE A f.2.2.2.2.2) := by
 refine loopF_eq (F25_l189 n k7 Fs rest (i : Int)) (fun _ => if endsE A f.2.2.2.2.2 = 0 then F25_j173 n k7 Fs rest (i : Int) (0, mapAll m f.2.2.2.2.2) else some ([], endsE A f.2.2.2.2.2)) (fun d => ∃ j : Nat, j ≤ f.2.2.2.2.2.length ∧ d = ((j : Int), mapAll m (f.2.2.2.2.2.take j)) ∧ MapOf (mapAll m (f.2.2.2.2.2.take j)) (A ++ keysE (f.2.2.2.2.2.take j)) ∧ endsE A f.2.2.2.2.2 = endsE (A ++ keysE (f.2.2.2.2.2.take j)) (f.2.2.2.2.2.drop j)) (fun d => f.2.2.2.2.2.length - d.1.toNat) ?_ n (0, m) ⟨0, by omega, by simp [mapAll], by simpa [mapAll, keysE] using hm, by simp [keysE]⟩ (by simp; omega)
 rintro kk d ⟨j, hj, rfl, hmo, hee⟩ ih
 simp only [F25_l189, Int.toNat_natCast, hf]
 by_cases hjl : j < f.2.2.2.2.2.length
 ·obtain ⟨d, hd⟩ : ∃ d, f.2.2.2.2.2.getD j ((0 : Int), (false, ((0 : Int), ((0 : Int), (0 : Int))))) = d := ⟨_, rfl⟩
  rw [decide_eq_true (show (j : Int) < (f.2.2.2.2.2.length : Int) by omega), inb_true (by omega) (by omega)]
  simp only [hd, cond_true]
  rw [endsE_step A _ j d hjl hd] at hee
  have kt : F25_j190 n k7 kk Fs rest (i : Int) (j : Int) (mapAll m (f.2.2.2.2.2.take j)) true = some ([], 1) := by
   simp only [F25_j190, cond_true]
   exact j173_bad n k7 Fs rest _ 1 _ (by omega)
  rw [withinV n 3 _ (by simp; omega) (by simp), bytesB n _ (by simp; omega) (by simp)]
  simp only [Option.bind_some, allIn, List.all_cons, List.all_nil, Bool.and_true]
  by_cases hok : endOk d
  ·obtain ⟨g1, g2, g3, g4⟩ := hok
   rw [if_pos ⟨g1, g2, g3, g4⟩] at hee
   rw [decide_eq_false (by omega), decide_eq_false (by omega), decide_eq_true (show inR2 3 d.2.2.1 from g2), decide_eq_false (by omega), decide_eq_false (by omega), decide_eq_true (show inR2 255 d.2.2.2.2 from g4)]
   simp only [cond_false, Bool.not_true, F25_j190, Int.toNat_natCast, hf, hd]
   rw [MapOf.get hmo]
   by_cases hin : keyE d ∈ A ++ keysE (f.2.2.2.2.2.take j)
   ·rw [if_pos hin] at hee
    rw [show decide ((d.1, d.2.1) ∈ A ++ keysE (f.2.2.2.2.2.take j)) = true from decide_eq_true hin, hee, if_neg (by omega)]
    simp only [cond_true]
    exact j173_bad n k7 Fs rest _ 13 _ (by omega)
   ·rw [if_neg hin] at hee
    obtain ⟨q1, q2⟩ := hmo.put hin
    rw [show decide ((d.1, d.2.1) ∈ A ++ keysE (f.2.2.2.2.2.take j)) = false from decide_eq_false hin, show mapPut (.st (.pair (.int .i64) .bool)) .bool (d.1, d.2.1) true (mapAll m (f.2.2.2.2.2.take j)) = _ from q1, w64 (n := (j : Int) + 1) (by omega) (by omega)]
    simp only [cond_false]
    have e1 : mapAll m (f.2.2.2.2.2.take j) ++ [(keyE d, true)] = mapAll m (f.2.2.2.2.2.take (j + 1)) := by
     rw [takeD _ j ((0 : Int), (false, ((0 : Int), ((0 : Int), (0 : Int))))) hjl, hd]; simp [mapAll]
    have e2 : (A ++ keysE (f.2.2.2.2.2.take j)) ++ [keyE d] = A ++ keysE (f.2.2.2.2.2.take (j + 1)) := by
     rw [takeD _ j ((0 : Int), (false, ((0 : Int), ((0 : Int), (0 : Int))))) hjl, hd]; simp [keysE]
    rw [e1, e2] at q2
    exact ih _ ⟨j + 1, by omega, by rw [← e1]; rfl, q2, hee⟩ (by simp only; omega)
  ·rw [if_neg hok] at hee
   rw [hee, if_neg (by omega)]
   by_cases c1 : d.1 < 1
   ·rw [decide_eq_true c1]; exact kt
   rw [decide_eq_false c1]
   by_cases c2 : d.1 > 15
   ·rw [decide_eq_true c2]; exact kt
   rw [decide_eq_false c2]
   by_cases c3 : inR2 3 d.2.2.1
   ·rw [decide_eq_true c3]
    by_cases c4 : d.2.2.2.1 < 1
    ·rw [decide_eq_true c4]; exact kt
    rw [decide_eq_false c4]
    by_cases c5 : d.2.2.2.1 > 64
    ·rw [decide_eq_true c5]; exact kt
    rw [decide_eq_false c5]
    have c6 : ¬ inR2 255 d.2.2.2.2 := fun c6 => hok ⟨by omega, c3, by omega, c6⟩
    rw [decide_eq_false c6]; exact kt
   ·rw [decide_eq_false c3]; exact kt
 ·obtain rfl : j = f.2.2.2.2.2.length := by omega
  rw [List.drop_of_length_le (by omega)] at hee
  have h0 : endsE A f.2.2.2.2.2 = 0 := hee
  rw [decide_eq_false (by omega), List.take_of_length_le (by omega), if_pos h0]; rfl
theorem exP (n : Nat) (x : CTx) : F85 n x = some (decide (exOk x)) := by
 unfold F85
 have hb := UInt8.toNat_lt (x.getD 0 0)
 by_cases h1 : 2 ≤ x.length
 ·rw [decide_eq_true (show ((x.length : Nat) : Int) ≥ 2 by omega)]
  by_cases h2 : x.length ≤ 32
  ·rw [decide_eq_true (show ((x.length : Nat) : Int) ≤ 32 by omega), inb_true (by omega) (by omega), inb_true (by omega) (by omega), w64 (n := (((x.getD 0 0).toNat : Nat) : Int)) (by omega) (by omega)]
   simp only [cond_true]
   by_cases h3 : (x.getD 0 0).toNat = x.length
   ·rw [show (((((x.getD 0 0).toNat : Nat) : Int) == ((x.length : Nat) : Int))) = true from beq_iff_eq.2 (by rw [h3])]
    simp only [cond_true, Option.some.injEq, exOk, h1, h2, h3, true_and, and_self]
    by_cases h4 : 6 ≤ (x.getD 1 0).toNat
    ·rw [decide_eq_true (by omega), decide_eq_true (by omega)]
    ·rw [decide_eq_false (by omega), decide_eq_false (by omega)]
   ·rw [show (((((x.getD 0 0).toNat : Nat) : Int) == ((x.length : Nat) : Int))) = false from beq_eq_false_iff_ne.2 (by omega), decide_eq_false (show ¬ exOk x from fun h => h3 h.2.1)]; rfl
  ·rw [decide_eq_false (show ¬ ((x.length : Nat) : Int) ≤ 32 by omega), decide_eq_false (show ¬ exOk x from fun h => by have := h.1; omega)]; rfl
 ·rw [decide_eq_false (show ¬ ((x.length : Nat) : Int) ≥ 2 by omega), decide_eq_false (show ¬ exOk x from fun h => by have := h.1; omega)]; rfl
def exAll (l : List CTx) : Bool := l.all fun x => decide (exOk x)
theorem p186 (n : Nat) (hn : 100 < n) (k7 : CTx × Int × CM → Option (CTx × Int)) (Fs : List CFace) (i : Nat) (f : CFace) (hf : Fs.getD i ((0 : Int), ((0 : Int), ((0 : Int), ((0 : Int), (([] : List (List UInt8)), ([] : List (Int × Bool × Int × Int × Int))))))) = f) (rest : CTx) (m : CM) (h2 : f.2.2.2.2.1.length ≤ 2) :
  loopF (F25_l186 n k7 Fs rest (i : Int) m) n 0 = bif exAll f.2.2.2.2.1 then (bif decide (4 < f.2.2.2.2.2.length) then some ([], 2) else loopF (F25_l189 n k7 Fs rest (i : Int)) n (0, m)) else some ([], 1) := by
 refine (loopF_eq (F25_l186 n k7 Fs rest (i : Int) m) (fun x => bif exAll (f.2.2.2.2.1.drop x.toNat) then (bif decide (4 < f.2.2.2.2.2.length) then some ([], 2) else loopF (F25_l189 n k7 Fs rest (i : Int)) n (0, m)) else some ([], 1)) (fun x => ∃ j : Nat, x = (j : Int) ∧ j ≤ f.2.2.2.2.1.length) (fun x => f.2.2.2.2.1.length - x.toNat) ?_ n 0 ⟨0, rfl, by omega⟩ (by simp; omega)).trans rfl
 rintro kk x ⟨j, rfl, hj⟩ ih
 simp only [F25_l186, Int.toNat_natCast, hf]
 by_cases hjl : j < f.2.2.2.2.1.length
 ·have ek : ((j : Int) + 1).toNat = j + 1 := by omega
  have ih' := ih ((j : Int) + 1) ⟨j + 1, by omega, by omega⟩ (by simp only [Int.toNat_natCast, ek]; omega)
  rw [decide_eq_true (show (j : Int) < (f.2.2.2.2.1.length : Int) by omega), inb_true (by omega) (by omega), w64 (n := (j : Int) + 1) (by omega) (by omega), exP, ih', ek]
  have ed : exAll (f.2.2.2.2.1.drop j) = (decide (exOk (f.2.2.2.2.1.getD j [])) && exAll (f.2.2.2.2.1.drop (j + 1))) := by rw [dropC _ j [] hjl]; simp only [exAll, List.all_cons]
  simp only [ed, cond_true, Option.bind_some]
  cases decide (exOk (f.2.2.2.2.1.getD j [])) with
  | true => rfl
  | false =>
   simp only [Bool.not_false, cond_true, Bool.false_and, cond_false]
   exact j173_bad n k7 Fs rest _ 1 _ (by omega)
 ·have ed : f.2.2.2.2.1.drop j = [] := List.drop_of_length_le (by omega)
  rw [decide_eq_false (by omega)]
  simp only [ed, cond_false]
  rw [show exAll [] = true from rfl]
  simp only [cond_true]
  by_cases h4 : 4 < f.2.2.2.2.2.length
  ·rw [decide_eq_true (show ((f.2.2.2.2.2.length : Nat) : Int) > 4 by omega), decide_eq_true h4]
   simp only [cond_true]
   exact j173_bad n k7 Fs rest _ 2 _ (by omega)
  ·rw [decide_eq_false (show ¬ ((f.2.2.2.2.2.length : Nat) : Int) > 4 by omega), decide_eq_false h4]; rfl
theorem jnP (n : Nat) (l : List CTx) (h2 : l.length ≤ 2) (h : ∀ x ∈ l, exOk x) : F56 n l [] = some (Lib.join l []) := by
 have := join_len l h2 h
 unfold F56
 rw [decide_eq_true ⟨by omega, by omega⟩]; rfl
theorem j173_ok (n : Nat) (hn : 100 < n) (k7 : CTx × Int × CM → Option (CTx × Int)) (Fs : List CFace) (i : Nat) (hi : i ≤ 10) (f : CFace) (hf : Fs.getD i ((0 : Int), ((0 : Int), ((0 : Int), ((0 : Int), (([] : List (List UInt8)), ([] : List (Int × Bool × Int × Int × Int))))))) = f) (A : List CK) (h0 : faceE f A = 0) (rest : CTx) (hr : rest.length ≤ 2000) (m : CM) :
  F25_j173 n k7 Fs rest (i : Int) (0, m) = k7 (rest ++ faceT i f, (i : Int) + 1, m) := by
 obtain ⟨_, h2, h3, h4, h5⟩ := face_ok h0
 have hjl := join_len _ h2 h3
 simp only [F25_j173, Int.toNat_natCast, hf]
 rw [show ((0 : Int) != 0) = false from rfl, putP n _ (by simp; omega) (by simp), jnP n _ h2 h3]
 simp only [cond_false, Option.bind_some, List.length_append, putV_len, List.length_cons, List.length_nil]
 rw [decide_eq_true (by omega), decide_eq_true (by omega)]
 simp only [cond_true]
 rw [p176 n hn k7 Fs i f hf m h4 (endsE_ok _ _ h5) _ (by simp only [List.length_append, putV_len, List.length_cons, List.length_nil]; omega), w64 (by omega) (by omega), List.append_assoc]
 rfl
theorem mapAll_fst (m : CM) (l : List CEnd) : (mapAll m l).map (·.1) = m.map (·.1) ++ keysE l := by simp [mapAll, keysE, Function.comp_def]
theorem mapAll_T {m : CM} (h : AllT m) (l : List CEnd) : AllT (mapAll m l) := by
 intro y hy
 unfold mapAll at hy
 rcases List.mem_append.1 hy with h1 | h1
 ·exact h y h1
 ·simp only [List.mem_map] at h1
  obtain ⟨d, _, rfl⟩ := h1
  rfl
theorem confP (n : Nat) (hn : 2000 < n) (v nm at' pw : Int) (Fs : List CFace) : F25 n v nm at' pw Fs = some (confV v nm at' pw Fs) := by
 have main : Fs.length ≤ 4 → loopF (F25_l159 n v nm at' pw Fs) n ([], 0, []) = some (goF v nm at' pw Fs.length 0 [] [] Fs) := by
  intro hL
  refine (loopF_eq (F25_l159 n v nm at' pw Fs) (fun d => some (goF v nm at' pw Fs.length d.2.1.toNat d.1 (d.2.2.map (·.1)) (Fs.drop d.2.1.toNat))) (fun d => ∃ i : Nat, d.2.1 = (i : Int) ∧ i ≤ Fs.length ∧ d.1.length ≤ 101 * i ∧ AllT d.2.2) (fun d => Fs.length - d.2.1.toNat) ?_ n ([], 0, []) ⟨0, rfl, by omega, by simp, fun y hy => by simp at hy⟩ (by simp; omega)).trans rfl
  rintro kk ⟨rest, x, m⟩ ⟨i, rfl, hi, hr, hT⟩ ih
  simp only at hr hT
  simp only [F25_l159, Int.toNat_natCast]
  by_cases hil : i < Fs.length
  ·obtain ⟨f, hf⟩ : ∃ f, Fs.getD i ((0 : Int), ((0 : Int), ((0 : Int), ((0 : Int), (([] : List (List UInt8)), ([] : List (Int × Bool × Int × Int × Int))))))) = f := ⟨_, rfl⟩
   have ed : Fs.drop i = f :: Fs.drop (i + 1) := by rw [dropC Fs i ((0 : Int), ((0 : Int), ((0 : Int), ((0 : Int), (([] : List (List UInt8)), ([] : List (Int × Bool × Int × Int × Int))))))) hil, hf]
   rw [decide_eq_true (show (i : Int) < (Fs.length : Int) by omega), inb_true (by omega) (by omega)]
   simp only [hf, cond_true]
   rw [bytesB n _ (by simp; omega) (by simp), ed]
   simp only [Option.bind_some, goF]
   have bad : ∀ e : Int, e ≠ 0 → faceE f (m.map (·.1)) = e → F25_j173 n kk Fs rest (i : Int) (e, m) = some (if faceE f (m.map (·.1)) = 0 then goF v nm at' pw Fs.length (i + 1) (rest ++ faceT i f) (m.map (·.1) ++ keysE f.2.2.2.2.2) (Fs.drop (i + 1)) else ([], faceE f (m.map (·.1)))) := by
    intro e he hfe
    rw [j173_bad n kk Fs rest _ e _ he, hfe, if_neg he]
   cases h1 : allIn 255 [f.1, f.2.1, f.2.2.1, f.2.2.2.1] with
   | false =>
    simp only [Bool.not_false, cond_true]
    exact bad 1 (by omega) (by unfold faceE; rw [if_pos h1])
   | true =>
    simp only [Bool.not_true, cond_false]
    by_cases h2 : 2 < f.2.2.2.2.1.length
    ·rw [decide_eq_true (show ((f.2.2.2.2.1.length : Nat) : Int) > 2 by omega)]
     simp only [cond_true]
     exact bad 2 (by omega) (by unfold faceE; rw [if_neg (by simp [h1]), if_pos h2])
    ·rw [decide_eq_false (show ¬ ((f.2.2.2.2.1.length : Nat) : Int) > 2 by omega)]
     simp only [cond_false]
     rw [p186 n (by omega) kk Fs i f hf rest m (by omega)]
     cases h3 : exAll f.2.2.2.2.1 with
     | false =>
      simp only [cond_false]
      have : faceE f (m.map (·.1)) = 1 := by unfold faceE; rw [if_neg (by simp [h1]), if_neg h2, if_pos (show (f.2.2.2.2.1.all fun x => decide (exOk x)) = false from h3)]
      rw [this]; rfl
     | true =>
      simp only [cond_true]
      by_cases h4 : 4 < f.2.2.2.2.2.length
      ·rw [decide_eq_true h4]
       have : faceE f (m.map (·.1)) = 2 := by unfold faceE; rw [if_neg (by simp [h1]), if_neg h2, if_neg (by rw [show (f.2.2.2.2.1.all fun x => decide (exOk x)) = true from h3]; simp), if_pos h4]
       rw [this]; rfl
      ·rw [decide_eq_false h4]
       simp only [cond_false]
       have hfe : faceE f (m.map (·.1)) = endsE (m.map (·.1)) f.2.2.2.2.2 := by unfold faceE; rw [if_neg (by simp [h1]), if_neg h2, if_neg (by rw [show (f.2.2.2.2.1.all fun x => decide (exOk x)) = true from h3]; simp), if_neg h4]
       rw [p189 n (by omega) kk Fs i f hf rest m (m.map (·.1)) ⟨hT, rfl⟩ (by omega), ← hfe]
       by_cases h0 : faceE f (m.map (·.1)) = 0
       ·rw [if_pos h0, if_pos h0, j173_ok n (by omega) kk Fs i (by omega) f hf _ h0 rest (by omega)]
        have hl := faceT_len i h0
        have ih' := ih (rest ++ faceT i f, (i : Int) + 1, mapAll m f.2.2.2.2.2) ⟨i + 1, by simp, by omega, by simp only [List.length_append]; omega, mapAll_T hT _⟩ (by simp only [Int.toNat_natCast]; omega)
        rw [ih']
        simp only [mapAll_fst, show ((i : Int) + 1).toNat = i + 1 by omega]
       ·rw [if_neg h0, if_neg h0]
  ·have ed : Fs.drop i = [] := List.drop_of_length_le (by omega)
   rw [decide_eq_false (by omega), ed]
   simp only [cond_false, goF]
   rw [putP n _ (by simp; omega) (by simp), putP n _ (by simp; omega) (by simp), wordP n _ (by omega), w64 (n := 9 + ((rest.length : Nat) : Int)) (by omega) (by omega)]
   simp only [Option.bind_some, List.length_append, putV_len, List.length_cons, List.length_nil]
   rw [decide_eq_true (by omega), decide_eq_true (by omega), decide_eq_true (by omega)]
   rfl
 unfold F25 confV
 have kt : F25_j96 n v nm at' pw Fs true = some ([], 1) := rfl
 by_cases h1 : v < 1
 ·rw [decide_eq_true h1, if_pos (.inl (by omega))]; exact kt
 rw [decide_eq_false h1]
 by_cases h2 : v > 255
 ·rw [decide_eq_true h2, if_pos (.inl (by omega))]; exact kt
 rw [decide_eq_false h2, bytesB n _ (by simp; omega) (by simp)]
 simp only [cond_false, Option.bind_some]
 cases h3 : allIn 255 [nm, at', pw] with
 | false => rw [if_pos (.inr rfl)]; exact kt
 | true =>
  rw [if_neg (by simp; omega)]
  simp only [Bool.not_true, F25_j96, cond_false]
  by_cases h4 : 4 < Fs.length
  ·rw [decide_eq_true (show ((Fs.length : Nat) : Int) > 4 by omega), if_pos h4]; rfl
  ·rw [decide_eq_false (show ¬ ((Fs.length : Nat) : Int) > 4 by omega), if_neg h4]
   exact main (by omega)
def hasK (k : CK) : List CEnd → Bool
 | [] => false
 | o :: l => (o.1 == k.1 && o.2.1 == k.2) || hasK k l
theorem hasK_iff (k : CK) : ∀ l, hasK k l = true ↔ k ∈ keysE l
 | [] => by simp [hasK, keysE]
 | o :: l => by
  have ih := hasK_iff k l
  simp only [hasK, Bool.or_eq_true, Bool.and_eq_true, beq_iff_eq, ih]
  show _ ↔ k ∈ keyE o :: keysE l
  rw [List.mem_cons]
  obtain ⟨a, b⟩ := k
  simp only [keyE, Prod.mk.injEq]
  constructor
  ·rintro (⟨h1, h2⟩ | h)
   ·exact Or.inl ⟨h1.symm, h2.symm⟩
   ·exact Or.inr h
  ·rintro (⟨h1, h2⟩ | h)
   ·exact Or.inl ⟨h1.symm, h2.symm⟩
   ·exact Or.inr h
theorem hasK_eq (k : CK) (l : List CEnd) : hasK k l = decide (k ∈ keysE l) := by
 rw [Bool.eq_iff_iff, hasK_iff, decide_eq_true_iff]
theorem allIn_cons (m x : Int) (l : List Int) : allIn m (x :: l) = true ↔ (0 ≤ x ∧ x ≤ m) ∧ allIn m l = true := by
 simp only [allIn, List.all_cons, Bool.and_eq_true, decide_eq_true_eq]; rfl
theorem allIn_nil (m : Int) : allIn m [] = true ↔ True := by simp [allIn]
theorem q44 (n : Nat) (hn : 100 < n) (k42 : Int → Option Int) (E : List CEnd) (j : Nat) (hj : j ≤ 10) (y : List CEnd) (d : CEnd) (hd : E.getD j ((0 : Int), (false, ((0 : Int), ((0 : Int), (0 : Int))))) = d) (hl : (y ++ E.take j).length ≤ 50) :
  loopF (F73_l44 n k42 E (j : Int) y) n 0 = bif hasK (keyE d) (y ++ E.take j) then some 13 else k42 ((j : Int) + 1) := by
 obtain ⟨S, hS⟩ : ∃ S, y ++ E.take j = S := ⟨_, rfl⟩
 rw [hS] at hl ⊢
 refine (loopF_eq (F73_l44 n k42 E (j : Int) y) (fun x => bif hasK (keyE d) (S.drop x.toNat) then some 13 else k42 ((j : Int) + 1)) (fun x => ∃ i : Nat, x = (i : Int) ∧ i ≤ S.length) (fun x => S.length - x.toNat) ?_ n 0 ⟨0, rfl, by omega⟩ (by simp; omega)).trans rfl
 rintro kk x ⟨i, rfl, hi⟩ ih
 simp only [F73_l44, Int.toNat_natCast, hS, hd]
 by_cases hil : i < S.length
 ·have ek : ((i : Int) + 1).toNat = i + 1 := by omega
  have ih' := ih ((i : Int) + 1) ⟨i + 1, by omega, by omega⟩ (by simp only [Int.toNat_natCast, ek]; omega)
  obtain ⟨o, ho⟩ : ∃ o, S.getD i ((0 : Int), (false, ((0 : Int), ((0 : Int), (0 : Int))))) = o := ⟨_, rfl⟩
  have ed : S.drop i = o :: S.drop (i + 1) := by rw [dropC S i ((0 : Int), (false, ((0 : Int), ((0 : Int), (0 : Int))))) hil, ho]
  rw [decide_eq_true (show (i : Int) < (S.length : Int) by omega), inb_true (by omega) (by omega), w64 (n := (i : Int) + 1) (by omega) (by omega), ih', ek, ed]
  simp only [ho, cond_true, hasK, keyE]
  cases (o.1 == d.1) <;> cases (o.2.1 == d.2.1) <;> simp
 ·have ed : S.drop i = [] := List.drop_of_length_le (by omega)
  rw [decide_eq_false (by omega), ed, w64 (n := (j : Int) + 1) (by omega) (by omega)]; rfl
theorem q42 (n : Nat) (hn : 100 < n) (E ahead : List CEnd) (hE : E.length ≤ 4) (ha : ahead.length ≤ 40) : loopF (F73_l42 n E ahead) n 0 = some (endsE (keysE ahead) E) := by
 refine (loopF_eq (F73_l42 n E ahead) (fun x => some (endsE (keysE ahead ++ keysE (E.take x.toNat)) (E.drop x.toNat))) (fun x => ∃ j : Nat, x = (j : Int) ∧ j ≤ E.length) (fun x => E.length - x.toNat) ?_ n 0 ⟨0, rfl, by omega⟩ (by simp; omega)).trans (by simp [keysE])
 rintro kk x ⟨j, rfl, hj⟩ ih
 simp only [F73_l42, Int.toNat_natCast, btw3]
 by_cases hjl : j < E.length
 ·obtain ⟨d, hd⟩ : ∃ d, E.getD j ((0 : Int), (false, ((0 : Int), ((0 : Int), (0 : Int))))) = d := ⟨_, rfl⟩
  have ek : ((j : Int) + 1).toNat = j + 1 := by omega
  have ih' := ih ((j : Int) + 1) ⟨j + 1, by omega, by omega⟩ (by simp only [Int.toNat_natCast, ek]; omega)
  rw [decide_eq_true (show (j : Int) < (E.length : Int) by omega), inb_true (by omega) (by omega), endsE_step (keysE ahead) E j d hjl hd]
  simp only [hd, cond_true, Option.bind_some]
  have kt : F73_j43 n kk E ahead (j : Int) true = some 1 := rfl
  by_cases g1 : 1 ≤ d.1 ∧ d.1 ≤ 15
  ·rw [decide_eq_true g1]
   simp only [Bool.not_true, cond_false]
   by_cases g2 : 0 ≤ d.2.2.1 ∧ d.2.2.1 ≤ 3
   ·rw [decide_eq_true g2]
    simp only [Bool.not_true, cond_false]
    by_cases g3 : 1 ≤ d.2.2.2.1 ∧ d.2.2.2.1 ≤ 64
    ·rw [decide_eq_true g3]
     simp only [Bool.not_true, cond_false]
     by_cases g4 : 0 ≤ d.2.2.2.2 ∧ d.2.2.2.2 ≤ 255
     ·rw [decide_eq_true g4, if_pos ⟨g1, g2, g3, g4⟩]
      simp only [Bool.not_true, F73_j43, cond_false, F67, Int.toNat_natCast]
      rw [decide_eq_true (by simp; omega)]
      simp only [cond_true, Option.bind_some]
      rw [show subB E.length none (some (j : Int)) = true by simp [subB]; omega, decide_eq_true (by simp; omega)]
      simp only [cond_true]
      rw [q44 n hn kk E j (by omega) _ d hd (by simp; omega), hasK_eq]
      have ek2 : keysE (([] : List CEnd) ++ ahead ++ E.take j) = keysE ahead ++ keysE (E.take j) := by simp [keysE]
      rw [ek2, ih', ek]
      by_cases hin : keyE d ∈ keysE ahead ++ keysE (E.take j)
      ·rw [decide_eq_true hin, if_pos hin]; rfl
      ·rw [decide_eq_false hin, if_neg hin]; rfl
     ·rw [decide_eq_false g4, if_neg (fun h => g4 h.2.2.2)]; exact kt
    ·rw [decide_eq_false g3, if_neg (fun h => g3 h.2.2.1)]; exact kt
   ·rw [decide_eq_false g2, if_neg (fun h => g2 h.2.1)]; exact kt
  ·rw [decide_eq_false g1, if_neg (fun h => g1 h.1)]; exact kt
 ·have ed : E.drop j = [] := List.drop_of_length_le (by omega)
  rw [decide_eq_false (by omega), ed]; rfl
theorem q37 (n : Nat) (hn : 100 < n) (X : List CTx) (hX : X.length ≤ 2) (E ahead : List CEnd) (ha : ahead.length ≤ 40) : loopF (F73_l37 n X E ahead) n 0 = some (if exAll X = false then 1 else if 4 < E.length then 2 else endsE (keysE ahead) E) := by
 refine (loopF_eq (F73_l37 n X E ahead) (fun x => bif exAll (X.drop x.toNat) then some (if 4 < E.length then 2 else endsE (keysE ahead) E) else some 1) (fun x => ∃ j : Nat, x = (j : Int) ∧ j ≤ X.length) (fun x => X.length - x.toNat) ?_ n 0 ⟨0, rfl, by omega⟩ (by simp; omega)).trans (by
  show (bif exAll X then _ else _) = _
  cases exAll X <;> rfl)
 rintro kk x ⟨j, rfl, hj⟩ ih
 simp only [F73_l37, Int.toNat_natCast, btw3]
 by_cases hjl : j < X.length
 ·obtain ⟨d, hd⟩ : ∃ d, X.getD j [] = d := ⟨_, rfl⟩
  have ek : ((j : Int) + 1).toNat = j + 1 := by omega
  have ih' := ih ((j : Int) + 1) ⟨j + 1, by omega, by omega⟩ (by simp only [Int.toNat_natCast, ek]; omega)
  have ed : exAll (X.drop j) = (decide (exOk d) && exAll (X.drop (j + 1))) := by rw [dropC X j [] hjl, hd]; simp only [exAll, List.all_cons]
  have hb := UInt8.toNat_lt (d.getD 0 0)
  rw [decide_eq_true (show (j : Int) < (X.length : Int) by omega), inb_true (show (0 : Int) ≤ (j : Int) by omega) (show (j : Int) < (X.length : Int) by omega), w64 (n := (j : Int) + 1) (by omega) (by omega), ih', ek]
  simp only [hd, ed, cond_true, Option.bind_some]
  by_cases g1 : 2 ≤ d.length ∧ d.length ≤ 32
  ·rw [decide_eq_true (show (2 : Int) ≤ ((d.length : Nat) : Int) ∧ ((d.length : Nat) : Int) ≤ 32 by omega), inb_true (by omega) (by omega), inb_true (by omega) (by omega), w64 (n := (((d.getD 0 0).toNat : Nat) : Int)) (by omega) (by omega)]
   simp only [Bool.not_true, cond_false, cond_true]
   by_cases g2 : (d.getD 0 0).toNat = d.length
   ·rw [show ((((d.getD 0 0).toNat : Nat) : Int) != ((d.length : Nat) : Int)) = false from bne_eq_false_iff_eq.2 (by rw [g2])]
    simp only [cond_false]
    by_cases g3 : 6 ≤ (d.getD 1 0).toNat
    ·rw [decide_eq_false (show ¬ (((d.getD 1 0).toNat : Nat) : Int) ≤ 5 by omega), decide_eq_true (show exOk d from ⟨g1, g2, g3⟩)]; rfl
    ·rw [decide_eq_true (show (((d.getD 1 0).toNat : Nat) : Int) ≤ 5 by omega), decide_eq_false (show ¬ exOk d from fun h => g3 h.2.2)]; rfl
   ·rw [show ((((d.getD 0 0).toNat : Nat) : Int) != ((d.length : Nat) : Int)) = true from bne_iff_ne.2 (by omega), decide_eq_false (show ¬ exOk d from fun h => g2 h.2.1)]; rfl
  ·rw [decide_eq_false (show ¬ ((2 : Int) ≤ ((d.length : Nat) : Int) ∧ ((d.length : Nat) : Int) ≤ 32) by omega), decide_eq_false (show ¬ exOk d from fun h => g1 h.1)]; rfl
 ·have ed : X.drop j = [] := List.drop_of_length_le (by omega)
  rw [decide_eq_false (by omega)]
  simp only [ed, cond_false]
  rw [show exAll [] = true from rfl]
  simp only [cond_true]
  by_cases h4 : 4 < E.length
  ·rw [decide_eq_true (show ((E.length : Nat) : Int) > 4 by omega), if_pos h4]; rfl
  ·rw [decide_eq_false (show ¬ ((E.length : Nat) : Int) > 4 by omega), if_neg h4]
   exact q42 n hn E ahead (by omega) ha
theorem q22 (n : Nat) (hn : 100 < n) (f : CFace) (ahead : List CEnd) (ha : ahead.length ≤ 40) : F73 n f.1 f.2.1 f.2.2.1 f.2.2.2.1 f.2.2.2.2.1 f.2.2.2.2.2 ahead = some (faceE f (keysE ahead)) := by
 unfold F73 faceE
 rw [bytesR n _ (by simp; omega) (by simp)]
 simp only [Option.bind_some]
 cases h1 : allIn 255 [f.1, f.2.1, f.2.2.1, f.2.2.2.1] with
 | false => rfl
 | true =>
  simp only [if_true, Bool.not_true, cond_false]
  rw [if_neg (by simp)]
  by_cases h2 : 2 < f.2.2.2.2.1.length
  ·rw [decide_eq_true (show ((f.2.2.2.2.1.length : Nat) : Int) > 2 by omega), if_pos h2]; rfl
  ·rw [decide_eq_false (show ¬ ((f.2.2.2.2.1.length : Nat) : Int) > 2 by omega), if_neg h2]
   exact q37 n hn _ (by omega) _ _ ha
theorem q25 (n : Nat) (hn : 100 < n) (k8 : CTx × Int × List CEnd → Option (CTx × Int)) (Fs : List CFace) (i : Nat) (f : CFace) (hf : Fs.getD i ((0 : Int), ((0 : Int), ((0 : Int), ((0 : Int), (([] : List (List UInt8)), ([] : List (Int × Bool × Int × Int × Int))))))) = f) (ah : List CEnd) (h4 : f.2.2.2.2.2.length ≤ 4) (hok : ∀ d ∈ f.2.2.2.2.2, endOk d) (rest : CTx) (hr : rest.length ≤ 5000) :
  loopF (F36_l25 n k8 Fs (i : Int) ah) n (rest, 0) = k8 (rest ++ endsT f.2.2.2.2.2, IntKind.wrap .i64 ((i : Int) + 1), ah ++ f.2.2.2.2.2) := by
 refine loopF_eq (F36_l25 n k8 Fs (i : Int) ah) (fun _ => k8 (rest ++ endsT f.2.2.2.2.2, IntKind.wrap .i64 ((i : Int) + 1), ah ++ f.2.2.2.2.2)) (fun d => ∃ j : Nat, j ≤ f.2.2.2.2.2.length ∧ d = (rest ++ endsT (f.2.2.2.2.2.take j), (j : Int))) (fun d => f.2.2.2.2.2.length - d.2.toNat) ?_ n (rest, 0) ⟨0, by omega, by simp [endsT]⟩ (by simp; omega)
 rintro kk d ⟨j, hj, rfl⟩ ih
 simp only [F36_l25, F36_j26, Int.toNat_natCast, hf]
 by_cases hjl : j < f.2.2.2.2.2.length
 ·obtain ⟨d, hd⟩ : ∃ d, f.2.2.2.2.2.getD j ((0 : Int), (false, ((0 : Int), ((0 : Int), (0 : Int))))) = d := ⟨_, rfl⟩
  have hdm : d ∈ f.2.2.2.2.2 := by
   rw [← hd, List.getD_eq_getElem?_getD, List.getElem?_eq_getElem hjl]; exact List.getElem_mem hjl
  have hdo := hok d hdm
  have hlen : (endsT (f.2.2.2.2.2.take j)).length ≤ 28 := by rw [endsT_len, List.length_take]; omega
  have key : ∀ a : Int, a = endA d → 0 ≤ a ∧ a ≤ 255 → ((F43 n [7, 5, a, d.2.2.1, d.2.2.2.1, 0, d.2.2.2.2]).bind fun y_7 => (bif (decide ((rest ++ endsT (f.2.2.2.2.2.take j)).length + y_7.1.length ≤ 9223372036854775807)) then (kk (((rest ++ endsT (f.2.2.2.2.2.take j)) ++ y_7.1), (IntKind.wrap .i64 ((j : Int) + 1)))) else none)) = k8 (rest ++ endsT f.2.2.2.2.2, IntKind.wrap .i64 ((i : Int) + 1), ah ++ f.2.2.2.2.2) := by
   rintro a ha hab
   obtain ⟨g1, g2, g3, g4⟩ := hdo
   rw [bytesR n _ (by simp; omega) (by simp), if_pos (by simp only [allIn_cons, allIn_nil, and_true]; omega)]
   simp only [Option.bind_some]
   rw [decide_eq_true (by simp only [List.length_append, putV_len, List.length_cons, List.length_nil]; omega)]
   simp only [cond_true]
   rw [w64 (n := (j : Int) + 1) (by omega) (by omega), ha]
   refine ih _ ⟨j + 1, by omega, ?_⟩ (by simp only [Int.toNat_natCast]; omega)
   rw [takeD _ j ((0 : Int), (false, ((0 : Int), ((0 : Int), (0 : Int))))) hjl, hd, endsT_snoc, List.append_assoc]; rfl
  rw [decide_eq_true (show (j : Int) < (f.2.2.2.2.2.length : Int) by omega), inb_true (by omega) (by omega)]
  simp only [hd, cond_true]
  have := hdo.1
  cases hin : d.2.1 with
  | true =>
   simp only [cond_true]
   rw [w64 (n := d.1 + 128) (by omega) (by omega)]
   exact key _ (by simp [endA, hin]) (by omega)
  | false =>
   simp only [cond_false]
   exact key _ (by simp [endA, hin]) (by omega)
 ·obtain rfl : j = f.2.2.2.2.2.length := by omega
  rw [decide_eq_false (by omega), List.take_of_length_le (by omega)]; rfl
theorem two9 (n : Nat) (x : Nat) (hx : x < 100000) : F72 n (x : Int) = some (putV [(x : Int), shrI .i64 (x : Int) 8]) := by
 unfold F72
 have e1 : shrI .i64 (x : Int) 8 = (x : Int) / 256 := by
  have := shr_div .i64 (x : Int) 8 (by simp [IntKind.bits])
  rw [show ((8 : Nat) : Int) = (8 : Int) from rfl] at this
  rw [this, show (2 : Int) ^ 8 = 256 from rfl]
 have e2 : (x : Int).tdiv 256 = (x : Int) / 256 := Int.tdiv_eq_ediv_of_nonneg (by omega)
 have e3 : (x : Int).tmod 256 = (x : Int) % 256 := Int.tmod_eq_emod_of_nonneg (by omega)
 rw [e2, w64 (by omega) (by omega), e3, Int.tmod_eq_emod_of_nonneg (by omega)]
 simp only [putV, wb, List.map_cons, List.map_nil, e1, u8w]
 rw [show ((x : Int) % 256) % 256 = (x : Int) % 256 by omega, show ((x : Int) / 256 % 256) % 256 = (x : Int) / 256 % 256 by omega]
theorem confR (n : Nat) (hn : 2000 < n) (v nm at' pw : Int) (Fs : List CFace) : F36 n v nm at' pw Fs = some (confV v nm at' pw Fs) := by
 have hall : allIn 255 [v, nm, at', pw] = (decide (inR2 255 v) && allIn 255 [nm, at', pw]) := by simp only [allIn, List.all_cons]
 have main : allIn 255 [v, nm, at', pw] = true → Fs.length ≤ 4 → loopF (F36_l22 n Fs (putV [v, nm, at', pw], true)) n ([], 0, []) = some (goF v nm at' pw Fs.length 0 [] [] Fs) := by
  intro hv hL
  refine (loopF_eq (F36_l22 n Fs (putV [v, nm, at', pw], true)) (fun d => some (goF v nm at' pw Fs.length d.2.1.toNat d.1 (keysE d.2.2) (Fs.drop d.2.1.toNat))) (fun d => ∃ i : Nat, d.2.1 = (i : Int) ∧ i ≤ Fs.length ∧ d.1.length ≤ 101 * i ∧ d.2.2.length ≤ 4 * i) (fun d => Fs.length - d.2.1.toNat) ?_ n ([], 0, []) ⟨0, rfl, by omega, by simp, by simp⟩ (by simp; omega)).trans rfl
  rintro kk ⟨rest, x, m⟩ ⟨i, rfl, hi, hr, hm⟩ ih
  simp only at hr hm
  simp only [F36_l22, Int.toNat_natCast]
  by_cases hil : i < Fs.length
  ·obtain ⟨f, hf⟩ : ∃ f, Fs.getD i ((0 : Int), ((0 : Int), ((0 : Int), ((0 : Int), (([] : List (List UInt8)), ([] : List (Int × Bool × Int × Int × Int))))))) = f := ⟨_, rfl⟩
   have ed : Fs.drop i = f :: Fs.drop (i + 1) := by rw [dropC Fs i ((0 : Int), ((0 : Int), ((0 : Int), ((0 : Int), (([] : List (List UInt8)), ([] : List (Int × Bool × Int × Int × Int))))))) hil, hf]
   rw [decide_eq_true (show (i : Int) < (Fs.length : Int) by omega), inb_true (by omega) (by omega)]
   simp only [hf, cond_true]
   rw [q22 n (by omega) f m (by omega), ed]
   simp only [Option.bind_some, goF]
   by_cases h0 : faceE f (keysE m) = 0
   ·obtain ⟨h1, h2, h3, h4, h5⟩ := face_ok h0
    have hjl := join_len _ h2 h3
    have hab : allIn 255 [9, 4, (i : Int), 0, ((f.2.2.2.2.2.length : Nat) : Int), f.1, f.2.1, f.2.2.1, f.2.2.2.1] = true := by
     simp only [allIn_cons, allIn_nil, and_true] at h1 ⊢
     omega
    rw [h0, if_pos rfl, show ((0 : Int) != 0) = false from rfl, decide_eq_true (show m.length + f.2.2.2.2.2.length ≤ 3518437208883 by omega), bytesR n _ (by simp; omega) (by simp), if_pos hab, jnP n _ h2 h3]
    simp only [cond_false, cond_true, Option.bind_some, List.length_append, putV_len, List.length_cons, List.length_nil]
    rw [decide_eq_true (by omega), decide_eq_true (by omega)]
    simp only [cond_true]
    rw [q25 n (by omega) kk Fs i f hf m h4 (endsE_ok _ _ h5) _ (by simp only [List.length_append, putV_len, List.length_cons, List.length_nil]; omega), w64 (by omega) (by omega), List.append_assoc]
    have hl := faceT_len i h0
    have ih' := ih (rest ++ faceT i f, (i : Int) + 1, m ++ f.2.2.2.2.2) ⟨i + 1, by simp, by omega, by simp only [List.length_append]; omega, by simp only [List.length_append]; omega⟩ (by simp only [Int.toNat_natCast]; omega)
    have ek : keysE (m ++ f.2.2.2.2.2) = keysE m ++ keysE f.2.2.2.2.2 := by simp [keysE]
    simp only [ek, show ((i : Int) + 1).toNat = i + 1 by omega] at ih'
    exact ih'
   ·rw [if_neg h0, show (faceE f (keysE m) != 0) = true from bne_iff_ne.2 h0]; rfl
  ·have ed : Fs.drop i = [] := List.drop_of_length_le (by omega)
   rw [decide_eq_false (by omega), ed]
   simp only [cond_false, goF]
   have e9 : IntKind.wrap .i64 (9 + ((rest.length : Nat) : Int)) = ((9 + rest.length : Nat) : Int) := by rw [w64 (by omega) (by omega)]; omega
   rw [bytesR n _ (by simp; omega) (by simp), if_pos (by simp only [allIn_cons, allIn_nil, and_true]; omega), e9, two9 n _ (by omega)]
   simp only [Option.bind_some, List.length_append, putV_len, List.length_cons, List.length_nil]
   rw [decide_eq_true (by omega), decide_eq_true (by omega), decide_eq_true (by omega), decide_eq_true (by omega)]
   simp only [cond_true, Option.some.injEq, Prod.mk.injEq, and_true]
   unfold finT
   rw [show ((9 + rest.length : Nat) : Int) = 9 + ((rest.length : Nat) : Int) by omega, show (([9, 2] : List UInt8)) = putV [9, 2] by decide]
   rw [show ([((Fs.length : Nat) : Int), v, nm, at', pw] : List Int) = [((Fs.length : Nat) : Int)] ++ [v, nm, at', pw] from rfl, putV_app, ← List.append_assoc]
 unfold F36 confV
 rw [bytesR n _ (by simp; omega) (by simp)]
 simp only [Option.bind_some]
 by_cases hr : inR2 255 v
 ·cases h3 : allIn 255 [nm, at', pw] with
  | false =>
   have hv : allIn 255 [v, nm, at', pw] = false := by rw [hall, h3, Bool.and_false]
   rw [hv, if_pos (Or.inr rfl)]; rfl
  | true =>
   have hv : allIn 255 [v, nm, at', pw] = true := by rw [hall, h3, decide_eq_true hr]; rfl
   rw [hv]
   simp only [if_true, Bool.not_true, cond_false]
   by_cases h0 : v = 0
   ·rw [show (v == 0) = true from beq_iff_eq.2 h0, if_pos (.inl (by omega))]; rfl
   ·have hr' : 0 ≤ v ∧ v ≤ 255 := hr
    rw [show (v == 0) = false from beq_eq_false_iff_ne.2 h0, if_neg (by simp; omega)]
    simp only [cond_false]
    by_cases h4 : 4 < Fs.length
    ·rw [decide_eq_true (show ((Fs.length : Nat) : Int) > 4 by omega), if_pos h4]; rfl
    ·rw [decide_eq_false (show ¬ ((Fs.length : Nat) : Int) > 4 by omega), if_neg h4]
     exact main hv (by omega)
 ·have hv : allIn 255 [v, nm, at', pw] = false := by rw [hall, decide_eq_false hr, Bool.false_and]
  rw [hv, if_pos (Or.inl (by unfold inR2 at hr; omega))]; rfl
def hd (s : List UInt8) : Nat := (s.getD 0 0).toNat
def spl : Nat → List UInt8 → Int × List (List UInt8)
 | 0, _ => (0, [])
 | f + 1, s =>
  if s = [] then (0, [])
  else if hd s < 2 then (4, [])
  else if s.length < hd s then (3, [])
  else if (spl f (s.drop (hd s))).1 = 0 then (0, s.take (hd s) :: (spl f (s.drop (hd s))).2) else ((spl f (s.drop (hd s))).1, [])
theorem spl_nil (f : Nat) : spl f [] = (0, []) := by cases f <;> rfl
theorem hd_lt (s : List UInt8) : hd s < 256 := (s.getD 0 0).toNat_lt
theorem spl_len : ∀ (f : Nat) (s : List UInt8), (spl f s).2.length ≤ s.length
 | 0, s => Nat.zero_le _
 | f + 1, s => by
  unfold spl
  split
  ·exact Nat.zero_le _
  ·split
   ·exact Nat.zero_le _
   ·split
    ·exact Nat.zero_le _
    ·split
     ·have := spl_len f (s.drop (hd s))
      simp only [List.length_cons]
      rw [List.length_drop] at this
      omega
     ·exact Nat.zero_le _
theorem f26_loop (n : Nat) : ∀ (f : Nat) (s : List UInt8) (acc : List (List UInt8)) (m : Nat), s.length ≤ f → s.length ≤ 512 → acc.length + s.length ≤ 512 → f < m →
  loopF (F95_l2 n) m (s, acc) = some (if (spl f s).1 = 0 then (0, acc ++ (spl f s).2) else ((spl f s).1, []))
 | f, s, acc, 0, _, _, _, hm => by omega
 | f, s, acc, m + 1, hf, h5, ha, hm => by
  by_cases hs : s = []
  ·subst hs
   rw [spl_nil]
   simp [loopF, F95_l2]
  ·have hl : 0 < s.length := List.length_pos_iff.2 hs
   cases f with
   | zero => omega
   | succ f =>
    have hh := hd_lt s
    have hw : IntKind.wrap .i64 ((((s.getD 0 0).toNat : Nat) : Int)) = (hd s : Int) := w64 (by unfold hd at hh; omega) (by unfold hd at hh; omega)
    have e0 : (s == ([] : List UInt8)) = false := by simpa using hs
    simp only [loopF, F95_l2, hw, e0, Bool.not_false, cond_true]
    rw [inb_true (by omega) (by omega)]
    simp only [cond_true]
    unfold spl
    rw [if_neg hs]
    by_cases h1 : hd s < 2
    ·rw [decide_eq_true (by omega : (hd s : Int) < 2), if_pos h1]; rfl
    ·rw [decide_eq_false (by omega : ¬ (hd s : Int) < 2), if_neg h1]
     by_cases h2 : s.length < hd s
     ·rw [decide_eq_true (by omega : (hd s : Int) > (s.length : Nat)), if_pos h2]; rfl
     ·rw [decide_eq_false (by omega : ¬ (hd s : Int) > (s.length : Nat)), if_neg h2]
      have k1 : subB s.length none (some (hd s : Int)) = true := by simp [subB]; omega
      have k2 : subB s.length (some (hd s : Int)) none = true := by simp [subB]; omega
      have k3 : acc.length + [s.take ((hd s : Int)).toNat].length ≤ 8796093022208 := by simp; omega
      rw [k1, k2, decide_eq_true k3]
      simp only [cond_true, cond_false, Int.toNat_natCast]
      rw [f26_loop n f (s.drop (hd s)) (acc ++ [s.take (hd s)]) m (by rw [List.length_drop]; omega) (by rw [List.length_drop]; omega) (by rw [List.length_drop]; simp; omega) (by omega)]
      by_cases h3 : (spl f (s.drop (hd s))).1 = 0
      ·simp [h3]
      ·simp [h3]
def sts : Nat → Nat → List UInt8 → List Int
 | 0, _, _ => []
 | f + 1, p, s => if s = [] then [] else (p : Int) :: sts f (p + hd s) (s.drop (hd s))
theorem sts_len : ∀ (f p : Nat) (s : List UInt8), (spl f s).1 = 0 → (sts f p s).length ≤ s.length
 | 0, p, s, _ => Nat.zero_le _
 | f + 1, p, s, h => by
  unfold sts
  split
  ·exact Nat.zero_le _
  ·rename_i hs
   unfold spl at h
   rw [if_neg hs] at h
   split at h
   ·cases h
   ·split at h
    ·cases h
    ·split at h
     ·rename_i h3
      have := sts_len f (p + hd s) (s.drop (hd s)) h3
      rw [List.length_drop] at this
      simp only [List.length_cons]
      omega
     ·rename_i h3; exact absurd h h3
theorem f27_two (n : Nat) (s : List UInt8) (hs5 : s.length ≤ 512) : ∀ (f p : Nat) (M0 : List Int) (acc : List (List UInt8)) (m : Nat), s.length - p ≤ f → p ≤ s.length → (spl f (s.drop p)).1 = 0 → M0.length + (s.length - p) ≤ 512 → acc.length = M0.length → f < m →
  loopF (F103_l25 n s (M0 ++ sts f p (s.drop p))) m ((M0.length : Int), acc) = some (0, acc ++ (spl f (s.drop p)).2)
 | f, p, M0, acc, 0, _, _, _, _, _, hm => by omega
 | f, p, M0, acc, m + 1, hf, hp, h0, hM, hacc, hm => by
  by_cases hr : s.drop p = []
  ·rw [hr, spl_nil]
   have e : sts f p [] = [] := by cases f <;> simp [sts]
   rw [e, List.append_nil]
   simp [loopF, F103_l25]
  ·have hlt : p < s.length := by
    rcases Nat.lt_or_ge p s.length with h | h
    ·exact h
    ·exact absurd (List.drop_eq_nil_of_le h) hr
   cases f with
   | zero => omega
   | succ f =>
    have hh := hd_lt (s.drop p)
    have hrl : (s.drop p).length = s.length - p := List.length_drop ..
    have hdd : (s.drop p).drop (hd (s.drop p)) = s.drop (p + hd (s.drop p)) := by rw [List.drop_drop]
    have hst : sts (f + 1) p (s.drop p) = (p : Int) :: sts f (p + hd (s.drop p)) (s.drop (p + hd (s.drop p))) := by
     rw [sts, if_neg hr, hdd]
    rw [hst]
    unfold spl at h0 ⊢
    rw [if_neg hr] at h0 ⊢
    split at h0
    ·cases h0
    rename_i h1
    split at h0
    ·cases h0
    rename_i h2
    rw [hdd] at h0
    split at h0
    case isFalse => rename_i h3; exact absurd h0 h3
    rename_i h3
    rw [if_neg h1, if_neg h2, hdd, if_pos h3]
    generalize hk : hd (s.drop p) = k at *
    have hlen := sts_len f (p + k) (s.drop (p + k)) h3
    rw [List.length_drop] at hlen
    generalize hT : sts f (p + k) (s.drop (p + k)) = T at *
    have hMl : (M0 ++ (p : Int) :: T).length = M0.length + 1 + T.length := by simp; omega
    have hx : ((M0.length : Int)) < (((M0 ++ (p : Int) :: T).length : Nat) : Int) := by rw [hMl]; omega
    have hw : IntKind.wrap .i64 ((M0.length : Int) + 1) = (M0.length : Int) + 1 := w64 (by omega) (by omega)
    have hg : (M0 ++ (p : Int) :: T).getD (M0.length : Int).toNat 0 = (p : Int) := by
     simp [List.getD_eq_getElem?_getD]
    have hrec := f27_two n s hs5 f (p + k) (M0 ++ [(p : Int)]) (acc ++ [(s.drop p).take k]) m (by omega) (by omega) h3 (by simp; omega) (by simp [hacc]) (by omega)
    rw [hT] at hrec
    have e1 : M0 ++ [(p : Int)] ++ T = M0 ++ (p : Int) :: T := by simp
    have e2 : (((M0 ++ [(p : Int)]).length : Nat) : Int) = (M0.length : Int) + 1 := by simp
    rw [e1, e2] at hrec
    have hj : F103_j26 n (loopF (F103_l25 n s (M0 ++ (p : Int) :: T)) m) s (M0 ++ (p : Int) :: T) (M0.length : Int) acc ((p + k : Nat) : Int) = some (0, acc ++ (s.drop p).take k :: (spl f (s.drop (p + k))).2) := by
     simp only [F103_j26, hg, hw]
     have k1 : subB s.length (some (p : Int)) (some ((p + k : Nat) : Int)) = true := by simp [subB]; omega
     have e3 : ((s.take ((p + k : Nat) : Int).toNat).drop (p : Int).toNat) = (s.drop p).take k := by
      rw [Int.toNat_natCast, Int.toNat_natCast, List.drop_take]
      congr 1; omega
     have k3 : acc.length + [(s.drop p).take k].length ≤ 8796093022208 := by simp; omega
     rw [k1, e3, decide_eq_true k3]
     simp only [cond_true]
     rw [hrec]
     simp
    simp only [loopF, F103_l25, hw]
    rw [decide_eq_true hx, inb_true (by omega) hx]
    simp only [cond_true]
    by_cases hT0 : T = []
    ·subst hT0
     have hend : p + k = s.length := by
      cases f with
      | zero => omega
      | succ f =>
       unfold sts at hT
       split at hT
       ·rename_i h4
        have := List.drop_eq_nil_iff.1 h4
        omega
       ·cases hT
     rw [decide_eq_false (by rw [hMl]; simp), ← hend]
     exact hj
    ·have hTl : 0 < T.length := List.length_pos_iff.2 hT0
     have hx2 : ((M0.length : Int)) + 1 < (((M0 ++ (p : Int) :: T).length : Nat) : Int) := by rw [hMl]; omega
     rw [decide_eq_true hx2, inb_true (by omega) hx2]
     simp only [cond_true]
     have hgT : (M0 ++ (p : Int) :: T).getD ((M0.length : Int) + 1).toNat 0 = ((p + k : Nat) : Int) := by
      have e5 : ((M0.length : Int) + 1).toNat = M0.length + 1 := by omega
      rw [e5]
      cases f with
      | zero => simp [sts] at hT; exact absurd hT hT0
      | succ f =>
       unfold sts at hT
       split at hT
       ·exact absurd hT.symm hT0
       ·subst hT
        simp [List.getD_eq_getElem?_getD]
     rw [hgT]
     exact hj
theorem f27_one (n : Nat) (s : List UInt8) (hs5 : s.length ≤ 512) (hn : 513 < n) : ∀ (f p : Nat) (M0 : List Int) (m : Nat), s.length - p ≤ f → p ≤ s.length → M0.length ≤ p → f < m → f ≤ 512 →
  loopF (F103_l22 n s) m ((p : Int), M0) = if (spl f (s.drop p)).1 = 0 then loopF (F103_l25 n s (M0 ++ sts f p (s.drop p))) n ((0 : Int), []) else some ((spl f (s.drop p)).1, [])
 | f, p, M0, 0, _, _, _, hm, _ => by omega
 | f, p, M0, m + 1, hf, hp, hM, hm, hf5 => by
  by_cases hr : s.drop p = []
  ·have hpl : s.length ≤ p := List.drop_eq_nil_iff.1 hr
   rw [hr, spl_nil]
   have e : sts f p [] = [] := by cases f <;> simp [sts]
   rw [e, List.append_nil]
   simp only [loopF, F103_l22]
   rw [decide_eq_false (by omega : ¬ (p : Int) < (s.length : Nat))]
   rfl
  ·have hlt : p < s.length := by
    rcases Nat.lt_or_ge p s.length with h | h
    ·exact h
    ·exact absurd (List.drop_eq_nil_of_le h) hr
   cases f with
   | zero => omega
   | succ f =>
    have hh := hd_lt (s.drop p)
    have hrl : (s.drop p).length = s.length - p := List.length_drop ..
    have hdd : (s.drop p).drop (hd (s.drop p)) = s.drop (p + hd (s.drop p)) := by rw [List.drop_drop]
    have hhd : (((s.getD (p : Int).toNat 0).toNat : Nat) : Int) = (hd (s.drop p) : Int) := by
     unfold hd
     simp [List.getD_eq_getElem?_getD]
    simp only [loopF, F103_l22]
    rw [decide_eq_true (by omega : (p : Int) < (s.length : Nat)), inb_true (by omega) (by omega), hhd]
    unfold spl sts
    rw [if_neg hr, if_neg hr, hdd]
    generalize hk : hd (s.drop p) = k at *
    rw [w64 (n := (k : Int)) (by omega) (by omega), w64 (n := ((s.length : Nat) : Int) - (p : Int)) (by omega) (by omega)]
    simp only [cond_true]
    by_cases h1 : k < 2
    ·rw [decide_eq_true (by omega : (k : Int) < 2), if_pos h1]; rfl
    ·rw [decide_eq_false (by omega : ¬ (k : Int) < 2), if_neg h1]
     by_cases h2 : (s.drop p).length < k
     ·rw [decide_eq_true (by omega : ((s.length : Nat) : Int) - (p : Int) < (k : Int)), if_pos h2]; rfl
     ·rw [decide_eq_false (by omega : ¬ ((s.length : Nat) : Int) - (p : Int) < (k : Int)), if_neg h2]
      have k3 : M0.length + [(p : Int)].length ≤ 17592186044416 := by simp; omega
      rw [decide_eq_true k3, w64 (n := (p : Int) + (k : Int)) (by omega) (by omega)]
      simp only [cond_true, cond_false]
      have e6 : (p : Int) + (k : Int) = ((p + k : Nat) : Int) := by omega
      rw [e6, f27_one n s hs5 hn f (p + k) (M0 ++ [(p : Int)]) m (by omega) (by omega) (by simp; omega) (by omega) (by omega)]
      by_cases h3 : (spl f (s.drop (p + k))).1 = 0
      ·simp [h3]
      ·simp [h3]
theorem allInC (m x : Int) (l : List Int) : allIn m (x :: l) = true ↔ (0 ≤ x ∧ x ≤ m) ∧ allIn m l = true := by
 simp only [allIn, List.all_cons, Bool.and_eq_true, inR2]
 exact ⟨fun h => ⟨of_decide_eq_true h.1, h.2⟩, fun h => ⟨decide_eq_true h.1, h.2⟩⟩
theorem allInN (m : Int) : allIn m [] = true ↔ True := by simp [allIn]
def pb (d : CTx) (i : Nat) : Int := (((d.getD i 0).toNat : Nat) : Int)
theorem pb_in (d : CTx) (i : Nat) : 0 ≤ pb d i ∧ pb d i < 256 := by
 have := (d.getD i 0).toNat_lt
 unfold pb
 omega
theorem u8n (b : UInt8) : UInt8.ofNat (IntKind.wrap .u8 ((b.toNat : Nat) : Int)).toNat = b := by
 have h := b.toNat_lt
 rw [show IntKind.wrap .u8 ((b.toNat : Nat) : Int) = ((b.toNat : Nat) : Int) by rw [u8w]; omega, Int.toNat_natCast]
 simp
theorem putV_cons (x : Int) (l : List Int) : putV (x :: l) = UInt8.ofNat (IntKind.wrap .u8 x).toNat :: putV l := rfl
theorem putV_nil : putV [] = [] := rfl
theorem ofV {x : Int} (h : 0 ≤ x ∧ x < 256) : (((UInt8.ofNat (IntKind.wrap .u8 x).toNat).toNat : Nat) : Int) = x := by
 rw [show IntKind.wrap .u8 x = x by rw [u8w]; omega]
 rw [UInt8.toNat_ofNat_of_lt' (by show x.toNat < 256; omega)]
 omega
theorem nine {d : CTx} (h : d.length = 9) : d = putV [pb d 0, pb d 1, pb d 2, pb d 3, pb d 4, pb d 5, pb d 6, pb d 7, pb d 8] := by
 match d, h with
 | [a0, a1, a2, a3, a4, a5, a6, a7, a8], _ =>
  simp only [putV_cons, putV_nil, pb, List.getD_cons_zero, List.getD_cons_succ, u8n]
theorem seven {d : CTx} (h : d.length = 7) : d = putV [pb d 0, pb d 1, pb d 2, pb d 3, pb d 4, pb d 5, pb d 6] := by
 match d, h with
 | [a0, a1, a2, a3, a4, a5, a6], _ =>
  simp only [putV_cons, putV_nil, pb, List.getD_cons_zero, List.getD_cons_succ, u8n]
def GoodP (d : CTx) : Prop := 2 ≤ d.length ∧ hd d = d.length
theorem GoodP.pb0 {d : CTx} (h : GoodP d) : pb d 0 = (d.length : Int) := by
 have := h.2
 unfold hd at this
 unfold pb
 rw [this]
theorem spl_flat : ∀ (ps : List CTx) (f : Nat), (∀ d ∈ ps, GoodP d) → ps.flatten.length ≤ f → spl f ps.flatten = (0, ps)
 | [], f, _, _ => spl_nil f
 | d :: ps, f, h, hf => by
  obtain ⟨h1, h2⟩ := h d (List.mem_cons_self ..)
  simp only [List.flatten_cons, List.length_append] at hf ⊢
  have hh : hd (d ++ ps.flatten) = d.length := by
   rw [← h2]
   unfold hd
   rw [List.getD_eq_getElem?_getD, List.getElem?_append_left (by omega), ← List.getD_eq_getElem?_getD]
  cases f with
  | zero => omega
  | succ f =>
   unfold spl
   have ne : d ++ ps.flatten ≠ [] := by
    intro e
    have := congrArg List.length e
    simp only [List.length_append, List.length_nil] at this
    omega
   rw [if_neg ne, hh, if_neg (by omega), if_neg (by rw [List.length_append]; omega), List.drop_left, List.take_left,
    spl_flat ps f (fun x hx => h x (List.mem_cons_of_mem _ hx)) (by omega)]
   rfl
theorem spl_good : ∀ (f : Nat) (s : CTx), (spl f s).1 = 0 → ∀ d ∈ (spl f s).2, GoodP d
 | 0, s, _, d, hd' => by cases hd'
 | f + 1, s, h, d, hd' => by
  unfold spl at h hd'
  split at h
  ·rename_i h0; rw [if_pos h0] at hd'; cases hd'
  rename_i h0; rw [if_neg h0] at hd'
  split at h
  ·cases h
  rename_i h1; rw [if_neg h1] at hd'
  split at h
  ·cases h
  rename_i h2; rw [if_neg h2] at hd'
  split at h
  ·rename_i h3
   rw [if_pos h3] at hd'
   rcases List.mem_cons.1 hd' with e | e
   ·subst e
    have hl : (s.take (hd s)).length = hd s := by rw [List.length_take]; omega
    refine ⟨by omega, ?_⟩
    rw [hl]
    have hs : 0 < s.length := List.length_pos_iff.2 h0
    unfold hd at h1 ⊢
    rw [List.getD_eq_getElem?_getD, List.getElem?_take, if_pos (by omega), ← List.getD_eq_getElem?_getD]
   ·exact spl_good f _ h3 d e
  ·rename_i h3; exact absurd h h3
theorem spl_cat : ∀ (f : Nat) (s : CTx), s.length ≤ f → (spl f s).1 = 0 → (spl f s).2.flatten = s
 | 0, s, hf, _ => by
  have : s = [] := List.length_eq_zero_iff.1 (by omega)
  subst this; rfl
 | f + 1, s, hf, h => by
  unfold spl at h ⊢
  split at h
  ·rename_i h0; subst h0; rw [if_pos rfl]; rfl
  rename_i h0; rw [if_neg h0]
  split at h
  ·cases h
  rename_i h1; rw [if_neg h1]
  split at h
  ·cases h
  rename_i h2; rw [if_neg h2]
  split at h
  ·rename_i h3
   rw [if_pos h3, List.flatten_cons, spl_cat f _ (by rw [List.length_drop]; omega) h3, List.take_append_drop]
  ·rename_i h3; exact absurd h h3
def faceP (i : Nat) (f : CFace) : CTx := putV [9, 4, (i : Int), 0, ((f.2.2.2.2.2.length : Nat) : Int), f.1, f.2.1, f.2.2.1, f.2.2.2.1]
def facesP : Nat → List CFace → List CTx
 | _, [] => []
 | i, f :: l => faceP i f :: (f.2.2.2.2.1 ++ (f.2.2.2.2.2.map endT ++ facesP (i + 1) l))
def hdrP (v nm at' pw : Int) (len n : Nat) : CTx := putV [9, 2, 9 + (n : Int), shrI .i64 (9 + (n : Int)) 8, (len : Int), v, nm, at', pw]
theorem join_flat (l : List CTx) : Lib.join l [] = l.flatten := by
 cases l with
 | nil => rfl
 | cons x r =>
  rw [Lib.join_cons]
  simp [Lib.joinTail]
theorem faceT_flat (i : Nat) (f : CFace) : faceT i f = faceP i f ++ (f.2.2.2.2.1.flatten ++ (f.2.2.2.2.2.map endT).flatten) := by
 unfold faceT faceP endsT
 rw [join_flat, List.append_assoc, List.flatMap_def]
def FaceOk (f : CFace) : Prop := ∃ A, faceE f A = 0
theorem goF_parts {v nm at' pw : Int} {len : Nat} : ∀ (Fs : List CFace) (i : Nat) (rest : CTx) (A : List CK) (s : CTx), goF v nm at' pw len i rest A Fs = (s, 0) → s = finT v nm at' pw len (rest ++ (facesP i Fs).flatten) ∧ ∀ f ∈ Fs, FaceOk f
 | [], i, rest, A, s, h => by
  simp only [goF, Prod.mk.injEq] at h
  refine ⟨by rw [← h.1]; simp [facesP], fun f hf => by cases hf⟩
 | f :: l, i, rest, A, s, h => by
  unfold goF at h
  split at h
  ·rename_i h0
   obtain ⟨h1, h2⟩ := goF_parts l (i + 1) _ _ s h
   refine ⟨?_, fun x hx => ?_⟩
   ·rw [h1, faceT_flat]
    simp only [facesP, List.flatten_cons, List.flatten_append, List.append_assoc]
   ·rcases List.mem_cons.1 hx with e | e
    ·exact e ▸ ⟨A, h0⟩
    ·exact h2 x e
  ·rename_i h0
   simp only [Prod.mk.injEq] at h
   exact absurd h.2 h0
theorem conf_parts {v nm at' pw : Int} {Fs : List CFace} {s : CTx} (h : confV v nm at' pw Fs = (s, 0)) :
  s = (hdrP v nm at' pw Fs.length (facesP 0 Fs).flatten.length :: facesP 0 Fs).flatten ∧ (1 ≤ v ∧ v ≤ 255) ∧ allIn 255 [nm, at', pw] = true ∧ Fs.length ≤ 4 ∧ ∀ f ∈ Fs, FaceOk f := by
 unfold confV at h
 split at h
 ·simp at h
 rename_i h1
 split at h
 ·simp at h
 rename_i h2
 obtain ⟨h3, h4⟩ := goF_parts Fs 0 [] [] s h
 simp only [not_or, Decidable.not_not] at h1
 refine ⟨?_, h1.1, by simpa using h1.2, by omega, h4⟩
 rw [h3]
 simp only [finT, hdrP, List.nil_append, List.flatten_cons]
 rw [← putV_app, ← putV_app]
 rfl
theorem faceP_good (i : Nat) (f : CFace) : GoodP (faceP i f) := by
 refine ⟨by unfold faceP; rw [putV_len]; simp, ?_⟩
 unfold faceP; rw [putV_len]; rfl
theorem endT_good (d : CEnd) : GoodP (endT d) := by
 refine ⟨by unfold endT; rw [putV_len]; simp, ?_⟩
 unfold endT; rw [putV_len]; rfl
theorem hdrP_good (v nm at' pw : Int) (len n : Nat) : GoodP (hdrP v nm at' pw len n) := by
 refine ⟨by unfold hdrP; rw [putV_len]; simp, ?_⟩
 unfold hdrP; rw [putV_len]; rfl
theorem ex_good {x : CTx} (h : exOk x) : GoodP x := ⟨h.1.1, h.2.1⟩
theorem FaceOk.parts {f : CFace} (h : FaceOk f) : allIn 255 [f.1, f.2.1, f.2.2.1, f.2.2.2.1] = true ∧ (∀ x ∈ f.2.2.2.2.1, exOk x) ∧ f.2.2.2.2.2.length ≤ 4 ∧ ∀ d ∈ f.2.2.2.2.2, endOk d := by
 obtain ⟨A, h⟩ := h
 obtain ⟨h1, _, h3, h4, h5⟩ := face_ok h
 exact ⟨h1, h3, h4, endsE_ok _ _ h5⟩
theorem faces_good : ∀ (Fs : List CFace) (i : Nat), (∀ f ∈ Fs, FaceOk f) → ∀ d ∈ facesP i Fs, GoodP d
 | [], _, _, d, hd' => by cases hd'
 | f :: l, i, h, d, hd' => by
  obtain ⟨_, h2, _, _⟩ := (h f (List.mem_cons_self ..)).parts
  simp only [facesP, List.mem_cons, List.mem_append, List.mem_map] at hd'
  rcases hd' with e | e | ⟨x, _, e⟩ | e
  ·exact e ▸ faceP_good i f
  ·exact ex_good (h2 d e)
  ·exact e ▸ endT_good x
  ·exact faces_good l (i + 1) (fun x hx => h x (List.mem_cons_of_mem _ hx)) d e
def endV (d : CTx) : CEnd := (pb d 2 % 128, decide (pb d 2 ≥ 128), pb d 3, pb d 4 + 256 * pb d 5, pb d 6)
def newF (d : CTx) : CFace := (pb d 5, pb d 6, pb d 7, pb d 8, [], [])
abbrev RSt := List CFace × Bool × CFace
def addS : RSt → CTx → Option RSt
 | (l, z, f), d =>
  if pb d 1 = 4 ∧ d.length = 9 then some (l ++ cond z [f] [], true, newF d)
  else if z = false then none
  else if pb d 1 = 5 ∧ d.length = 7 then some (l, z, (f.1, f.2.1, f.2.2.1, f.2.2.2.1, f.2.2.2.2.1, f.2.2.2.2.2 ++ [endV d]))
  else if 6 ≤ pb d 1 then some (l, z, (f.1, f.2.1, f.2.2.1, f.2.2.2.1, f.2.2.2.2.1 ++ [d], f.2.2.2.2.2))
  else none
def addAll : RSt → List CTx → Option RSt
 | s, [] => some s
 | s, d :: l => (addS s d).bind fun s' => addAll s' l
theorem addAll_app : ∀ (a b : List CTx) (s : RSt), addAll s (a ++ b) = (addAll s a).bind fun s' => addAll s' b
 | [], b, s => rfl
 | d :: a, b, s => by
  simp only [List.cons_append, addAll]
  cases addS s d with
  | none => rfl
  | some s' => exact addAll_app a b s'
theorem add_ex (l : List CFace) (a b c e : Int) (E : List CEnd) : ∀ (X Y : List CTx), (∀ x ∈ X, exOk x) → addAll (l, true, (a, b, c, e, Y, E)) X = some (l, true, (a, b, c, e, Y ++ X, E))
 | [], Y, _ => by simp [addAll]
 | x :: X, Y, h => by
  have hx := (h x (List.mem_cons_self ..)).2.2
  have hp : 6 ≤ pb x 1 := by unfold pb; omega
  simp only [addAll, addS]
  rw [if_neg (by omega), if_neg (by simp), if_neg (by omega), if_pos hp]
  simp only [Option.bind_some]
  rw [add_ex l a b c e E X (Y ++ [x]) (fun y hy => h y (List.mem_cons_of_mem _ hy))]
  simp
theorem endT_bytes {d : CEnd} (h : endOk d) : pb (endT d) 1 = 5 ∧ (endT d).length = 7 ∧ endV (endT d) = d := by
 obtain ⟨a, i, k, m, t⟩ := d
 obtain ⟨h1, h2, h3, h4⟩ := h
 simp only at h1 h2 h3 h4
 have hA : 0 ≤ endA (a, i, k, m, t) ∧ endA (a, i, k, m, t) < 256 := by unfold endA; cases i <;> simp <;> omega
 refine ⟨rfl, by unfold endT; rw [putV_len]; rfl, ?_⟩
 have e2 : pb (endT (a, i, k, m, t)) 2 = endA (a, i, k, m, t) := ofV hA
 have e3 : pb (endT (a, i, k, m, t)) 3 = k := ofV (show 0 ≤ k ∧ k < 256 by omega)
 have e4 : pb (endT (a, i, k, m, t)) 4 = m := ofV (show 0 ≤ m ∧ m < 256 by omega)
 have e5 : pb (endT (a, i, k, m, t)) 5 = 0 := rfl
 have e6 : pb (endT (a, i, k, m, t)) 6 = t := ofV (show 0 ≤ t ∧ t < 256 by omega)
 unfold endV
 rw [e2, e3, e4, e5, e6]
 unfold endA
 cases i with
 | true =>
  simp only [if_true, Prod.mk.injEq, decide_eq_true_eq, true_and, and_true]
  exact ⟨by omega, by omega, by omega⟩
 | false =>
  simp only [Bool.false_eq_true, if_false, Prod.mk.injEq, decide_eq_false_iff_not, true_and, and_true]
  exact ⟨by omega, by omega, by omega⟩
theorem add_en (l : List CFace) (a b c e : Int) (X : List CTx) : ∀ (E Y : List CEnd), (∀ d ∈ E, endOk d) → addAll (l, true, (a, b, c, e, X, Y)) (E.map endT) = some (l, true, (a, b, c, e, X, Y ++ E))
 | [], Y, _ => by simp [addAll]
 | d :: E, Y, h => by
  obtain ⟨h1, h2, h3⟩ := endT_bytes (h d (List.mem_cons_self ..))
  simp only [List.map_cons, addAll, addS]
  rw [if_neg (by omega), if_neg (by simp), if_pos ⟨h1, h2⟩, h3]
  simp only [Option.bind_some]
  rw [add_en l a b c e X E (Y ++ [d]) (fun y hy => h y (List.mem_cons_of_mem _ hy))]
  simp
theorem faceP_bytes {f : CFace} {i : Nat} (hi : i < 256) (h : FaceOk f) : (faceP i f).length = 9 ∧ pb (faceP i f) 1 = 4 ∧ pb (faceP i f) 2 = i ∧ pb (faceP i f) 3 = 0 ∧ pb (faceP i f) 4 = (f.2.2.2.2.2.length : Int) ∧ newF (faceP i f) = (f.1, f.2.1, f.2.2.1, f.2.2.2.1, [], []) := by
 obtain ⟨h1, _, h4, _⟩ := h.parts
 simp only [allInC, allInN] at h1
 obtain ⟨g1, g2, g3, g4, _⟩ := h1
 refine ⟨by unfold faceP; rw [putV_len]; rfl, rfl, ofV (by omega), rfl, ofV (by omega), ?_⟩
 unfold newF
 rw [show pb (faceP i f) 5 = f.1 from ofV (by omega), show pb (faceP i f) 6 = f.2.1 from ofV (by omega), show pb (faceP i f) 7 = f.2.2.1 from ofV (by omega), show pb (faceP i f) 8 = f.2.2.2.1 from ofV (by omega)]
theorem add_faces : ∀ (Fs : List CFace) (i : Nat) (l : List CFace) (z : Bool) (f : CFace), (∀ f ∈ Fs, FaceOk f) → i + Fs.length < 256 → ∃ l' z' f', addAll (l, z, f) (facesP i Fs) = some (l', z', f') ∧ l' ++ cond z' [f'] [] = l ++ cond z [f] [] ++ Fs
 | [], i, l, z, f, _, _ => ⟨l, z, f, rfl, by simp⟩
 | g :: Fs, i, l, z, f, h, hi => by
  simp only [List.length_cons] at hi
  have hg := h g (List.mem_cons_self ..)
  obtain ⟨b1, b2, b3, b4, b5, b6⟩ := faceP_bytes (i := i) (by omega) hg
  obtain ⟨_, g2, _, g4⟩ := hg.parts
  obtain ⟨l', z', f', h1, h2⟩ := add_faces Fs (i + 1) (l ++ cond z [f] []) true g (fun x hx => h x (List.mem_cons_of_mem _ hx)) (by omega)
  refine ⟨l', z', f', ?_, by rw [h2]; simp⟩
  simp only [facesP, addAll, addS]
  rw [if_pos ⟨b2, b1⟩, b6]
  simp only [Option.bind_some]
  rw [addAll_app, add_ex _ _ _ _ _ _ _ _ g2]
  simp only [Option.bind_some, List.nil_append]
  rw [addAll_app, add_en _ _ _ _ _ _ _ _ g4]
  simp only [Option.bind_some, List.nil_append]
  exact h1
def exts : List CTx → List CTx × List CTx
 | [] => ([], [])
 | d :: l => if pb d 1 > 5 then (d :: (exts l).1, (exts l).2) else ([], d :: l)
def ends : Nat → List CTx → Option (List CEnd × List CTx)
 | 0, l => some ([], l)
 | k + 1, [] => none
 | k + 1, d :: l => if d.length = 7 ∧ pb d 1 = 5 then (ends k l).map fun x => (endV d :: x.1, x.2) else none
def parseF : Nat → Nat → List CTx → Option (List CFace × List CTx)
 | 0, _, l => some ([], l)
 | c + 1, i, [] => none
 | c + 1, i, d :: l =>
  if d.length = 9 ∧ pb d 1 = 4 ∧ pb d 2 = (i : Int) ∧ pb d 3 = 0 then
   match ends (pb d 4).toNat (exts l).2 with
   | some (E, r) => (parseF c (i + 1) r).map fun x => ((pb d 5, pb d 6, pb d 7, pb d 8, (exts l).1, E) :: x.1, x.2)
   | none => none
  else none
theorem exts_eq : ∀ (l : List CTx), l = (exts l).1 ++ (exts l).2
 | [] => rfl
 | d :: l => by
  unfold exts
  split
  ·simp only [List.cons_append]
   rw [← exts_eq l]
  ·rfl
theorem exts_of : ∀ (X r : List CTx), (∀ x ∈ X, exOk x) → (∀ d ∈ r.head?, pb d 1 ≤ 5) → exts (X ++ r) = (X, r)
 | [], r, _, h => by
  cases r with
  | nil => rfl
  | cons d r =>
   have := h d rfl
   simp only [List.nil_append, exts]
   rw [if_neg (by omega)]
 | x :: X, r, h, hr => by
  have hx := (h x (List.mem_cons_self ..)).2.2
  have hp : pb x 1 > 5 := by unfold pb; omega
  simp only [List.cons_append, exts]
  rw [if_pos hp, exts_of X r (fun y hy => h y (List.mem_cons_of_mem _ hy)) hr]
theorem endV_T {d : CTx} (h7 : d.length = 7) (h5 : pb d 1 = 5) (hg : GoodP d) (he : endOk (endV d)) : endT (endV d) = d := by
 have h0 := hg.pb0
 rw [h7] at h0
 obtain ⟨_, _, h3, _⟩ := he
 have i2 := pb_in d 2
 have i4 := pb_in d 4
 have i5 := pb_in d 5
 simp only [endV] at h3
 have z5 : pb d 5 = 0 := by omega
 have eA : endA (endV d) = pb d 2 := by
  unfold endA endV
  by_cases h : pb d 2 ≥ 128
  ·simp only [decide_eq_true h, if_true]; omega
  ·simp only [decide_eq_false h, Bool.false_eq_true, if_false]; omega
 have e4 : pb d 4 + 256 * pb d 5 = pb d 4 := by omega
 conv => rhs; rw [seven h7]
 unfold endT
 rw [eA]
 simp only [endV, e4, z5, h0, h5]
 rfl
theorem ends_eq : ∀ (k : Nat) (l : List CTx) (E : List CEnd) (r : List CTx), ends k l = some (E, r) → (∀ d ∈ l, GoodP d) → (∀ x ∈ E, endOk x) → l = E.map endT ++ r ∧ E.length = k
 | 0, l, E, r, h, _, _ => by
  simp only [ends, Option.some.injEq, Prod.mk.injEq] at h
  obtain ⟨rfl, rfl⟩ := h
  exact ⟨rfl, rfl⟩
 | k + 1, [], E, r, h, _, _ => by cases h
 | k + 1, d :: l, E, r, h, hg, he => by
  unfold ends at h
  split at h
  ·rename_i hd'
   simp only [Option.map_eq_some_iff] at h
   obtain ⟨⟨E', r'⟩, h1, h2⟩ := h
   simp only [Prod.mk.injEq] at h2
   obtain ⟨rfl, rfl⟩ := h2
   obtain ⟨h3, h4⟩ := ends_eq k l E' r' h1 (fun x hx => hg x (List.mem_cons_of_mem _ hx)) (fun x hx => he x (List.mem_cons_of_mem _ hx))
   refine ⟨?_, by simp [h4]⟩
   rw [List.map_cons, endV_T hd'.1 hd'.2 (hg d (List.mem_cons_self ..)) (he _ (List.mem_cons_self ..)), List.cons_append, ← h3]
  ·cases h
theorem ends_of : ∀ (E : List CEnd) (r : List CTx), (∀ x ∈ E, endOk x) → ends E.length (E.map endT ++ r) = some (E, r)
 | [], r, _ => rfl
 | d :: E, r, h => by
  obtain ⟨h1, h2, h3⟩ := endT_bytes (h d (List.mem_cons_self ..))
  simp only [List.length_cons, List.map_cons, List.cons_append, ends]
  rw [if_pos ⟨h2, h1⟩, ends_of E r (fun x hx => h x (List.mem_cons_of_mem _ hx)), h3]
  rfl
theorem parse_of : ∀ (Fs : List CFace) (i : Nat), (∀ f ∈ Fs, FaceOk f) → i + Fs.length < 256 → parseF Fs.length i (facesP i Fs) = some (Fs, [])
 | [], i, _, _ => rfl
 | g :: Fs, i, h, hi => by
  simp only [List.length_cons] at hi
  have hg := h g (List.mem_cons_self ..)
  obtain ⟨b1, b2, b3, b4, b5, b6⟩ := faceP_bytes (i := i) (by omega) hg
  obtain ⟨_, g2, _, g4⟩ := hg.parts
  have hr : ∀ d ∈ (g.2.2.2.2.2.map endT ++ facesP (i + 1) Fs).head?, pb d 1 ≤ 5 := by
   intro d hd'
   cases hE : g.2.2.2.2.2 with
   | cons x E =>
    rw [hE] at hd'
    simp only [List.map_cons, List.cons_append, List.head?_cons, Option.mem_def, Option.some.injEq] at hd'
    subst hd'
    have := (endT_bytes (g4 x (by rw [hE]; exact List.mem_cons_self ..))).1
    omega
   | nil =>
    rw [hE] at hd'
    cases Fs with
    | nil => cases hd'
    | cons y Fs =>
     simp only [List.map_nil, List.nil_append, facesP, List.head?_cons, Option.mem_def, Option.some.injEq] at hd'
     subst hd'
     have := (faceP_bytes (i := i + 1) (by omega) (h y (by simp))).2.1
     omega
  simp only [List.length_cons, facesP, parseF]
  rw [if_pos ⟨b1, b2, b3, b4⟩, exts_of _ _ g2 hr, b5]
  simp only [Int.toNat_natCast]
  rw [ends_of _ _ g4]
  simp only
  rw [parse_of Fs (i + 1) (fun x hx => h x (List.mem_cons_of_mem _ hx)) (by omega)]
  unfold newF at b6
  simp only [Prod.mk.injEq, and_true] at b6
  obtain ⟨c1, c2, c3, c4⟩ := b6
  simp only [Option.map_some, c1, c2, c3, c4]
theorem parse_eq : ∀ (c i : Nat) (l : List CTx) (Fs : List CFace) (r : List CTx), parseF c i l = some (Fs, r) → (∀ d ∈ l, GoodP d) → (∀ f ∈ Fs, FaceOk f) → l = facesP i Fs ++ r ∧ Fs.length = c
 | 0, i, l, Fs, r, h, _, _ => by
  simp only [parseF, Option.some.injEq, Prod.mk.injEq] at h
  obtain ⟨rfl, rfl⟩ := h
  exact ⟨rfl, rfl⟩
 | c + 1, i, [], Fs, r, h, _, _ => by cases h
 | c + 1, i, d :: l, Fs, r, h, hg, hF => by
  unfold parseF at h
  split at h
  ·rename_i hd'
   obtain ⟨h9, h4, hi, h3⟩ := hd'
   split at h
   ·rename_i E r1 he
    simp only [Option.map_eq_some_iff] at h
    obtain ⟨⟨Fs', r'⟩, h1, h2⟩ := h
    simp only [Prod.mk.injEq] at h2
    obtain ⟨rfl, rfl⟩ := h2
    have hf := hF _ (List.mem_cons_self ..)
    obtain ⟨_, _, _, g4⟩ := hf.parts
    have hl := exts_eq l
    have hgl : ∀ x ∈ (exts l).2, GoodP x := fun x hx => hg x (List.mem_cons_of_mem _ (by rw [hl]; exact List.mem_append.2 (.inr hx)))
    obtain ⟨k1, k2⟩ := ends_eq _ _ _ _ he hgl g4
    have hgr : ∀ x ∈ r1, GoodP x := fun x hx => hgl x (by rw [k1]; exact List.mem_append.2 (.inr hx))
    obtain ⟨k3, k4⟩ := parse_eq c (i + 1) r1 Fs' r' h1 hgr (fun x hx => hF x (List.mem_cons_of_mem _ hx))
    refine ⟨?_, by simp [k4]⟩
    have hd0 := (hg d (List.mem_cons_self ..)).pb0
    rw [h9] at hd0
    have hE : ((E.length : Nat) : Int) = pb d 4 := by have := pb_in d 4; omega
    have ed : faceP i (pb d 5, pb d 6, pb d 7, pb d 8, (exts l).1, E) = d := by
     conv => rhs; rw [nine h9]
     unfold faceP
     simp only [hE, hd0, h4, hi, h3]
     rfl
    simp only [facesP, List.cons_append, List.append_assoc]
    rw [ed, ← k3, ← k1, ← hl]
   ·cases h
  ·cases h
theorem wpb (d : CTx) (i : Nat) : IntKind.wrap .i64 (((d.getD i 0).toNat : Nat) : Int) = pb d i := by
 have := pb_in d i
 unfold pb at this ⊢
 exact w64 (by omega) (by omega)
theorem wpb2 (d : CTx) (i : Nat) : IntKind.wrap .i64 (pb d i) = pb d i := wpb d i
theorem epb (d : CTx) (i : Nat) : (((d.getD i 0).toNat : Nat) : Int) = pb d i := rfl
theorem atP (n : Nat) (d : CTx) (i : Nat) (h : i < d.length) : F107 n (i : Int) d = some (pb d i) := by
 unfold F107
 rw [inb_true (by omega) (by omega)]
 simp only [cond_true, Int.toNat_natCast]
 rw [wpb]
theorem wdP (n : Nat) (d : CTx) (h : 5 < d.length) : F94 n d 4 = some (pb d 4 + 256 * pb d 5) := by
 have b0 := (d.getD 4 0).toNat_lt
 have b1 := (d.getD 5 0).toNat_lt
 unfold F94
 rw [w64 (n := (4 : Int) + 1) (by omega) (by omega), inb_true (by omega) (show (4 : Int) < d.length by omega), inb_true (by omega) (show (4 : Int) + 1 < d.length by omega)]
 simp only [cond_true]
 show some (bitsI .or .i64 (IntKind.wrap .i64 (((d.getD 4 0).toNat : Nat) : Int)) (shlI .i64 (IntKind.wrap .i64 (((d.getD 5 0).toNat : Nat) : Int)) 8)) = _
 rw [w64n _ (by omega), w64n _ (by omega), show (8 : Int) = ((8 : Nat) : Int) from rfl, shl_mul _ 8 (by omega) (by omega), bOrAdd _ _ 8 (by omega) (by omega)]
 unfold pb
 congr 1
 omega
theorem wdR (n : Nat) (d : CTx) (i : Nat) (h : i + 1 < d.length) (hi : i ≤ 100) : F80 n d (i : Int) = some (pb d i + 256 * pb d (i + 1)) := by
 have b0 := pb_in d i
 have b1 := pb_in d (i + 1)
 unfold F80
 rw [w64 (n := (i : Int) + 1) (by omega) (by omega), show (i : Int) + 1 = ((i + 1 : Nat) : Int) by omega, inb_true (by omega) (show (i : Int) < d.length by omega), inb_true (by omega) (show ((i + 1 : Nat) : Int) < d.length by omega)]
 simp only [cond_true, Int.toNat_natCast, wpb]
 rw [w64 (n := 256 * pb d (i + 1)) (by omega) (by omega), w64 (by omega) (by omega)]
 congr 1
 omega
theorem and127 (d : CTx) : bitsI .and .i64 (pb d 2) 127 = pb d 2 % 128 := by
 have b0 := (d.getD 2 0).toNat_lt
 have := bMask (d.getD 2 0).toNat 7 (by omega) (by omega)
 unfold pb
 rw [show (127 : Int) = ((2 ^ 7 - 1 : Nat) : Int) from rfl, this]
 omega
def errC : Int × Int × Int × Int × List CFace × Int := (0, 0, 0, 0, [], 4)
section
variable (n : Nat) (s : CTx) (y : Int × List CTx) (K : Int × List CFace × Bool × Int × Int × Int × Int × List CTx × List CEnd → Option (Int × Int × Int × Int × List CFace × Int))
theorem addP (x : Nat) (l : List CFace) (z : Bool) (a b c e : Int) (X : List CTx) (E : List CEnd) (d : CTx) (hx : (y.2.drop 1).getD x [] = d) (h1 : x < (y.2.drop 1).length) (hx9 : x ≤ 10000) (h2 : 2 ≤ d.length)
  (hl : l.length ≤ 10000) (hX : X.length ≤ 10000) (hE : E.length ≤ 10000) (hz : z = false → l = []) :
  F69_l23 n s y K ((x : Int), l, z, a, b, c, e, X, E) = match addS (l, z, (a, b, c, e, X, E)) d with
   | none => some errC
   | some (l', z', f') => K (((x + 1 : Nat) : Int), l', z', f'.1, f'.2.1, f'.2.2.1, f'.2.2.2.1, f'.2.2.2.2.1, f'.2.2.2.2.2) := by
 have hx1 : (x : Int) < (((y.2.drop 1).length : Nat) : Int) := by omega
 have hw : IntKind.wrap .i64 ((x : Int) + 1) = ((x + 1 : Nat) : Int) := by rw [w64 (by omega) (by omega)]; omega
 have hW : IntKind.wrap .i64 (((l.length + cond z 1 0 : Nat) : Int) - 1) = ((l.length + cond z 1 0 : Nat) : Int) - 1 := w64 (by cases z <;> simp <;> omega) (by cases z <;> simp <;> omega)
 have hi1 : inb 1 d.length = true := inb_true (by omega) (by omega)
 simp only [F69_l23, decide_eq_true hx1, inb_true (Int.natCast_nonneg x) hx1, cond_true, Int.toNat_natCast, hx, hi1, epb, hW]
 have j25 : ∀ v : Bool × List CFace × Bool × Int × Int × Int × Int × List CTx × List CEnd, F69_j25 n K (x : Int) v = if v.1 = false then some errC else K (((x + 1 : Nat) : Int), v.2) := by
  rintro ⟨v1, v2, v3, v4, v5, v6, v7, v8, v9⟩
  simp only [F69_j25, hw]
  cases v1 <;> rfl
 have j26 : ∀ v, F69_j26 n K (x : Int) v = K (((x + 1 : Nat) : Int), v) := by
  rintro ⟨v2, v3, v4, v5, v6, v7, v8, v9⟩
  simp only [F69_j26, j25]
  rfl
 simp only [j25, j26]
 have kX : decide (X.length + [d].length ≤ 8796093022208) = true := decide_eq_true (by simp; omega)
 have kF : decide ((l ++ cond z [((a, b, c, e, X, E) : CFace)] []).length + 1 ≤ 1759218604441) = true := decide_eq_true (by cases z <;> simp <;> omega)
 have kE : ∀ v : CEnd, decide (E.length + [v].length ≤ 3518437208883) = true := fun v => decide_eq_true (by simp; omega)
 by_cases q : pb d 1 = 4 ∧ d.length = 9
 ·obtain ⟨q4, q9⟩ := q
  have a5 := atP n d 5 (by omega)
  have a6 := atP n d 6 (by omega)
  have a7 := atP n d 7 (by omega)
  have a8 := atP n d 8 (by omega)
  simp only [Int.cast_ofNat_Int] at a5 a6 a7 a8
  rw [show (pb d 1 == 4) = true from beq_iff_eq.2 q4, show (((d.length : Nat) : Int) == 9) = true from beq_iff_eq.2 (by omega)]
  simp only [cond_true, a5, a6, a7, a8, Option.bind_some, kF, addS, List.append_nil]
  rw [if_pos ⟨q4, q9⟩]
  rfl
 ·have hdup : ∀ {T : Type} (c1 c2 : Bool) (A R : T), (c1 && c2) = false → (bif c1 then (bif c2 then A else R) else R) = R := by
   intro T c1 c2 A R h
   cases c1
   ·rfl
   ·cases c2
    ·rfl
    ·cases h
  have c49 : ((pb d 1 == 4) && (((d.length : Nat) : Int) == 9)) = false := by
   rw [Bool.and_eq_false_iff]
   by_cases q4 : pb d 1 = 4
   ·exact .inr (beq_eq_false_iff_ne.2 fun h => q ⟨q4, by omega⟩)
   ·exact .inl (beq_eq_false_iff_ne.2 q4)
  rw [hdup _ _ _ _ c49]
  simp only [addS]
  rw [if_neg q]
  cases z with
  | false =>
   obtain rfl := hz rfl
   rfl
  | true =>
   have e1 : decide ((((l.length + cond true 1 0 : Nat) : Int) - 1) < 0) = false := decide_eq_false (by simp only [cond_true]; omega)
   have e2 : decide (((l.length + cond true 1 0 : Nat) : Int) - 1 = ((l.length : Nat) : Int)) = true := decide_eq_true (by simp only [cond_true]; omega)
   rw [e1, e2]
   simp only [cond_false, Bool.and_self, cond_true]
   rw [if_neg (show ¬ (true = false) by simp)]
   by_cases q5 : pb d 1 = 5 ∧ d.length = 7
   ·have a2 := atP n d 2 (by omega)
    have a3 := atP n d 3 (by omega)
    have a6 := atP n d 6 (by omega)
    simp only [Int.cast_ofNat_Int] at a2 a3 a6
    rw [show (pb d 1 == 5) = true from beq_iff_eq.2 q5.1, show (((d.length : Nat) : Int) == 7) = true from beq_iff_eq.2 (by omega), if_pos q5]
    simp only [cond_true, a2, a3, a6, wdP n d (by omega), Option.bind_some, inb_true (show (0 : Int) ≤ 2 by omega) (show (2 : Int) < d.length by omega), kE, and127]
    rfl
   ·have c57 : ((pb d 1 == 5) && (((d.length : Nat) : Int) == 7)) = false := by
     rw [Bool.and_eq_false_iff]
     by_cases q4 : pb d 1 = 5
     ·exact .inr (beq_eq_false_iff_ne.2 fun h => q5 ⟨q4, by omega⟩)
     ·exact .inl (beq_eq_false_iff_ne.2 q4)
    rw [hdup _ _ _ _ c57, if_neg q5]
    by_cases q6 : 6 ≤ pb d 1
    ·rw [decide_eq_true (show pb d 1 ≥ 6 from q6), if_pos q6, kX]
     rfl
    ·rw [decide_eq_false (show ¬ pb d 1 ≥ 6 from q6), if_neg q6]
     rfl
def endP (s : CTx) (h : CTx) (Fs : List CFace) : Int × Int × Int × Int × List CFace × Int :=
 if confV (pb h 5) (pb h 6) (pb h 7) (pb h 8) Fs = (s, 0) then (pb h 5, pb h 6, pb h 7, pb h 8, Fs, 0) else errC
theorem addLoop (hn : 2000 < n) (hy : (y.2.drop 1).length ≤ 600) : ∀ (ds : List CTx) (i m : Nat) (l : List CFace) (z : Bool) (f : CFace), ds = (y.2.drop 1).drop i → i ≤ (y.2.drop 1).length → ds.length < m → (∀ d ∈ ds, 2 ≤ d.length) →
  l.length + ds.length ≤ 5000 → f.2.2.2.2.1.length + ds.length ≤ 5000 → f.2.2.2.2.2.length + ds.length ≤ 5000 → (z = false → l = []) →
  loopF (F69_l23 n s y) m ((i : Int), l, z, f.1, f.2.1, f.2.2.1, f.2.2.2.1, f.2.2.2.2.1, f.2.2.2.2.2) = some (match addAll (l, z, f) ds with
   | none => errC
   | some (l', z', f') => endP s (y.2.getD 0 []) (l' ++ cond z' [f'] []))
 | ds, i, 0, l, z, f, _, _, hm, _, _, _, _, _ => by omega
 | [], i, m + 1, l, z, f, hds, hi, hm, _, _, _, _, _ => by
  have hil : (y.2.drop 1).length ≤ i := List.drop_eq_nil_iff.1 hds.symm
  have hnot : ¬ (i : Int) < (((y.2.drop 1).length : Nat) : Int) := by omega
  simp only [loopF, F69_l23, decide_eq_false hnot, cond_false, addAll, wpb]
  rw [confP n (by omega)]
  simp only [Option.bind_some, endP]
  generalize confV (pb (y.2.getD 0 []) 5) (pb (y.2.getD 0 []) 6) (pb (y.2.getD 0 []) 7) (pb (y.2.getD 0 []) 8) (l ++ cond z [(f.1, (f.2.1, (f.2.2.1, (f.2.2.2.1, (f.2.2.2.2.1, f.2.2.2.2.2)))))] []) = v at *
  obtain ⟨t, e⟩ := v
  by_cases he : e = 0
  ·subst he
   simp only [bne_self_eq_false, cond_false]
   by_cases ht : t = s
   ·subst ht
    simp
   ·rw [show (t == s) = false from beq_eq_false_iff_ne.2 ht, if_neg (by simp [ht])]
    rfl
  ·rw [show (e != 0) = true from bne_iff_ne.2 he, if_neg (by simp [he])]
   rfl
 | d :: ds, i, m + 1, l, z, f, hds, hi, hm, hg, hl, hX, hE, hz => by
  have hilt : i < (y.2.drop 1).length := by
   rcases Nat.lt_or_ge i (y.2.drop 1).length with h | h
   ·exact h
   ·rw [List.drop_eq_nil_of_le h] at hds; cases hds
  have hdd : (y.2.drop 1).getD i [] = d := by
   have := dropC (y.2.drop 1) i [] hilt
   rw [← hds] at this
   exact (List.cons.inj this).1.symm
  have hrest : ds = (y.2.drop 1).drop (i + 1) := by
   have := dropC (y.2.drop 1) i [] hilt
   rw [← hds] at this
   exact (List.cons.inj this).2
  obtain ⟨a, b, c, e, X, E⟩ := f
  simp only [List.length_cons] at hl hX hE hm
  have hst := addP n s y (loopF (F69_l23 n s y) m) i l z a b c e X E d hdd hilt (by omega) (hg d (List.mem_cons_self ..)) (by omega) (by omega) (by omega) hz
  rw [loopF, hst]
  simp only [addAll]
  have step : ∀ l' z' (f' : CFace), addS (l, z, (a, b, c, e, X, E)) d = some (l', z', f') → l'.length ≤ l.length + 1 ∧ f'.2.2.2.2.1.length ≤ X.length + 1 ∧ f'.2.2.2.2.2.length ≤ E.length + 1 ∧ (z' = false → l' = []) := by
   intro l' z' f' h
   simp only [addS] at h
   split at h
   ·simp only [Option.some.injEq, Prod.mk.injEq] at h
    obtain ⟨rfl, rfl, rfl⟩ := h
    exact ⟨by cases z <;> simp, by simp [newF], by simp [newF], fun h => by cases h⟩
   split at h
   ·cases h
   rename_i hz2
   split at h
   ·simp only [Option.some.injEq, Prod.mk.injEq] at h
    obtain ⟨rfl, rfl, rfl⟩ := h
    exact ⟨by omega, by simp, by simp, hz⟩
   split at h
   ·simp only [Option.some.injEq, Prod.mk.injEq] at h
    obtain ⟨rfl, rfl, rfl⟩ := h
    exact ⟨by omega, by simp, by simp, hz⟩
   ·cases h
  cases hs : addS (l, z, (a, b, c, e, X, E)) d with
  | none => rfl
  | some v =>
   obtain ⟨l', z', f'⟩ := v
   obtain ⟨s1, s2, s3, s4⟩ := step l' z' f' hs
   simp only [Option.bind_some]
   exact addLoop hn hy ds (i + 1) m l' z' f' hrest (by omega) (by omega) (fun x hx => hg x (List.mem_cons_of_mem _ hx)) (by omega) (by omega) (by omega) s4
end
def spV (s : CTx) : Int × List CTx := if s.length ≤ 512 then (if (spl s.length s).1 = 0 then (0, (spl s.length s).2) else ((spl s.length s).1, [])) else (2, [])
theorem splP (n : Nat) (hn : 600 < n) (s : CTx) : F95 n s = some (spV s) := by
 unfold F95 spV
 by_cases h5 : s.length ≤ 512
 ·rw [decide_eq_false (by omega : ¬ ((s.length : Nat) : Int) > 512), if_pos h5]
  simp only [cond_false]
  have h1 := f26_loop n s.length s [] n (Nat.le_refl _) h5 (by simpa using h5) (by omega)
  simp only [List.nil_append] at h1
  rw [h1]
 ·rw [decide_eq_true (by omega : ((s.length : Nat) : Int) > 512), if_neg h5]
  rfl
theorem splR (n : Nat) (hn : 600 < n) (s : CTx) : F103 n s = some (spV s) := by
 unfold F103 spV
 by_cases h5 : s.length ≤ 512
 ·rw [decide_eq_false (by omega : ¬ ((s.length : Nat) : Int) > 512), if_pos h5]
  simp only [cond_false]
  have h2 := f27_one n s h5 (by omega) s.length 0 [] n (by omega) (by omega) (by simp) (by omega) h5
  have h3 : (spl s.length s).1 = 0 → _ := fun h => f27_two n s h5 s.length 0 [] [] n (by omega) (by omega) (by simpa using h) (by simpa using h5) rfl (by omega)
  simp only [List.drop_zero, List.nil_append] at h2 h3
  rw [show ((0 : Int), ([] : List Int)) = (((0 : Nat) : Int), ([] : List Int)) from rfl, h2]
  by_cases h0 : (spl s.length s).1 = 0
  ·simp only [if_pos h0]
   have h4 := h3 h0
   simp only [List.length_nil] at h4
   exact h4
  ·simp only [if_neg h0]
 ·rw [decide_eq_true (by omega : ((s.length : Nat) : Int) > 512), if_neg h5]
  rfl
theorem spV_parts {s : CTx} (h : (spV s).1 = 0) : (∀ d ∈ (spV s).2, GoodP d) ∧ (spV s).2.flatten = s ∧ (spV s).2.length ≤ 512 ∧ s.length ≤ 512 := by
 unfold spV at h ⊢
 split at h
 ·rename_i h5
  rw [if_pos h5]
  split at h
  ·rename_i h0
   rw [if_pos h0]
   have := spl_len s.length s
   exact ⟨spl_good _ _ h0, spl_cat _ _ (Nat.le_refl _) h0, by show (spl s.length s).2.length ≤ 512; omega, h5⟩
  ·rename_i h0; exact absurd h h0
 ·cases h
def rdP (s : CTx) : Int × Int × Int × Int × List CFace × Int :=
 if (spV s).1 ≠ 0 then (0, 0, 0, 0, [], (spV s).1) else
 match (spV s).2 with
 | [] => errC
 | h :: ds => if h.length = 9 then (match addAll ([], false, (0, 0, 0, 0, [], [])) ds with
   | none => errC
   | some (l', z', f') => endP s h (l' ++ cond z' [f'] [])) else errC
theorem readP (n : Nat) (hn : 2000 < n) (s : CTx) : F69 n s = some (rdP s) := by
 unfold F69 rdP
 rw [splP n (by omega) s]
 simp only [Option.bind_some]
 by_cases h0 : (spV s).1 = 0
 case neg =>
  rw [show ((spV s).1 != 0) = true from bne_iff_ne.2 h0, if_pos h0]
  rfl
 rw [show ((spV s).1 != 0) = false from bne_eq_false_iff_eq.2 h0, if_neg (by simpa using h0)]
 obtain ⟨g1, g2, g3, g4⟩ := spV_parts h0
 cases hl : (spV s).2 with
 | nil => rfl
 | cons h ds =>
  rw [hl] at g1 g3
  simp only [List.length_cons] at g3
  simp only [cond_false, List.length_cons, List.getD_cons_zero, List.drop_succ_cons, List.drop_zero]
  rw [show ((((ds.length + 1 : Nat)) : Int) == 0) = false from beq_eq_false_iff_ne.2 (by omega), inb_true (by omega) (by omega)]
  simp only [cond_false, cond_true]
  by_cases h9 : h.length = 9
  case neg =>
   rw [show (((h.length : Nat) : Int) != 9) = true from bne_iff_ne.2 (by omega), if_neg h9]
   rfl
  rw [show (((h.length : Nat) : Int) != 9) = false from bne_eq_false_iff_eq.2 (by omega), if_pos h9, inb_true (by omega) (by omega), inb_true (by omega) (by omega), inb_true (by omega) (by omega), inb_true (by omega) (by omega), show subB (ds.length + 1) (some 1) none = true by simp [subB]; omega]
  simp only [cond_false, cond_true]
  have := addLoop n s (spV s) hn (by rw [hl]; simp; omega) ds 0 n [] false (0, 0, 0, 0, [], []) (by rw [hl]; rfl) (by omega) (by omega) (fun d hd' => (g1 d (List.mem_cons_of_mem _ hd')).1) (by simp; omega) (by simp; omega) (by simp; omega) (fun _ => rfl)
  refine Eq.trans ?_ (this.trans ?_)
  ·congr 1
  ·rw [hl]; rfl
end Go.Proofs.YtghbnolfadnoaaaGreat
