/- Texts of a configuration, in plain Lean. -/
import Derived.Test.YtdgdkbpmmemphaaFdr
import Derived.Test.YtdgdkbpmmemphaaAm26
namespace Go.Proofs.Ytdgdkbpmmemphaa
open Go Go.RowKit
set_option linter.unusedVariables false

abbrev CTx := List UInt8
abbrev CK := Int × Bool
abbrev CEnd := Int × Bool × Int × Int × Int
abbrev CFace := Int × Int × Int × Int × List CTx × List CEnd
abbrev CM := List (CK × Bool)
theorem dropC {α : Type} (l : List α) (k : Nat) (z : α) (h : k < l.length) : l.drop k = l.getD k z :: l.drop (k + 1) := by
  rw [List.drop_eq_getElem_cons h]; simp [List.getD_eq_getElem?_getD, h]
theorem takeD {α : Type} (l : List α) (k : Nat) (z : α) (h : k < l.length) : l.take (k + 1) = l.take k ++ [l.getD k z] := by
  rw [List.take_add_one, List.getD_eq_getElem?_getD]; simp [h]
def inR2 (most x : Int) : Prop := 0 ≤ x ∧ x ≤ most
instance (most x : Int) : Decidable (inR2 most x) := by unfold inR2; infer_instance
def allIn (most : Int) (l : List Int) : Bool := l.all fun x => decide (inR2 most x)
theorem withinV (n : Nat) (most : Int) (l : List Int) (hn : l.length + 1 < n) (hl : l.length ≤ 1000000) : F90 n most l = some (allIn most l) := by
  unfold F90
  refine (loopF_eq (F90_l2 n most l) (fun x => some (allIn most (l.drop x.toNat))) (fun x => ∃ k : Nat, x = (k : Int) ∧ k ≤ l.length) (fun x => l.length - x.toNat) ?_ n 0 ⟨0, rfl, by omega⟩ (by simp; omega)).trans (by simp)
  rintro kk x ⟨k, rfl, hk⟩ ih
  simp only [F90_l2, Int.toNat_natCast]
  by_cases hkl : k < l.length
  · have ek : ((k : Int) + 1).toNat = k + 1 := by omega
    have ih' := ih ((k : Int) + 1) ⟨k + 1, by omega, by omega⟩ (by simp only [Int.toNat_natCast, ek]; omega)
    rw [decide_eq_true (show (k : Int) < (l.length : Int) by omega), inb_true (by omega) (by omega), w64 (n := (k : Int) + 1) (by omega) (by omega), ih', ek, dropC l k 0 hkl]
    simp only [cond_true, allIn, List.all_cons]
    by_cases h1 : l.getD k 0 < 0
    · rw [decide_eq_true h1, decide_eq_false (show ¬ inR2 most (l.getD k 0) by unfold inR2; omega)]; rfl
    · rw [decide_eq_false h1]
      by_cases h2 : l.getD k 0 > most
      · rw [decide_eq_true h2, decide_eq_false (show ¬ inR2 most (l.getD k 0) by unfold inR2; omega)]; rfl
      · rw [decide_eq_false h2, decide_eq_true (show inR2 most (l.getD k 0) by unfold inR2; omega)]; rfl
  · rw [decide_eq_false (by omega), List.drop_of_length_le (by omega)]; rfl
theorem bytesB (n : Nat) (l : List Int) (hn : l.length + 1 < n) (hl : l.length ≤ 1000000) : F59 n l = some (allIn 255 l) := by
  unfold F59
  rw [withinV n 255 l hn hl]; rfl
def wb (l : List Int) : List Int := l.map fun x => IntKind.wrap .u8 x
def putV (l : List Int) : CTx := strOf (wb l)
theorem wb_snoc (l : List Int) (x : Int) : wb (l ++ [x]) = wb l ++ [IntKind.wrap .u8 x] := by simp [wb]
theorem putP (n : Nat) (l : List Int) (hn : l.length + 1 < n) (hl : l.length ≤ 1000000) : F61 n l = some (putV l) := by
  unfold F61
  refine loopF_eq (F61_l2 n l) (fun d => some (putV l)) (fun d => ∃ k : Nat, k ≤ l.length ∧ d = ((k : Int), wb (l.take k))) (fun d => l.length - d.1.toNat) ?_ n (0, []) ⟨0, by omega, by simp [wb]⟩ (by simp; omega)
  rintro kk d ⟨k, hk, rfl⟩ ih
  simp only [F61_l2, Int.toNat_natCast]
  by_cases hkl : k < l.length
  · rw [decide_eq_true (show (k : Int) < (l.length : Int) by omega), inb_true (by omega) (by omega), w64 (n := (k : Int) + 1) (by omega) (by omega), decide_eq_true (by simp [wb]; omega)]
    simp only [cond_true]
    exact ih _ ⟨k + 1, by omega, by rw [takeD l k 0 hkl, wb_snoc]; rfl⟩ (by simp only [Int.toNat_natCast]; omega)
  · rw [decide_eq_false (by omega), List.take_of_length_le (by omega)]; rfl
theorem wordP (n : Nat) (v : Int) (hn : 10 < n) : F63 n v = some (putV [v, shrI .i64 v 8]) := by
  unfold F63
  rw [putP n _ (by simp; omega) (by simp)]; rfl
theorem btw3 (n : Nat) (v lo hi : Int) : F23 n v lo hi = some (decide (lo ≤ v ∧ v ≤ hi)) := by
  unfold F23
  by_cases h : lo ≤ v
  · rw [decide_eq_true h]
    simp only [cond_true, Option.some.injEq]
    by_cases h2 : v ≤ hi <;> simp [h, h2]
  · rw [decide_eq_false h, decide_eq_false (show ¬ (lo ≤ v ∧ v ≤ hi) from fun hh => h hh.1)]; rfl
theorem bytesR (n : Nat) (l : List Int) (hn : l.length + 1 < n) (hl : l.length ≤ 1000000) : F64 n l = some (if allIn 255 l = true then (putV l, true) else ([], false)) := by
  unfold F64
  refine (loopF_eq (F64_l2 n l) (fun d => some (if allIn 255 (l.drop d.1.toNat) = true then (putV l, true) else ([], false))) (fun d => ∃ k : Nat, k ≤ l.length ∧ d = ((k : Int), wb (l.take k))) (fun d => l.length - d.1.toNat) ?_ n (0, []) ⟨0, by omega, by simp [wb]⟩ (by simp; omega)).trans (by simp)
  rintro kk d ⟨k, hk, rfl⟩ ih
  simp only [F64_l2, Int.toNat_natCast, btw3]
  by_cases hkl : k < l.length
  · have ek : ((k : Int) + 1).toNat = k + 1 := by omega
    have ih' := ih ((k : Int) + 1, wb (l.take (k + 1))) ⟨k + 1, by omega, rfl⟩ (by simp only [Int.toNat_natCast, ek]; omega)
    rw [takeD l k 0 hkl, wb_snoc] at ih'
    have ed : allIn 255 (l.drop k) = (decide (inR2 255 (l.getD k 0)) && allIn 255 (l.drop (k + 1))) := by rw [dropC l k 0 hkl]; simp only [allIn, List.all_cons]
    rw [decide_eq_true (show (k : Int) < (l.length : Int) by omega), inb_true (by omega) (by omega), w64 (n := (k : Int) + 1) (by omega) (by omega)]
    simp only [ed, cond_true, Option.bind_some]
    by_cases h1 : 0 ≤ l.getD k 0 ∧ l.getD k 0 ≤ 255
    · rw [decide_eq_true h1, decide_eq_true (show inR2 255 (l.getD k 0) from h1), decide_eq_true (by simp [wb]; omega)]
      simp only [Bool.not_true, cond_false, cond_true, Bool.true_and]
      rw [ih']; simp only [ek]
    · rw [decide_eq_false h1, decide_eq_false (show ¬ inR2 255 (l.getD k 0) from h1)]; rfl
  · have ed : l.drop k = [] := List.drop_of_length_le (by omega)
    rw [decide_eq_false (by omega), List.take_of_length_le (by omega)]; simp only [ed]; rfl
/-! ends and faces -/
def endOk (d : CEnd) : Prop := (1 ≤ d.1 ∧ d.1 ≤ 15) ∧ (0 ≤ d.2.2.1 ∧ d.2.2.1 ≤ 3) ∧ (1 ≤ d.2.2.2.1 ∧ d.2.2.2.1 ≤ 64) ∧ (0 ≤ d.2.2.2.2 ∧ d.2.2.2.2 ≤ 255)
instance (d : CEnd) : Decidable (endOk d) := by unfold endOk; infer_instance
def keyE (d : CEnd) : CK := (d.1, d.2.1)
def keysE (l : List CEnd) : List CK := l.map keyE
def endsE : List CK → List CEnd → Int
  | _, [] => 0
  | A, d :: l => if endOk d then (if keyE d ∈ A then 13 else endsE (A ++ [keyE d]) l) else 1
def exOk (x : CTx) : Prop := (2 ≤ x.length ∧ x.length ≤ 32) ∧ (x.getD 0 0).toNat = x.length ∧ 6 ≤ (x.getD 1 0).toNat
instance (x : CTx) : Decidable (exOk x) := by unfold exOk; infer_instance
def faceE (f : CFace) (A : List CK) : Int :=
  if allIn 255 [f.1, f.2.1, f.2.2.1, f.2.2.2.1] = false then 1 else if 2 < f.2.2.2.2.1.length then 2 else if (f.2.2.2.2.1.all fun x => decide (exOk x)) = false then 1 else if 4 < f.2.2.2.2.2.length then 2 else endsE A f.2.2.2.2.2
def AllT (m : CM) : Prop := ∀ y ∈ m, y.2 = true
theorem kbeq (a b : CK) : Sh.beq (.st (.pair (.int .i64) .bool)) a b = decide (a = b) := by
  obtain ⟨a1, a2⟩ := a; obtain ⟨b1, b2⟩ := b
  simp only [Sh.beq]
  by_cases h1 : a1 = b1
  · subst h1
    cases a2 <;> cases b2 <;> simp
  · simp [h1]
theorem get_mem (k : CK) : ∀ (m : CM), AllT m → ((mapGet (.st (.pair (.int .i64) .bool)) .bool k m).getD false = true ↔ k ∈ m.map (·.1))
  | [], _ => by simp [mapGet, mapFind]
  | y :: m, h => by
    have ih := get_mem k m (fun z hz => h z (List.mem_cons_of_mem _ hz))
    unfold mapGet at ih ⊢
    simp only [mapFind, kbeq]
    by_cases e : k = y.1
    · simp [e, h y (List.mem_cons_self ..)]
    · rw [decide_eq_false e]
      simp only [cond_false, List.map_cons, List.mem_cons, e, false_or]
      rw [← ih]
      cases mapFind (.st (.pair (.int .i64) .bool)) .bool k m with
      | none => simp
      | some i => simp
theorem find_none (k : CK) : ∀ (m : CM), k ∉ m.map (·.1) → mapFind (.st (.pair (.int .i64) .bool)) .bool k m = none
  | [], _ => rfl
  | y :: m, h => by
    simp only [List.map_cons, List.mem_cons, not_or] at h
    simp only [mapFind, kbeq, decide_eq_false h.1, cond_false, find_none k m h.2, Option.map_none]
/-- a map of what is seen -/
def MapOf (m : CM) (A : List CK) : Prop := AllT m ∧ m.map (·.1) = A
theorem MapOf.get {m : CM} {A : List CK} (h : MapOf m A) (k : CK) : (mapGet (.st (.pair (.int .i64) .bool)) .bool k m).getD false = decide (k ∈ A) := by
  rw [Bool.eq_iff_iff, get_mem k m h.1, h.2]; simp
theorem MapOf.put {m : CM} {A : List CK} (h : MapOf m A) {k : CK} (hk : k ∉ A) : mapPut (.st (.pair (.int .i64) .bool)) .bool k true m = m ++ [(k, true)] ∧ MapOf (m ++ [(k, true)]) (A ++ [k]) := by
  constructor
  · unfold mapPut
    rw [find_none k m (by rw [h.2]; exact hk)]
  · refine ⟨fun y hy => ?_, by simp [h.2]⟩
    rcases List.mem_append.1 hy with hy | hy
    · exact h.1 y hy
    · simp at hy; rw [hy]
def mapAll (m : CM) (l : List CEnd) : CM := m ++ l.map fun d => (keyE d, true)
def endA (d : CEnd) : Int := if d.2.1 = true then d.1 + 128 else d.1
def endT (d : CEnd) : CTx := putV [7, 5, endA d, d.2.2.1, d.2.2.2.1, 0, d.2.2.2.2]
def endsT (l : List CEnd) : CTx := l.flatMap endT
def faceT (i : Nat) (f : CFace) : CTx := (putV [9, 4, (i : Int), 0, ((f.2.2.2.2.2.length : Nat) : Int), f.1, f.2.1, f.2.2.1, f.2.2.2.1] ++ Lib.join f.2.2.2.2.1 []) ++ endsT f.2.2.2.2.2
def finT (v nm at' pw : Int) (len : Nat) (rest : CTx) : CTx := putV [9, 2] ++ putV [9 + ((rest.length : Nat) : Int), shrI .i64 (9 + ((rest.length : Nat) : Int)) 8] ++ putV [(len : Int), v, nm, at', pw] ++ rest
def goF (v nm at' pw : Int) (len : Nat) : Nat → CTx → List CK → List CFace → CTx × Int
  | _, rest, _, [] => (finT v nm at' pw len rest, 0)
  | i, rest, A, f :: l => if faceE f A = 0 then goF v nm at' pw len (i + 1) (rest ++ faceT i f) (A ++ keysE f.2.2.2.2.2) l else ([], faceE f A)
def confV (v nm at' pw : Int) (Fs : List CFace) : CTx × Int :=
  if ¬ (1 ≤ v ∧ v ≤ 255) ∨ allIn 255 [nm, at', pw] = false then ([], 1) else if 4 < Fs.length then ([], 2) else goF v nm at' pw Fs.length 0 [] [] Fs
theorem putV_len (l : List Int) : (putV l).length = l.length := by simp [putV, wb, strOf]
theorem endsT_len : ∀ (l : List CEnd), (endsT l).length = 7 * l.length
  | [] => rfl
  | d :: l => by
    have := endsT_len l
    simp only [endsT, List.flatMap_cons, List.length_append, List.length_cons] at this ⊢
    rw [this]
    simp only [endT, putV_len, List.length_cons, List.length_nil]
    omega
theorem join_len (l : List CTx) (h2 : l.length ≤ 2) (h : ∀ x ∈ l, exOk x) : (Lib.join l []).length ≤ 64 := by
  match l, h2, h with
  | [], _, _ => simp [Lib.join, List.intercalate]
  | [a], _, h => have := (h a (by simp)).1; rw [Lib.join_one]; omega
  | [a, b], _, h =>
    have h1 := (h a (by simp)).1
    have h3 := (h b (by simp)).1
    rw [Lib.join_cons]
    simp [Lib.joinTail]
    omega
  | _ :: _ :: _ :: _, h2, _ => simp at h2
theorem endsE_ok : ∀ (l : List CEnd) (A : List CK), endsE A l = 0 → ∀ d ∈ l, endOk d
  | [], A, _, d, hd => by simp at hd
  | e :: l, A, h, d, hd => by
    simp only [endsE] at h
    split at h
    · rename_i he
      split at h
      · simp at h
      · rcases List.mem_cons.1 hd with rfl | hd
        · exact he
        · exact endsE_ok l _ h d hd
    · simp at h
theorem face_ok {f : CFace} {A : List CK} (h : faceE f A = 0) : allIn 255 [f.1, f.2.1, f.2.2.1, f.2.2.2.1] = true ∧ f.2.2.2.2.1.length ≤ 2 ∧ (∀ x ∈ f.2.2.2.2.1, exOk x) ∧ f.2.2.2.2.2.length ≤ 4 ∧ endsE A f.2.2.2.2.2 = 0 := by
  unfold faceE at h
  split at h
  · simp at h
  rename_i h1
  split at h
  · simp at h
  rename_i h2
  split at h
  · simp at h
  rename_i h3
  split at h
  · simp at h
  rename_i h4
  refine ⟨by simpa using h1, by omega, fun x hx => ?_, by omega, h⟩
  have h5 : (f.2.2.2.2.1.all fun x => decide (exOk x)) = true := by simpa using h3
  rw [List.all_eq_true] at h5
  exact of_decide_eq_true (h5 x hx)
theorem faceT_len {f : CFace} {A : List CK} (i : Nat) (h : faceE f A = 0) : (faceT i f).length ≤ 101 := by
  obtain ⟨_, h2, h3, h4, _⟩ := face_ok h
  have := join_len _ h2 h3
  simp only [faceT, List.length_append, putV_len, endsT_len, List.length_cons, List.length_nil]
  omega
end Go.Proofs.Ytdgdkbpmmemphaa
