/- A configuration's descriptors, piece by piece. -/
import Derived.Test.YtdgdkbpmmemphaaSConf3
import Derived.Test.YtdgdkbpmmemphaaSSplit
namespace Go.Proofs.Ytdgdkbpmmemphaa
open Go Go.RowKit
set_option linter.unusedVariables false

theorem allInC (m x : Int) (l : List Int) : allIn m (x :: l) = true ↔ (0 ≤ x ∧ x ≤ m) ∧ allIn m l = true := by
  simp only [allIn, List.all_cons, Bool.and_eq_true, inR2]
  exact ⟨fun h => ⟨of_decide_eq_true h.1, h.2⟩, fun h => ⟨decide_eq_true h.1, h.2⟩⟩
theorem allInN (m : Int) : allIn m [] = true ↔ True := by simp [allIn]
/-- a byte of a piece -/
def pb (d : CTx) (i : Nat) : Int := (((d.getD i 0).toNat : Nat) : Int)
theorem pb_in (d : CTx) (i : Nat) : 0 ≤ pb d i ∧ pb d i < 256 := by
  have := (d.getD i 0).toNat_lt
  unfold pb
  omega
theorem u8n (b : UInt8) : UInt8.ofNat (IntKind.wrap .u8 ((b.toNat : Nat) : Int)).toNat = b := by
  have h := b.toNat_lt
  rw [show IntKind.wrap .u8 ((b.toNat : Nat) : Int) = ((b.toNat : Nat) : Int) by rw [u8w]; omega, Int.toNat_natCast]
  simp
theorem putV_cons (x : Int) (l : List Int) : putV (x :: l) = UInt8.ofNat (IntKind.wrap .u8 x).toNat :: putV l := rfl
theorem putV_nil : putV [] = [] := rfl
theorem ofV {x : Int} (h : 0 ≤ x ∧ x < 256) : (((UInt8.ofNat (IntKind.wrap .u8 x).toNat).toNat : Nat) : Int) = x := by
  rw [show IntKind.wrap .u8 x = x by rw [u8w]; omega]
  rw [UInt8.toNat_ofNat_of_lt' (by show x.toNat < 256; omega)]
  omega
theorem nine {d : CTx} (h : d.length = 9) : d = putV [pb d 0, pb d 1, pb d 2, pb d 3, pb d 4, pb d 5, pb d 6, pb d 7, pb d 8] := by
  match d, h with
  | [a0, a1, a2, a3, a4, a5, a6, a7, a8], _ =>
    simp only [putV_cons, putV_nil, pb, List.getD_cons_zero, List.getD_cons_succ, u8n]
theorem seven {d : CTx} (h : d.length = 7) : d = putV [pb d 0, pb d 1, pb d 2, pb d 3, pb d 4, pb d 5, pb d 6] := by
  match d, h with
  | [a0, a1, a2, a3, a4, a5, a6], _ =>
    simp only [putV_cons, putV_nil, pb, List.getD_cons_zero, List.getD_cons_succ, u8n]
def GoodP (d : CTx) : Prop := 2 ≤ d.length ∧ hd d = d.length
theorem GoodP.pb0 {d : CTx} (h : GoodP d) : pb d 0 = (d.length : Int) := by
  have := h.2
  unfold hd at this
  unfold pb
  rw [this]
theorem spl_flat : ∀ (ps : List CTx) (f : Nat), (∀ d ∈ ps, GoodP d) → ps.flatten.length ≤ f → spl f ps.flatten = (0, ps)
  | [], f, _, _ => spl_nil f
  | d :: ps, f, h, hf => by
    obtain ⟨h1, h2⟩ := h d (List.mem_cons_self ..)
    simp only [List.flatten_cons, List.length_append] at hf ⊢
    have hh : hd (d ++ ps.flatten) = d.length := by
      rw [← h2]
      unfold hd
      rw [List.getD_eq_getElem?_getD, List.getElem?_append_left (by omega), ← List.getD_eq_getElem?_getD]
    cases f with
    | zero => omega
    | succ f =>
      unfold spl
      have ne : d ++ ps.flatten ≠ [] := by
        intro e
        have := congrArg List.length e
        simp only [List.length_append, List.length_nil] at this
        omega
      rw [if_neg ne, hh, if_neg (by omega), if_neg (by rw [List.length_append]; omega), List.drop_left, List.take_left,
        spl_flat ps f (fun x hx => h x (List.mem_cons_of_mem _ hx)) (by omega)]
      rfl
theorem spl_good : ∀ (f : Nat) (s : CTx), (spl f s).1 = 0 → ∀ d ∈ (spl f s).2, GoodP d
  | 0, s, _, d, hd' => by cases hd'
  | f + 1, s, h, d, hd' => by
    unfold spl at h hd'
    split at h
    · rename_i h0; rw [if_pos h0] at hd'; cases hd'
    rename_i h0; rw [if_neg h0] at hd'
    split at h
    · cases h
    rename_i h1; rw [if_neg h1] at hd'
    split at h
    · cases h
    rename_i h2; rw [if_neg h2] at hd'
    split at h
    · rename_i h3
      rw [if_pos h3] at hd'
      rcases List.mem_cons.1 hd' with e | e
      · subst e
        have hl : (s.take (hd s)).length = hd s := by rw [List.length_take]; omega
        refine ⟨by omega, ?_⟩
        rw [hl]
        have hs : 0 < s.length := List.length_pos_iff.2 h0
        unfold hd at h1 ⊢
        rw [List.getD_eq_getElem?_getD, List.getElem?_take, if_pos (by omega), ← List.getD_eq_getElem?_getD]
      · exact spl_good f _ h3 d e
    · rename_i h3; exact absurd h h3
theorem spl_cat : ∀ (f : Nat) (s : CTx), s.length ≤ f → (spl f s).1 = 0 → (spl f s).2.flatten = s
  | 0, s, hf, _ => by
    have : s = [] := List.length_eq_zero_iff.1 (by omega)
    subst this; rfl
  | f + 1, s, hf, h => by
    unfold spl at h ⊢
    split at h
    · rename_i h0; subst h0; rw [if_pos rfl]; rfl
    rename_i h0; rw [if_neg h0]
    split at h
    · cases h
    rename_i h1; rw [if_neg h1]
    split at h
    · cases h
    rename_i h2; rw [if_neg h2]
    split at h
    · rename_i h3
      rw [if_pos h3, List.flatten_cons, spl_cat f _ (by rw [List.length_drop]; omega) h3, List.take_append_drop]
    · rename_i h3; exact absurd h h3
/-! the pieces of a configuration -/
def faceP (i : Nat) (f : CFace) : CTx := putV [9, 4, (i : Int), 0, ((f.2.2.2.2.2.length : Nat) : Int), f.1, f.2.1, f.2.2.1, f.2.2.2.1]
def facesP : Nat → List CFace → List CTx
  | _, [] => []
  | i, f :: l => faceP i f :: (f.2.2.2.2.1 ++ (f.2.2.2.2.2.map endT ++ facesP (i + 1) l))
def hdrP (v nm at' pw : Int) (len n : Nat) : CTx := putV [9, 2, 9 + (n : Int), shrI .i64 (9 + (n : Int)) 8, (len : Int), v, nm, at', pw]
theorem join_flat (l : List CTx) : Lib.join l [] = l.flatten := by
  cases l with
  | nil => rfl
  | cons x r =>
    rw [Lib.join_cons]
    simp [Lib.joinTail]
theorem faceT_flat (i : Nat) (f : CFace) : faceT i f = faceP i f ++ (f.2.2.2.2.1.flatten ++ (f.2.2.2.2.2.map endT).flatten) := by
  unfold faceT faceP endsT
  rw [join_flat, List.append_assoc, List.flatMap_def]
def FaceOk (f : CFace) : Prop := ∃ A, faceE f A = 0
theorem goF_parts {v nm at' pw : Int} {len : Nat} : ∀ (Fs : List CFace) (i : Nat) (rest : CTx) (A : List CK) (s : CTx), goF v nm at' pw len i rest A Fs = (s, 0) → s = finT v nm at' pw len (rest ++ (facesP i Fs).flatten) ∧ ∀ f ∈ Fs, FaceOk f
  | [], i, rest, A, s, h => by
    simp only [goF, Prod.mk.injEq] at h
    refine ⟨by rw [← h.1]; simp [facesP], fun f hf => by cases hf⟩
  | f :: l, i, rest, A, s, h => by
    unfold goF at h
    split at h
    · rename_i h0
      obtain ⟨h1, h2⟩ := goF_parts l (i + 1) _ _ s h
      refine ⟨?_, fun x hx => ?_⟩
      · rw [h1, faceT_flat]
        simp only [facesP, List.flatten_cons, List.flatten_append, List.append_assoc]
      · rcases List.mem_cons.1 hx with e | e
        · exact e ▸ ⟨A, h0⟩
        · exact h2 x e
    · rename_i h0
      simp only [Prod.mk.injEq] at h
      exact absurd h.2 h0
theorem conf_parts {v nm at' pw : Int} {Fs : List CFace} {s : CTx} (h : confV v nm at' pw Fs = (s, 0)) :
    s = (hdrP v nm at' pw Fs.length (facesP 0 Fs).flatten.length :: facesP 0 Fs).flatten ∧ (1 ≤ v ∧ v ≤ 255) ∧ allIn 255 [nm, at', pw] = true ∧ Fs.length ≤ 4 ∧ ∀ f ∈ Fs, FaceOk f := by
  unfold confV at h
  split at h
  · simp at h
  rename_i h1
  split at h
  · simp at h
  rename_i h2
  obtain ⟨h3, h4⟩ := goF_parts Fs 0 [] [] s h
  simp only [not_or, Decidable.not_not] at h1
  refine ⟨?_, h1.1, by simpa using h1.2, by omega, h4⟩
  rw [h3]
  simp only [finT, hdrP, List.nil_append, List.flatten_cons]
  rw [← putV_app, ← putV_app]
  rfl
theorem faceP_good (i : Nat) (f : CFace) : GoodP (faceP i f) := by
  refine ⟨by unfold faceP; rw [putV_len]; simp, ?_⟩
  unfold faceP; rw [putV_len]; rfl
theorem endT_good (d : CEnd) : GoodP (endT d) := by
  refine ⟨by unfold endT; rw [putV_len]; simp, ?_⟩
  unfold endT; rw [putV_len]; rfl
theorem hdrP_good (v nm at' pw : Int) (len n : Nat) : GoodP (hdrP v nm at' pw len n) := by
  refine ⟨by unfold hdrP; rw [putV_len]; simp, ?_⟩
  unfold hdrP; rw [putV_len]; rfl
theorem ex_good {x : CTx} (h : exOk x) : GoodP x := ⟨h.1.1, h.2.1⟩
theorem FaceOk.parts {f : CFace} (h : FaceOk f) : allIn 255 [f.1, f.2.1, f.2.2.1, f.2.2.2.1] = true ∧ (∀ x ∈ f.2.2.2.2.1, exOk x) ∧ f.2.2.2.2.2.length ≤ 4 ∧ ∀ d ∈ f.2.2.2.2.2, endOk d := by
  obtain ⟨A, h⟩ := h
  obtain ⟨h1, _, h3, h4, h5⟩ := face_ok h
  exact ⟨h1, h3, h4, endsE_ok _ _ h5⟩
theorem faces_good : ∀ (Fs : List CFace) (i : Nat), (∀ f ∈ Fs, FaceOk f) → ∀ d ∈ facesP i Fs, GoodP d
  | [], _, _, d, hd' => by cases hd'
  | f :: l, i, h, d, hd' => by
    obtain ⟨_, h2, _, _⟩ := (h f (List.mem_cons_self ..)).parts
    simp only [facesP, List.mem_cons, List.mem_append, List.mem_map] at hd'
    rcases hd' with e | e | ⟨x, _, e⟩ | e
    · exact e ▸ faceP_good i f
    · exact ex_good (h2 d e)
    · exact e ▸ endT_good x
    · exact faces_good l (i + 1) (fun x hx => h x (List.mem_cons_of_mem _ hx)) d e
/-! the program's way: piece by piece onto what there is -/
def endV (d : CTx) : CEnd := (pb d 2 % 128, decide (pb d 2 ≥ 128), pb d 3, pb d 4 + 256 * pb d 5, pb d 6)
def newF (d : CTx) : CFace := (pb d 5, pb d 6, pb d 7, pb d 8, [], [])
abbrev RSt := List CFace × Bool × CFace
def addS : RSt → CTx → Option RSt
  | (l, z, f), d =>
    if pb d 1 = 4 ∧ d.length = 9 then some (l ++ cond z [f] [], true, newF d)
    else if z = false then none
    else if pb d 1 = 5 ∧ d.length = 7 then some (l, z, (f.1, f.2.1, f.2.2.1, f.2.2.2.1, f.2.2.2.2.1, f.2.2.2.2.2 ++ [endV d]))
    else if 6 ≤ pb d 1 then some (l, z, (f.1, f.2.1, f.2.2.1, f.2.2.2.1, f.2.2.2.2.1 ++ [d], f.2.2.2.2.2))
    else none
def addAll : RSt → List CTx → Option RSt
  | s, [] => some s
  | s, d :: l => (addS s d).bind fun s' => addAll s' l
theorem addAll_app : ∀ (a b : List CTx) (s : RSt), addAll s (a ++ b) = (addAll s a).bind fun s' => addAll s' b
  | [], b, s => rfl
  | d :: a, b, s => by
    simp only [List.cons_append, addAll]
    cases addS s d with
    | none => rfl
    | some s' => exact addAll_app a b s'
theorem add_ex (l : List CFace) (a b c e : Int) (E : List CEnd) : ∀ (X Y : List CTx), (∀ x ∈ X, exOk x) → addAll (l, true, (a, b, c, e, Y, E)) X = some (l, true, (a, b, c, e, Y ++ X, E))
  | [], Y, _ => by simp [addAll]
  | x :: X, Y, h => by
    have hx := (h x (List.mem_cons_self ..)).2.2
    have hp : 6 ≤ pb x 1 := by unfold pb; omega
    simp only [addAll, addS]
    rw [if_neg (by omega), if_neg (by simp), if_neg (by omega), if_pos hp]
    simp only [Option.bind_some]
    rw [add_ex l a b c e E X (Y ++ [x]) (fun y hy => h y (List.mem_cons_of_mem _ hy))]
    simp
theorem endT_bytes {d : CEnd} (h : endOk d) : pb (endT d) 1 = 5 ∧ (endT d).length = 7 ∧ endV (endT d) = d := by
  obtain ⟨a, i, k, m, t⟩ := d
  obtain ⟨h1, h2, h3, h4⟩ := h
  simp only at h1 h2 h3 h4
  have hA : 0 ≤ endA (a, i, k, m, t) ∧ endA (a, i, k, m, t) < 256 := by unfold endA; cases i <;> simp <;> omega
  refine ⟨rfl, by unfold endT; rw [putV_len]; rfl, ?_⟩
  have e2 : pb (endT (a, i, k, m, t)) 2 = endA (a, i, k, m, t) := ofV hA
  have e3 : pb (endT (a, i, k, m, t)) 3 = k := ofV (show 0 ≤ k ∧ k < 256 by omega)
  have e4 : pb (endT (a, i, k, m, t)) 4 = m := ofV (show 0 ≤ m ∧ m < 256 by omega)
  have e5 : pb (endT (a, i, k, m, t)) 5 = 0 := rfl
  have e6 : pb (endT (a, i, k, m, t)) 6 = t := ofV (show 0 ≤ t ∧ t < 256 by omega)
  unfold endV
  rw [e2, e3, e4, e5, e6]
  unfold endA
  cases i with
  | true =>
    simp only [if_true, Prod.mk.injEq, decide_eq_true_eq, true_and, and_true]
    exact ⟨by omega, by omega, by omega⟩
  | false =>
    simp only [Bool.false_eq_true, if_false, Prod.mk.injEq, decide_eq_false_iff_not, true_and, and_true]
    exact ⟨by omega, by omega, by omega⟩
theorem add_en (l : List CFace) (a b c e : Int) (X : List CTx) : ∀ (E Y : List CEnd), (∀ d ∈ E, endOk d) → addAll (l, true, (a, b, c, e, X, Y)) (E.map endT) = some (l, true, (a, b, c, e, X, Y ++ E))
  | [], Y, _ => by simp [addAll]
  | d :: E, Y, h => by
    obtain ⟨h1, h2, h3⟩ := endT_bytes (h d (List.mem_cons_self ..))
    simp only [List.map_cons, addAll, addS]
    rw [if_neg (by omega), if_neg (by simp), if_pos ⟨h1, h2⟩, h3]
    simp only [Option.bind_some]
    rw [add_en l a b c e X E (Y ++ [d]) (fun y hy => h y (List.mem_cons_of_mem _ hy))]
    simp
theorem faceP_bytes {f : CFace} {i : Nat} (hi : i < 256) (h : FaceOk f) : (faceP i f).length = 9 ∧ pb (faceP i f) 1 = 4 ∧ pb (faceP i f) 2 = i ∧ pb (faceP i f) 3 = 0 ∧ pb (faceP i f) 4 = (f.2.2.2.2.2.length : Int) ∧ newF (faceP i f) = (f.1, f.2.1, f.2.2.1, f.2.2.2.1, [], []) := by
  obtain ⟨h1, _, h4, _⟩ := h.parts
  simp only [allInC, allInN] at h1
  obtain ⟨g1, g2, g3, g4, _⟩ := h1
  refine ⟨by unfold faceP; rw [putV_len]; rfl, rfl, ofV (by omega), rfl, ofV (by omega), ?_⟩
  unfold newF
  rw [show pb (faceP i f) 5 = f.1 from ofV (by omega), show pb (faceP i f) 6 = f.2.1 from ofV (by omega), show pb (faceP i f) 7 = f.2.2.1 from ofV (by omega), show pb (faceP i f) 8 = f.2.2.2.1 from ofV (by omega)]
theorem add_faces : ∀ (Fs : List CFace) (i : Nat) (l : List CFace) (z : Bool) (f : CFace), (∀ f ∈ Fs, FaceOk f) → i + Fs.length < 256 → ∃ l' z' f', addAll (l, z, f) (facesP i Fs) = some (l', z', f') ∧ l' ++ cond z' [f'] [] = l ++ cond z [f] [] ++ Fs
  | [], i, l, z, f, _, _ => ⟨l, z, f, rfl, by simp⟩
  | g :: Fs, i, l, z, f, h, hi => by
    simp only [List.length_cons] at hi
    have hg := h g (List.mem_cons_self ..)
    obtain ⟨b1, b2, b3, b4, b5, b6⟩ := faceP_bytes (i := i) (by omega) hg
    obtain ⟨_, g2, _, g4⟩ := hg.parts
    obtain ⟨l', z', f', h1, h2⟩ := add_faces Fs (i + 1) (l ++ cond z [f] []) true g (fun x hx => h x (List.mem_cons_of_mem _ hx)) (by omega)
    refine ⟨l', z', f', ?_, by rw [h2]; simp⟩
    simp only [facesP, addAll, addS]
    rw [if_pos ⟨b2, b1⟩, b6]
    simp only [Option.bind_some]
    rw [addAll_app, add_ex _ _ _ _ _ _ _ _ g2]
    simp only [Option.bind_some, List.nil_append]
    rw [addAll_app, add_en _ _ _ _ _ _ _ _ g4]
    simp only [Option.bind_some, List.nil_append]
    exact h1
/-! the document's way: face by face -/
def exts : List CTx → List CTx × List CTx
  | [] => ([], [])
  | d :: l => if pb d 1 > 5 then (d :: (exts l).1, (exts l).2) else ([], d :: l)
def ends : Nat → List CTx → Option (List CEnd × List CTx)
  | 0, l => some ([], l)
  | k + 1, [] => none
  | k + 1, d :: l => if d.length = 7 ∧ pb d 1 = 5 then (ends k l).map fun x => (endV d :: x.1, x.2) else none
def parseF : Nat → Nat → List CTx → Option (List CFace × List CTx)
  | 0, _, l => some ([], l)
  | c + 1, i, [] => none
  | c + 1, i, d :: l =>
    if d.length = 9 ∧ pb d 1 = 4 ∧ pb d 2 = (i : Int) ∧ pb d 3 = 0 then
      match ends (pb d 4).toNat (exts l).2 with
      | some (E, r) => (parseF c (i + 1) r).map fun x => ((pb d 5, pb d 6, pb d 7, pb d 8, (exts l).1, E) :: x.1, x.2)
      | none => none
    else none
theorem exts_eq : ∀ (l : List CTx), l = (exts l).1 ++ (exts l).2
  | [] => rfl
  | d :: l => by
    unfold exts
    split
    · simp only [List.cons_append]
      rw [← exts_eq l]
    · rfl
theorem exts_of : ∀ (X r : List CTx), (∀ x ∈ X, exOk x) → (∀ d ∈ r.head?, pb d 1 ≤ 5) → exts (X ++ r) = (X, r)
  | [], r, _, h => by
    cases r with
    | nil => rfl
    | cons d r =>
      have := h d rfl
      simp only [List.nil_append, exts]
      rw [if_neg (by omega)]
  | x :: X, r, h, hr => by
    have hx := (h x (List.mem_cons_self ..)).2.2
    have hp : pb x 1 > 5 := by unfold pb; omega
    simp only [List.cons_append, exts]
    rw [if_pos hp, exts_of X r (fun y hy => h y (List.mem_cons_of_mem _ hy)) hr]
theorem endV_T {d : CTx} (h7 : d.length = 7) (h5 : pb d 1 = 5) (hg : GoodP d) (he : endOk (endV d)) : endT (endV d) = d := by
  have h0 := hg.pb0
  rw [h7] at h0
  obtain ⟨_, _, h3, _⟩ := he
  have i2 := pb_in d 2
  have i4 := pb_in d 4
  have i5 := pb_in d 5
  simp only [endV] at h3
  have z5 : pb d 5 = 0 := by omega
  have eA : endA (endV d) = pb d 2 := by
    unfold endA endV
    by_cases h : pb d 2 ≥ 128
    · simp only [decide_eq_true h, if_true]; omega
    · simp only [decide_eq_false h, Bool.false_eq_true, if_false]; omega
  have e4 : pb d 4 + 256 * pb d 5 = pb d 4 := by omega
  conv => rhs; rw [seven h7]
  unfold endT
  rw [eA]
  simp only [endV, e4, z5, h0, h5]
  rfl
theorem ends_eq : ∀ (k : Nat) (l : List CTx) (E : List CEnd) (r : List CTx), ends k l = some (E, r) → (∀ d ∈ l, GoodP d) → (∀ x ∈ E, endOk x) → l = E.map endT ++ r ∧ E.length = k
  | 0, l, E, r, h, _, _ => by
    simp only [ends, Option.some.injEq, Prod.mk.injEq] at h
    obtain ⟨rfl, rfl⟩ := h
    exact ⟨rfl, rfl⟩
  | k + 1, [], E, r, h, _, _ => by cases h
  | k + 1, d :: l, E, r, h, hg, he => by
    unfold ends at h
    split at h
    · rename_i hd'
      simp only [Option.map_eq_some_iff] at h
      obtain ⟨⟨E', r'⟩, h1, h2⟩ := h
      simp only [Prod.mk.injEq] at h2
      obtain ⟨rfl, rfl⟩ := h2
      obtain ⟨h3, h4⟩ := ends_eq k l E' r' h1 (fun x hx => hg x (List.mem_cons_of_mem _ hx)) (fun x hx => he x (List.mem_cons_of_mem _ hx))
      refine ⟨?_, by simp [h4]⟩
      rw [List.map_cons, endV_T hd'.1 hd'.2 (hg d (List.mem_cons_self ..)) (he _ (List.mem_cons_self ..)), List.cons_append, ← h3]
    · cases h
theorem ends_of : ∀ (E : List CEnd) (r : List CTx), (∀ x ∈ E, endOk x) → ends E.length (E.map endT ++ r) = some (E, r)
  | [], r, _ => rfl
  | d :: E, r, h => by
    obtain ⟨h1, h2, h3⟩ := endT_bytes (h d (List.mem_cons_self ..))
    simp only [List.length_cons, List.map_cons, List.cons_append, ends]
    rw [if_pos ⟨h2, h1⟩, ends_of E r (fun x hx => h x (List.mem_cons_of_mem _ hx)), h3]
    rfl
theorem parse_of : ∀ (Fs : List CFace) (i : Nat), (∀ f ∈ Fs, FaceOk f) → i + Fs.length < 256 → parseF Fs.length i (facesP i Fs) = some (Fs, [])
  | [], i, _, _ => rfl
  | g :: Fs, i, h, hi => by
    simp only [List.length_cons] at hi
    have hg := h g (List.mem_cons_self ..)
    obtain ⟨b1, b2, b3, b4, b5, b6⟩ := faceP_bytes (i := i) (by omega) hg
    obtain ⟨_, g2, _, g4⟩ := hg.parts
    have hr : ∀ d ∈ (g.2.2.2.2.2.map endT ++ facesP (i + 1) Fs).head?, pb d 1 ≤ 5 := by
      intro d hd'
      cases hE : g.2.2.2.2.2 with
      | cons x E =>
        rw [hE] at hd'
        simp only [List.map_cons, List.cons_append, List.head?_cons, Option.mem_def, Option.some.injEq] at hd'
        subst hd'
        have := (endT_bytes (g4 x (by rw [hE]; exact List.mem_cons_self ..))).1
        omega
      | nil =>
        rw [hE] at hd'
        cases Fs with
        | nil => cases hd'
        | cons y Fs =>
          simp only [List.map_nil, List.nil_append, facesP, List.head?_cons, Option.mem_def, Option.some.injEq] at hd'
          subst hd'
          have := (faceP_bytes (i := i + 1) (by omega) (h y (by simp))).2.1
          omega
    simp only [List.length_cons, facesP, parseF]
    rw [if_pos ⟨b1, b2, b3, b4⟩, exts_of _ _ g2 hr, b5]
    simp only [Int.toNat_natCast]
    rw [ends_of _ _ g4]
    simp only
    rw [parse_of Fs (i + 1) (fun x hx => h x (List.mem_cons_of_mem _ hx)) (by omega)]
    unfold newF at b6
    simp only [Prod.mk.injEq, and_true] at b6
    obtain ⟨c1, c2, c3, c4⟩ := b6
    simp only [Option.map_some, c1, c2, c3, c4]
theorem parse_eq : ∀ (c i : Nat) (l : List CTx) (Fs : List CFace) (r : List CTx), parseF c i l = some (Fs, r) → (∀ d ∈ l, GoodP d) → (∀ f ∈ Fs, FaceOk f) → l = facesP i Fs ++ r ∧ Fs.length = c
  | 0, i, l, Fs, r, h, _, _ => by
    simp only [parseF, Option.some.injEq, Prod.mk.injEq] at h
    obtain ⟨rfl, rfl⟩ := h
    exact ⟨rfl, rfl⟩
  | c + 1, i, [], Fs, r, h, _, _ => by cases h
  | c + 1, i, d :: l, Fs, r, h, hg, hF => by
    unfold parseF at h
    split at h
    · rename_i hd'
      obtain ⟨h9, h4, hi, h3⟩ := hd'
      split at h
      · rename_i E r1 he
        simp only [Option.map_eq_some_iff] at h
        obtain ⟨⟨Fs', r'⟩, h1, h2⟩ := h
        simp only [Prod.mk.injEq] at h2
        obtain ⟨rfl, rfl⟩ := h2
        have hf := hF _ (List.mem_cons_self ..)
        obtain ⟨_, _, _, g4⟩ := hf.parts
        have hl := exts_eq l
        have hgl : ∀ x ∈ (exts l).2, GoodP x := fun x hx => hg x (List.mem_cons_of_mem _ (by rw [hl]; exact List.mem_append.2 (.inr hx)))
        obtain ⟨k1, k2⟩ := ends_eq _ _ _ _ he hgl g4
        have hgr : ∀ x ∈ r1, GoodP x := fun x hx => hgl x (by rw [k1]; exact List.mem_append.2 (.inr hx))
        obtain ⟨k3, k4⟩ := parse_eq c (i + 1) r1 Fs' r' h1 hgr (fun x hx => hF x (List.mem_cons_of_mem _ hx))
        refine ⟨?_, by simp [k4]⟩
        have hd0 := (hg d (List.mem_cons_self ..)).pb0
        rw [h9] at hd0
        have hE : ((E.length : Nat) : Int) = pb d 4 := by have := pb_in d 4; omega
        have ed : faceP i (pb d 5, pb d 6, pb d 7, pb d 8, (exts l).1, E) = d := by
          conv => rhs; rw [nine h9]
          unfold faceP
          simp only [hE, hd0, h4, hi, h3]
          rfl
        simp only [facesP, List.cons_append, List.append_assoc]
        rw [ed, ← k3, ← k1, ← hl]
      · cases h
    · cases h
end Go.Proofs.Ytdgdkbpmmemphaa
