/- Go's stable sort, part 5: slices.SortStableFunc of 0, 1, 2 .. by a table of at most 64 numbers. -/
import Derived.Test.YtfcilapoefaanaaSStab4
namespace Go.Proofs.Ytfcilapoefaanaa
open Go Go.RowKit
set_option linter.unusedVariables false

def seg (lo len : Nat) : IL := (List.range' lo len).map fun (k : Nat) => (k : Int)
theorem seg_len (lo len : Nat) : (seg lo len).length = len := by simp [seg]
theorem seg_app (lo a b : Nat) : seg lo (a + b) = seg lo a ++ seg (lo + a) b := by
  unfold seg
  rw [← List.map_append, List.range'_append_1]
theorem seg_mem {lo len : Nat} {x : Int} (h : x ∈ seg lo len) : (lo : Int) ≤ x ∧ x < ((lo + len : Nat) : Int) := by
  obtain ⟨k, hk, rfl⟩ := List.mem_map.1 h
  rw [List.mem_range'_1] at hk
  omega
theorem seg_lt (lo len : Nat) : (seg lo len).Pairwise (· < ·) := by
  unfold seg
  rw [List.pairwise_map]
  exact (List.pairwise_lt_range' (s := lo) (n := len) (step := 1) (by omega)).imp fun h => by omega
section
variable {n : Nat} {P : IL} {N : Int}
theorem l9_go {f : Nat} {a b : Int} {d y : IL} (hb : b ≤ N) (h0 : 0 ≤ b ∧ b ≤ 100) (e : F98 n d a b P = some y) : loopF (F70_l9 n N P) (f + 1) (a, b, d) = loopF (F70_l9 n N P) f (b, b + 20, y) := by
  show F70_l9 n N P (loopF _ f) (a, b, d) = _
  simp only [F70_l9]
  rw [decide_eq_true hb, cond_true, e, Option.bind_some, w64 (by omega) (by omega)]
theorem l9_end {f : Nat} {a b : Int} {d y : IL} (hb : ¬ b ≤ N) (e : F98 n d a N P = some y) : loopF (F70_l9 n N P) (f + 1) (a, b, d) = loopF (F70_l12 n N P) n (20, y) := by
  show F70_l9 n N P (loopF _ f) (a, b, d) = _
  simp only [F70_l9]
  rw [decide_eq_false hb, cond_false, e, Option.bind_some]
theorem l12_end {f : Nat} {bs : Int} {d : IL} (hb : ¬ bs < N) : loopF (F70_l12 n N P) (f + 1) (bs, d) = some d := by
  show F70_l12 n N P (loopF _ f) (bs, d) = _
  simp only [F70_l12]
  rw [decide_eq_false hb, cond_false]
theorem l12_go {f : Nat} {bs : Int} {d : IL} (hb : bs < N) (h0 : 0 ≤ bs ∧ bs ≤ 100) : loopF (F70_l12 n N P) (f + 1) (bs, d) = loopF (F70_l13 n (loopF (F70_l12 n N P) f) N P bs) n (0, 2 * bs, d) := by
  show F70_l12 n N P (loopF _ f) (bs, d) = _
  simp only [F70_l12]
  rw [decide_eq_true hb, cond_true, w64 (by omega) (by omega)]
theorem l13_go {K : (Int × IL) → Option IL} {f : Nat} {a b bs : Int} {d y : IL} (hb : b ≤ N) (h0 : 0 ≤ a ∧ a ≤ 100 ∧ 0 ≤ bs ∧ bs ≤ 100 ∧ 0 ≤ b ∧ b ≤ 100) (e : F99 n d a (a + bs) b P = some y) : loopF (F70_l13 n K N P bs) (f + 1) (a, b, d) = loopF (F70_l13 n K N P bs) f (b, b + 2 * bs, y) := by
  show F70_l13 n K N P bs (loopF _ f) (a, b, d) = _
  simp only [F70_l13]
  rw [decide_eq_true hb, cond_true, w64 (n := a + bs) (by omega) (by omega), e, Option.bind_some, w64 (n := 2 * bs) (by omega) (by omega), w64 (by omega) (by omega)]
theorem l13_last {K : (Int × IL) → Option IL} {f : Nat} {a b bs : Int} {d y : IL} (hb : ¬ b ≤ N) (hm : a + bs < N) (h0 : 0 ≤ a ∧ a ≤ 100 ∧ 0 ≤ bs ∧ bs ≤ 100) (e : F99 n d a (a + bs) N P = some y) : loopF (F70_l13 n K N P bs) (f + 1) (a, b, d) = K (bs * 2, y) := by
  show F70_l13 n K N P bs (loopF _ f) (a, b, d) = _
  simp only [F70_l13]
  rw [decide_eq_false hb, cond_false, w64 (n := a + bs) (by omega) (by omega), decide_eq_true hm, cond_true, e, Option.bind_some, w64 (n := bs * 2) (by omega) (by omega)]
theorem l13_none {K : (Int × IL) → Option IL} {f : Nat} {a b bs : Int} {d : IL} (hb : ¬ b ≤ N) (hm : ¬ a + bs < N) (h0 : 0 ≤ a ∧ a ≤ 100 ∧ 0 ≤ bs ∧ bs ≤ 100) : loopF (F70_l13 n K N P bs) (f + 1) (a, b, d) = K (bs * 2, d) := by
  show F70_l13 n K N P bs (loopF _ f) (a, b, d) = _
  simp only [F70_l13]
  rw [decide_eq_false hb, cond_false, w64 (n := a + bs) (by omega) (by omega), decide_eq_false hm, cond_false, w64 (n := bs * 2) (by omega) (by omega)]
end
/-- a block of the first phase -/
theorem insS {n : Nat} (hn : 1000 < n) {P : IL} (hP : okT P) (X Y : IL) (lo len : Nat) (h64 : lo + len ≤ P.length) (hl : (X ++ seg lo len ++ Y).length ≤ 64) (a b : Int) (ha : a = X.length) (hb : b = ((X.length + len : Nat) : Int)) :
    F98 n (X ++ seg lo len ++ Y) a b P = some (X ++ srt P (seg lo len) ++ Y) :=
  (insR n (by omega) P X (seg lo len) Y hP (fun x hx => by have := seg_mem hx; exact ⟨by omega, by omega⟩) (seg_lt lo len) hl a b ha (by rw [seg_len]; exact hb)).1
theorem insS_pw {P : IL} (hP : okT P) (lo len : Nat) (h64 : lo + len ≤ P.length) (hl : len ≤ 64) : (srt P (seg lo len)).Pairwise (Rl P) :=
  (insR 201 (by omega) P [] (seg lo len) [] hP (fun x hx => by have := seg_mem hx; exact ⟨by omega, by omega⟩) (seg_lt lo len) (by simp [seg_len]; omega) 0 len rfl (by simp [seg_len])).2
/-- two neighbours are merged -/
theorem mrgS {n : Nat} (hn : 1000 < n) {P : IL} (hP : okT P) (X Y : IL) (lo la lb : Nat) (h64 : lo + la + lb ≤ P.length) (ha0 : 0 < la) (hb0 : 0 < lb) (pA : (srt P (seg lo la)).Pairwise (Rl P)) (pB : (srt P (seg (lo + la) lb)).Pairwise (Rl P)) (hl : X.length + la + lb + Y.length ≤ 64) (a m b : Int) (ha : a = X.length) (hm : m = a + la) (hb : b = m + lb) :
    F99 n (X ++ srt P (seg lo la) ++ srt P (seg (lo + la) lb) ++ Y) a m b P = some (X ++ srt P (seg lo (la + lb)) ++ Y) ∧ (srt P (seg lo (la + lb))).Pairwise (Rl P) := by
  have lA : (srt P (seg lo la)).length = la := by rw [srt_len, seg_len]
  have lB : (srt P (seg (lo + la) lb)).length = lb := by rw [srt_len, seg_len]
  have mA : ∀ x ∈ srt P (seg lo la), (lo : Int) ≤ x ∧ x < ((lo + la : Nat) : Int) := fun x hx => seg_mem ((srt_perm P _).subset hx)
  have mB : ∀ x ∈ srt P (seg (lo + la) lb), ((lo + la : Nat) : Int) ≤ x ∧ x < ((lo + la + lb : Nat) : Int) := fun x hx => seg_mem ((srt_perm P _).subset hx)
  obtain ⟨S, e, h1, h2⟩ := symOk P hP 64 n (by omega) X (srt P (seg lo la)) (srt P (seg (lo + la) lb)) Y (List.length_pos_iff.1 (by omega)) (List.length_pos_iff.1 (by omega)) (by omega)
    (fun x hx => by have := mA x hx; exact ⟨by omega, by omega⟩) (fun x hx => by have := mB x hx; exact ⟨by omega, by omega⟩) pA pB (fun x hx y hy _ => by have := mA x hx; have := mB y hy; omega) (by simp only [List.length_append]; omega) a m b ha (by omega) (by omega)
  have hp : S.Perm (seg lo (la + lb)) := by
    rw [seg_app]
    exact h1.trans (List.Perm.append (srt_perm P _) (srt_perm P _))
  have e2 := srt_eq hp h2
  rw [e2]
  exact ⟨e, h2⟩
theorem stabR (g : Nat) (hg : 1000 < g) (P : IL) (hP : okT P) (h64 : P.length ≤ 64) : F70 (g + 10) (seg 0 P.length) (P.length : Int) P = some (srt P (seg 0 P.length)) := by
  unfold F70
  have hn : 1000 < g + 10 := by omega
  rcases Nat.lt_or_ge P.length 20 with c1 | c1
  · have e1 := insS hn hP [] [] 0 P.length (by omega) (by simp [seg_len]; omega) 0 P.length rfl (by simp)
    simp only [List.nil_append, List.append_nil] at e1
    exact (l9_end (f := g + 9) (by omega) e1).trans (l12_end (f := g + 9) (by omega))
  have s1 : seg 0 P.length = seg 0 20 ++ seg 20 (P.length - 20) := by rw [← seg_app 0 20]; congr 1; omega
  have p1 := insS_pw hP 0 20 (by omega) (by omega)
  have l1 : (srt P (seg 0 20)).length = 20 := by rw [srt_len, seg_len]
  have e1 := insS hn hP [] (seg 20 (P.length - 20)) 0 20 (by omega) (by simp [seg_len]; omega) 0 20 rfl (by simp)
  simp only [List.nil_append] at e1
  rw [← s1] at e1
  refine (l9_go (f := g + 9) (by omega) (by omega) e1).trans ?_
  rcases Nat.lt_or_ge P.length 40 with c2 | c2
  · have e2 := insS hn hP (srt P (seg 0 20)) [] 20 (P.length - 20) (by omega) (by simp [seg_len, l1]; omega) 20 P.length (by rw [l1]; rfl) (by rw [l1]; omega)
    rw [List.append_nil, List.append_nil] at e2
    refine (l9_end (f := g + 8) (by omega) e2).trans ?_
    by_cases c3 : P.length = 20
    · refine (l12_end (f := g + 9) (by omega)).trans ?_
      rw [c3]; rw [show seg 20 (20 - 20) = [] from rfl, srt_nil, List.append_nil]
    · refine (l12_go (f := g + 9) (by omega) (by omega)).trans ?_
      have p2 := insS_pw hP 20 (P.length - 20) (by omega) (by omega)
      have e3 := (mrgS hn hP [] [] 0 20 (P.length - 20) (by omega) (by omega) (by omega) p1 (by rw [Nat.zero_add]; exact p2) (by simp; omega) 0 20 P.length rfl (by omega) (by omega)).1
      rw [List.append_nil, List.append_nil, List.nil_append, List.nil_append, Nat.zero_add, show 20 + (P.length - 20) = P.length by omega] at e3
      exact (l13_last (f := g + 9) (by omega) (by omega) (by omega) e3).trans (l12_end (f := g + 8) (by omega))
  have s2 : seg 20 (P.length - 20) = seg 20 20 ++ seg 40 (P.length - 40) := by rw [← seg_app 20 20]; congr 1; omega
  have p2 := insS_pw hP 20 20 (by omega) (by omega)
  have l2 : (srt P (seg 20 20)).length = 20 := by rw [srt_len, seg_len]
  have e2 := insS hn hP (srt P (seg 0 20)) (seg 40 (P.length - 40)) 20 20 (by omega) (by simp [seg_len, l1]; omega) 20 40 (by rw [l1]; rfl) (by rw [l1]; rfl)
  rw [List.append_assoc, ← s2] at e2
  refine (l9_go (f := g + 8) (by omega) (by omega) e2).trans ?_
  -- the first two are merged, whatever stands behind
  have m1 : ∀ Y : IL, Y.length ≤ 24 → F99 (g + 10) (srt P (seg 0 20) ++ srt P (seg 20 20) ++ Y) 0 (0 + 20) 40 P = some (srt P (seg 0 40) ++ Y) ∧ (srt P (seg 0 40)).Pairwise (Rl P) := fun Y hY =>
    mrgS hn hP [] Y 0 20 20 (by omega) (by omega) (by omega) p1 p2 (by simp; omega) 0 (0 + 20) 40 rfl (by omega) (by omega)
  have p12 := (m1 [] (by simp)).2
  have l12 : (srt P (seg 0 40)).length = 40 := by rw [srt_len, seg_len]
  rcases Nat.lt_or_ge P.length 60 with c3 | c3
  · have e3 := insS hn hP (srt P (seg 0 20) ++ srt P (seg 20 20)) [] 40 (P.length - 40) (by omega) (by simp [seg_len, l1, l2]; omega) 40 P.length (by rw [List.length_append, l1, l2]; rfl) (by rw [List.length_append, l1, l2]; omega)
    rw [List.append_nil, List.append_nil] at e3
    refine (l9_end (f := g + 7) (by omega) e3).trans ?_
    refine (l12_go (f := g + 9) (by omega) (by omega)).trans ?_
    refine (l13_go (f := g + 9) (by omega) (by omega) (m1 _ (by rw [srt_len, seg_len]; omega)).1).trans ?_
    refine (l13_none (f := g + 8) (by omega) (by omega) (by omega)).trans ?_
    by_cases c4 : P.length = 40
    · refine (l12_end (f := g + 8) (by omega)).trans ?_
      rw [c4]; rw [show seg 40 (40 - 40) = [] from rfl, srt_nil, List.append_nil]
    · refine (l12_go (f := g + 8) (by omega) (by omega)).trans ?_
      have p3 := insS_pw hP 40 (P.length - 40) (by omega) (by omega)
      have e4 := (mrgS hn hP [] [] 0 40 (P.length - 40) (by omega) (by omega) (by omega) p12 (by rw [Nat.zero_add]; exact p3) (by simp; omega) 0 40 P.length rfl (by omega) (by omega)).1
      rw [List.append_nil, List.append_nil, List.nil_append, List.nil_append, Nat.zero_add, show 40 + (P.length - 40) = P.length by omega] at e4
      exact (l13_last (f := g + 9) (by omega) (by omega) (by omega) e4).trans (l12_end (f := g + 7) (by omega))
  have s3 : seg 40 (P.length - 40) = seg 40 20 ++ seg 60 (P.length - 60) := by rw [← seg_app 40 20]; congr 1; omega
  have p3 := insS_pw hP 40 20 (by omega) (by omega)
  have l3 : (srt P (seg 40 20)).length = 20 := by rw [srt_len, seg_len]
  have e3 := insS hn hP (srt P (seg 0 20) ++ srt P (seg 20 20)) (seg 60 (P.length - 60)) 40 20 (by omega) (by simp [seg_len, l1, l2]; omega) 40 60 (by rw [List.length_append, l1, l2]; rfl) (by rw [List.length_append, l1, l2]; rfl)
  rw [List.append_assoc _ (seg 40 20), ← s3] at e3
  refine (l9_go (f := g + 7) (by omega) (by omega) e3).trans ?_
  have e4 := insS hn hP (srt P (seg 0 20) ++ srt P (seg 20 20) ++ srt P (seg 40 20)) [] 60 (P.length - 60) (by omega) (by simp [seg_len, l1, l2, l3]; omega) 60 P.length (by simp [l1, l2, l3]) (by simp only [List.length_append, l1, l2, l3]; omega)
  rw [List.append_nil, List.append_nil] at e4
  refine (l9_end (f := g + 6) (by omega) e4).trans ?_
  refine (l12_go (f := g + 9) (by omega) (by omega)).trans ?_
  have e5 := (m1 (srt P (seg 40 20) ++ srt P (seg 60 (P.length - 60))) (by rw [List.length_append, l3, srt_len, seg_len]; omega)).1
  rw [← List.append_assoc] at e5
  refine (l13_go (f := g + 9) (by omega) (by omega) e5).trans ?_
  have fin : ∀ d : IL, d = srt P (seg 0 40) ++ srt P (seg 40 (P.length - 40)) → (srt P (seg 40 (P.length - 40))).Pairwise (Rl P) → loopF (F70_l12 (g + 10) P.length P) (g + 9) (40, d) = some (srt P (seg 0 P.length)) := by
    rintro d rfl p34
    refine (l12_go (f := g + 8) (by omega) (by omega)).trans ?_
    have e7 := (mrgS hn hP [] [] 0 40 (P.length - 40) (by omega) (by omega) (by omega) p12 (by rw [Nat.zero_add]; exact p34) (by simp; omega) 0 40 P.length rfl (by omega) (by omega)).1
    rw [List.append_nil, List.append_nil, List.nil_append, List.nil_append, Nat.zero_add, show 40 + (P.length - 40) = P.length by omega] at e7
    exact (l13_last (f := g + 9) (by omega) (by omega) (by omega) e7).trans (l12_end (f := g + 7) (by omega))
  by_cases c4 : P.length = 60
  · refine (l13_none (f := g + 8) (by omega) (by omega) (by omega)).trans ?_
    refine fin _ ?_ ?_
    · rw [c4]; rw [show seg 60 (60 - 60) = [] from rfl, srt_nil]; simp
    · rw [c4]; exact p3
  · have p4 := insS_pw hP 60 (P.length - 60) (by omega) (by omega)
    have e6 := mrgS hn hP (srt P (seg 0 40)) [] 40 20 (P.length - 60) (by omega) (by omega) (by omega) p3 p4 (by rw [l12]; simp; omega) 40 (40 + 20) P.length (by rw [l12]; rfl) (by omega) (by omega)
    rw [List.append_nil, List.append_nil, show 20 + (P.length - 60) = P.length - 40 by omega] at e6
    refine (l13_last (f := g + 8) (by omega) (by omega) (by omega) ?_).trans (fin _ rfl e6.2)
    rw [← List.append_assoc]
    exact e6.1
end Go.Proofs.Ytfcilapoefaanaa
