/- The laws TopoChecks and TopoUnplugs, in plain Lean. -/
import Derived.Test.YtmcjcioifgaihaaSTree
namespace Go.Proofs.Ytmcjcioifgaihaa
open Go Go.RowKit
set_option linter.unusedVariables false

def isU (path : List Int) (p : Nd) : Bool := decide (cpl p.1 path = path.length)
theorem underP (n : Nat) (p : Nd) (path : List Int) (h : p.1.length ≤ 6) (hn : 100 < n) : F95 n p.1 path = some (isU path p) := by
  unfold F95 isU
  rw [rf78 n p.1 path (by omega) (by omega)]
  simp only [Option.bind_some, Option.some.injEq]
  rw [Bool.eq_iff_iff, beq_iff_eq, decide_eq_true_iff]
  omega
theorem underR (n : Nat) (p : Nd) (path : List Int) (h : p.1.length ≤ 6) (hn : 100 < n) : F96 n p.1 p.2.1 p.2.2.1 p.2.2.2 path = some (isU path p) := by
  unfold F96 isU
  have h1 := cpl_le1 p.1 path
  by_cases hc : path.length ≤ p.1.length
  · have sub : subB p.1.length none (some ((path.length : Nat) : Int)) = true := by simp [subB]; omega
    rw [decide_eq_true (show ((p.1.length : Nat) : Int) ≥ (path.length : Nat) by omega), sub, Int.toNat_natCast, rf25 n (p.1.take path.length) path (by rw [List.length_take]; omega) (by rw [List.length_take]; omega)]
    simp only [cond_true, Option.bind_some, Option.some.injEq]
    rw [Bool.eq_iff_iff, decide_eq_true_iff, decide_eq_true_iff]
    have := take_cpl p.1 path path.length hc (Nat.le_refl _)
    rw [List.take_length] at this
    rw [this]
    have := cpl_le2 p.1 path
    omega
  · rw [decide_eq_false (show ¬ ((p.1.length : Nat) : Int) ≥ (path.length : Nat) by omega), decide_eq_false (by omega)]; rfl
theorem copyN (n : Nat) (p : Nd) (h : p.1.length ≤ 17592186044416) : F67 n p.1 p.2.1 p.2.2.1 p.2.2.2 = some (p.2.1, p.2.2.1, p.2.2.2, p.1) := by
  unfold F67 F140
  rw [decide_eq_true (by simpa using h)]
  rfl
theorem eqPaths (n : Nat) (p : Nd) (h : p.1.length ≤ 4611686018427387904) (hn : p.1.length + 1 < n) : F26 n p.1 p.2.1 p.2.2.1 p.2.2.2 p.1 p.2.1 p.2.2.1 p.2.2.2 = some true := by
  unfold F26
  rw [rf25 n p.1 p.1 h hn, decide_eq_true rfl]
  simp only [Option.bind_some, cond_true, beq_self_eq_true]
theorem eqTrees (n : Nat) (l : List Nd) (hl : l.length ≤ 40) (h : ∀ p ∈ l, p.1.length ≤ 6) (hn : 100 < n) : F39 n l l = some true := by
  unfold F39
  rw [bne_self_eq_false]
  simp only [cond_false]
  refine loopF_eq (F39_l4 n l l) (fun _ => some true) (fun x => ∃ k : Nat, x = (k : Int) ∧ k ≤ l.length) (fun x => l.length - x.toNat) ?_ n 0 ⟨0, rfl, by omega⟩ (by simp; omega)
  rintro k x ⟨j, rfl, hj⟩ ih
  simp only [F39_l4, Int.toNat_natCast]
  by_cases hjl : j < l.length
  · rw [decide_eq_true (show (j : Int) < (l.length : Int) by omega), inb_true (show (0 : Int) ≤ j by omega) (show (j : Int) < l.length by omega)]
    have hm := h (l.getD j dN) (by rw [List.getD_eq_getElem?_getD, List.getElem?_eq_getElem hjl]; exact List.getElem_mem hjl)
    rw [eqPaths n (l.getD j dN) (by omega) (by omega), w64 (n := (j : Int) + 1) (by omega) (by omega)]
    simp only [cond_true, Option.bind_some, Bool.not_true, cond_false]
    exact ih _ ⟨j + 1, by omega, by omega⟩ (by simp only [Int.toNat_natCast]; omega)
  · rw [decide_eq_false (show ¬ (j : Int) < (l.length : Int) by omega)]; rfl
theorem unplugP (n : Nat) (tree : List Nd) (path : List Int) (hv : allV tree) (hl : tree.length ≤ 40) (hn : 100 < n) : loopF (F37_l2 n tree path) n (0, [], []) = some (0, tree.filter (fun p => !isU path p), tree.filter (isU path)) := by
  refine loopF_eq (F37_l2 n tree path) (fun _ => some (0, tree.filter (fun p => !isU path p), tree.filter (isU path))) (fun x => ∃ k : Nat, x = ((k : Int), (tree.take k).filter (fun p => !isU path p), (tree.take k).filter (isU path)) ∧ k ≤ tree.length) (fun x => tree.length - x.1.toNat) ?_ n (0, [], []) ⟨0, rfl, by omega⟩ (by simp; omega)
  rintro k x ⟨j, rfl, hj⟩ ih
  simp only [F37_l2, Int.toNat_natCast]
  by_cases hjl : j < tree.length
  · have hp := pathE0 (hv j hjl).1
    rw [decide_eq_true (show (j : Int) < (tree.length : Int) by omega), inb_true (show (0 : Int) ≤ j by omega) (show (j : Int) < tree.length by omega), underP n (tree.getD j dN) path hp.2 hn, w64 (n := (j : Int) + 1) (by omega) (by omega), copyN n (tree.getD j dN) (by omega)]
    simp only [cond_true, Option.bind_some]
    have e1 := take_getD dN tree j hjl
    have l1 := List.length_filter_le (fun p => !isU path p) (tree.take j)
    have l2 := List.length_filter_le (isU path) (tree.take j)
    rw [List.length_take] at l1 l2
    have ih' := ih _ ⟨j + 1, rfl, by omega⟩ (by simp only [Int.toNat_natCast]; omega)
    rw [e1, List.filter_append, List.filter_append, List.filter_cons, List.filter_cons, List.filter_nil, List.filter_nil] at ih'
    cases hu : isU path (tree.getD j dN)
    · rw [hu] at ih'
      simp only [Bool.not_false, if_true, Bool.false_eq_true, if_false, List.append_nil] at ih'
      simp only [cond_false]
      rw [decide_eq_true (by simp only [List.length_singleton]; omega)]
      simp only [cond_true]
      exact ih'
    · rw [hu] at ih'
      simp only [Bool.not_true, if_true, Bool.false_eq_true, if_false, List.append_nil] at ih'
      simp only [cond_true]
      rw [decide_eq_true (by simp only [List.length_singleton]; omega)]
      simp only [cond_true]
      exact ih'
  · rw [decide_eq_false (show ¬ (j : Int) < (tree.length : Int) by omega)]
    rw [List.take_of_length_le (by omega)]; rfl
/-- what 'delete those' leaves -/
def delB {R : Type} (p : Nd → Bool) (fin : List Nd → Option R) (k : (Int × Int × List Nd) → Option R) : (Int × Int × List Nd) → Option R
  | (i, j, m) => (bif (decide (j < ((m.length : Nat) : Int))) then (bif inb j m.length then (bif (!(p (m.getD j.toNat dN))) then (bif inb i m.length then (k ((IntKind.wrap .i64 (i + 1)), (IntKind.wrap .i64 (j + 1)), (m.set i.toNat (m.getD j.toNat dN)))) else none) else (k (i, (IntKind.wrap .i64 (j + 1)), m))) else none) else (bif subB m.length (some i) none then (bif subB ((splice m i.toNat (List.replicate (m.length - i.toNat) dN)).length) none (some i) then (fin (((splice m i.toNat (List.replicate (m.length - i.toNat) dN)).take (0 + i.toNat)).drop 0)) else none) else none))
theorem delB_ok {R : Type} (p : Nd → Bool) (fin : List Nd → Option R) (body : ((Int × Int × List Nd) → Option R) → (Int × Int × List Nd) → Option R) (B : Nat) (hB : B ≤ 40) (G : Nd → Prop) (hb : ∀ k d, (∀ x ∈ d.2.2, G x) → body k d = delB p fin k d) (n : Nat) (hn : 100 < n) (i j : Nat) (m : List Nd) (hm : m.length ≤ B) (hij : i ≤ j) (hj : j ≤ m.length) (hG : ∀ x ∈ m, G x) :
    loopF body n ((i : Int), (j : Int), m) = fin (m.take i ++ (m.drop j).filter (fun x => !p x)) := by
  refine loopF_eq body (fun d => fin (d.2.2.take d.1.toNat ++ (d.2.2.drop d.2.1.toNat).filter (fun x => !p x))) (fun d => ∃ i j : Nat, d.1 = (i : Int) ∧ d.2.1 = (j : Int) ∧ i ≤ j ∧ j ≤ d.2.2.length ∧ d.2.2.length ≤ B ∧ ∀ x ∈ d.2.2, G x) (fun d => d.2.2.length - d.2.1.toNat) ?_ n ((i : Int), (j : Int), m) ⟨i, j, rfl, rfl, hij, hj, hm, hG⟩ (by simp; omega)
  rintro k ⟨_, _, m⟩ ⟨i, j, rfl, rfl, hij, hj, hm, hG⟩ ih
  simp only at hj hm hG
  rw [hb k _ hG]
  simp only [delB, Int.toNat_natCast]
  by_cases hjl : j < m.length
  · rw [decide_eq_true (show (j : Int) < (m.length : Int) by omega), inb_true (show (0 : Int) ≤ j by omega) (show (j : Int) < m.length by omega), w64 (n := (j : Int) + 1) (by omega) (by omega), w64 (n := (i : Int) + 1) (by omega) (by omega), inb_true (show (0 : Int) ≤ i by omega) (show (i : Int) < m.length by omega)]
    simp only [cond_true]
    rw [drop_getD dN m j hjl, List.filter_cons]
    have hmem : m.getD j dN ∈ m := by rw [List.getD_eq_getElem?_getD, List.getElem?_eq_getElem hjl]; exact List.getElem_mem hjl
    cases hp : p (m.getD j dN)
    · simp only [Bool.not_false, cond_true, if_true]
      rw [ih _ ⟨i + 1, j + 1, by simp, by simp, by omega, by simp only [List.length_set]; omega, by simp only [List.length_set]; omega, fun x hx => by
        rcases List.mem_or_eq_of_mem_set hx with h | h
        · exact hG x h
        · rw [h]; exact hG _ hmem⟩ (by simp only [List.length_set]; omega)]
      have t1 : ((i : Int) + 1).toNat = i + 1 := by omega
      have t2 : ((j : Int) + 1).toNat = j + 1 := by omega
      simp only [t1, t2]
      have d1 : (m.set i (m.getD j dN)).drop (j + 1) = m.drop (j + 1) := by rw [List.drop_set_of_lt (by omega)]
      have d2 : (m.set i (m.getD j dN)).take (i + 1) = m.take i ++ [m.getD j dN] := by
        rw [take_getD dN _ i (by rw [List.length_set]; omega), List.take_set_of_le (by omega)]
        congr 1
        rw [List.getD_eq_getElem?_getD (i := i), List.getElem?_set_self (by omega)]; rfl
      rw [d1, d2, List.append_assoc]; rfl
    · simp only [Bool.not_true, cond_false, Bool.false_eq_true, if_false]
      rw [ih _ ⟨i, j + 1, by simp, by simp, by omega, by simp only; omega, hm, hG⟩ (by simp only; omega)]
      have t2 : ((j : Int) + 1).toNat = j + 1 := by omega
      simp only [t2, Int.toNat_natCast]
  · have hjm : j = m.length := by omega
    rw [decide_eq_false (show ¬ (j : Int) < (m.length : Int) by omega)]
    have sl : (splice m i (List.replicate (m.length - i) dN)).length = m.length := splice_length m i _ (by simp; omega)
    have s1 : subB m.length (some (i : Int)) none = true := by simp [subB]; omega
    have s2 : subB m.length none (some (i : Int)) = true := by simp [subB]; omega
    rw [sl, s1, s2]
    simp only [cond_false, cond_true, Nat.zero_add, List.drop_zero]
    rw [List.drop_eq_nil_of_le (by omega), List.filter_nil, List.append_nil]
    congr 1
    unfold splice
    rw [List.append_assoc, List.take_append_of_le_length (by rw [List.length_take]; omega), List.take_take, Nat.min_self]
/-- the first one, then the others -/
theorem firstB_ok {R : Type} (p : Nd → Bool) (fin : List Nd → Option R) (go : Int → Option R) (m : List Nd) (body : (Int → Option R) → Int → Option R) (hm : m.length ≤ 40) (n : Nat) (hn : 100 < n)
    (hgo : ∀ i : Nat, i < m.length → go (i : Int) = fin (m.take i ++ (m.drop (i + 1)).filter (fun x => !p x))) (hno : go (-1) = fin m)
    (hb : ∀ (k : Int → Option R) (j : Nat), j ≤ m.length → body k (j : Int) = (bif (decide ((j : Int) < ((m.length : Nat) : Int))) then (bif p (m.getD j dN) then go (j : Int) else k (IntKind.wrap .i64 ((j : Int) + 1))) else go (-1))) :
    loopF body n 0 = fin (m.filter (fun x => !p x)) := by
  refine loopF_eq body (fun _ => fin (m.filter (fun x => !p x))) (fun x => ∃ k : Nat, x = (k : Int) ∧ k ≤ m.length ∧ m.filter (fun x => !p x) = m.take k ++ (m.drop k).filter (fun x => !p x)) (fun x => m.length - x.toNat) ?_ n 0 ⟨0, rfl, by omega, by simp⟩ (by simp; omega)
  rintro k x ⟨j, rfl, hj, hf⟩ ih
  rw [hb k j hj]
  by_cases hjl : j < m.length
  · rw [decide_eq_true (show (j : Int) < (m.length : Int) by omega)]
    simp only [cond_true]
    rw [drop_getD dN m j hjl, List.filter_cons] at hf
    cases hp : p (m.getD j dN)
    · rw [hp] at hf
      simp only [cond_false]
      rw [w64 (n := (j : Int) + 1) (by omega) (by omega)]
      refine ih _ ⟨j + 1, by omega, by omega, ?_⟩ (by simp only [Int.toNat_natCast]; omega)
      rw [hf, take_getD dN m j hjl, List.append_assoc]; rfl
    · rw [hp] at hf
      simp only [cond_true]
      rw [hgo j hjl, hf]; rfl
  · rw [decide_eq_false (show ¬ (j : Int) < (m.length : Int) by omega)]
    simp only [cond_false]
    rw [hno, hf, List.drop_eq_nil_of_le (by omega), List.filter_nil, List.append_nil, List.take_of_length_le (by omega)]
theorem allV_mem {tree : List Nd} (hv : allV tree) : ∀ x ∈ tree, x.1.length ≤ 6 := by
  intro x hx
  obtain ⟨i, hi, rfl⟩ := List.mem_iff_getElem.1 hx
  have := (pathE0 (hv i hi).1).2
  rwa [List.getD_eq_getElem?_getD, List.getElem?_eq_getElem hi] at this
theorem second (n : Nat) (tree : List Nd) (path : List Int) (hv : allV tree) (hl : tree.length ≤ 40) (hn : 100 < n) (x : List Nd) : F38_j23 n path tree x = some (x, tree.filter (isU path), 0) := by
  have hG := allV_mem hv
  have e : F38_j23 n path tree x = (fun l => some (x, l, (0 : Int))) (tree.filter (fun y => !(!isU path y))) := by
    show loopF (F38_l32 n path tree x) n 0 = _
    refine firstB_ok (fun y => !isU path y) (fun l => some (x, l, (0 : Int))) (F38_j30 n path tree x) tree (F38_l32 n path tree x) hl n hn (fun i hi => ?_) rfl (fun k j hj => ?_)
    · simp only [F38_j30]
      rw [show ((i : Int) == (-1 : Int)) = false by rw [beq_eq_false_iff_ne]; omega, w64 (n := (i : Int) + 1) (by omega) (by omega)]
      simp only [cond_false]
      refine (delB_ok (fun y => !isU path y) (fun l => some (x, l, (0 : Int))) (F38_l31 n path x) 40 (by omega) (fun y => y.1.length ≤ 6) (fun k d hd => ?_) n hn i (i + 1) tree hl (by omega) (by omega) hG)
      obtain ⟨a, b, m⟩ := d
      simp only [F38_l31, delB]
      by_cases hb : b < ((m.length : Nat) : Int)
      · rw [decide_eq_true hb]
        simp only [cond_true]
        by_cases hi : inb b m.length = true
        · rw [hi]
          have hlt : b.toNat < m.length := by simp [inb] at hi; omega
          rw [underR n (m.getD b.toNat dN) path (hd _ (by rw [List.getD_eq_getElem?_getD, List.getElem?_eq_getElem hlt]; exact List.getElem_mem hlt)) hn]
          rfl
        · rw [Bool.not_eq_true] at hi; rw [hi]; rfl
      · rw [decide_eq_false hb]; rfl
    · simp only [F38_l32, Int.toNat_natCast]
      by_cases hjl : j < tree.length
      · rw [decide_eq_true (show (j : Int) < (tree.length : Int) by omega), inb_true (show (0 : Int) ≤ j by omega) (show (j : Int) < tree.length by omega), underR n (tree.getD j dN) path (pathE0 (hv j hjl).1).2 hn]
        rfl
      · rw [decide_eq_false (show ¬ (j : Int) < (tree.length : Int) by omega)]; rfl
  rw [e]
  simp only [Bool.not_not]
theorem unplugR (n : Nat) (tree : List Nd) (path : List Int) (hv : allV tree) (hl : tree.length ≤ 40) (hn : 100 < n) : loopF (F38_l36 n path tree) n 0 = some (tree.filter (fun p => !isU path p), tree.filter (isU path), 0) := by
  have hG := allV_mem hv
  refine (firstB_ok (isU path) (fun l => some (l, tree.filter (isU path), (0 : Int))) (F38_j34 n path tree) tree (F38_l36 n path tree) hl n hn (fun i hi => ?_) (second n tree path hv hl hn tree) (fun k j hj => ?_))
  · simp only [F38_j34]
    rw [show ((i : Int) == (-1 : Int)) = false by rw [beq_eq_false_iff_ne]; omega, w64 (n := (i : Int) + 1) (by omega) (by omega)]
    simp only [cond_false]
    refine (delB_ok (isU path) (fun l => some (l, tree.filter (isU path), (0 : Int))) (F38_l35 n path tree) 40 (by omega) (fun y => y.1.length ≤ 6) (fun k d hd => ?_) n hn i (i + 1) tree hl (by omega) (by omega) hG)
    obtain ⟨a, b, m⟩ := d
    simp only [F38_l35, delB]
    by_cases hb : b < ((m.length : Nat) : Int)
    · rw [decide_eq_true hb]
      simp only [cond_true]
      by_cases hi : inb b m.length = true
      · rw [hi]
        have hlt : b.toNat < m.length := by simp [inb] at hi; omega
        rw [underR n (m.getD b.toNat dN) path (hd _ (by rw [List.getD_eq_getElem?_getD, List.getElem?_eq_getElem hlt]; exact List.getElem_mem hlt)) hn]
        rfl
      · rw [Bool.not_eq_true] at hi; rw [hi]; rfl
    · rw [decide_eq_false hb]
      simp only [cond_false, second n tree path hv hl hn]
  · simp only [F38_l36, Int.toNat_natCast]
    by_cases hjl : j < tree.length
    · rw [decide_eq_true (show (j : Int) < (tree.length : Int) by omega), inb_true (show (0 : Int) ≤ j by omega) (show (j : Int) < tree.length by omega), underR n (tree.getD j dN) path (pathE0 (hv j hjl).1).2 hn]
      rfl
    · rw [decide_eq_false (show ¬ (j : Int) < (tree.length : Int) by omega)]; rfl
theorem unplugsN (n : Nat) (hn : 100 < n) (tree : List Nd) (path : List Int) : F9 n tree path = some true := by
  obtain ⟨r, e1, e2, e3⟩ := c1 n tree hn
  have nil : F39 n ([] : List Nd) [] = some true := eqTrees n [] (by simp) (by simp) hn
  unfold F9 F37 F38
  rw [e1, e2]
  simp only [Option.bind_some]
  by_cases h0 : r = 0
  · obtain ⟨hv, hl⟩ := e3 h0
    rw [show (r != 0) = false by simp [h0]]
    simp only [cond_false]
    obtain ⟨i, f1, f2, f3⟩ := findE n tree path (by omega) (by omega) (fun j hj => by have := pathE0 (hv j hj).1; omega)
    rw [f1, f2]
    rcases f3 with rfl | ⟨g1, g2, g3⟩
    · simp only [Option.bind_some, F23_j5]
      simp only [show decide ((-1 : Int) < 0) = true from rfl, cond_true, Option.bind_some, Bool.not_false, nil, beq_self_eq_true]
    · simp only [Option.bind_some, F23_j5]
      rw [decide_eq_false (show ¬ i < 0 by omega), inb_true g1 g2]
      simp only [cond_false, cond_true, Option.bind_some, Bool.not_true]
      rw [unplugP n tree path hv hl hn, show F98 n tree = some tree by unfold F98; rw [decide_eq_true (by simp; omega)]; rfl]
      simp only [Option.bind_some]
      rw [unplugR n tree path hv hl hn]
      simp only [Option.bind_some]
      have hm := allV_mem hv
      rw [eqTrees n _ (by have := List.length_filter_le (fun p => !isU path p) tree; omega) (fun p hp => hm p (List.mem_filter.1 hp).1) hn, eqTrees n _ (by have := List.length_filter_le (isU path) tree; omega) (fun p hp => hm p (List.mem_filter.1 hp).1) hn]
      rfl
  · rw [show (r != 0) = true by simpa using h0]
    simp only [cond_true, Option.bind_some, nil, beq_self_eq_true]
theorem topoUnplugs_says (a0 : Sh.T (.sl (.st (.pair (.sl (.int .i64)) (.pair (.int .i64) (.pair (.int .i64) (.int .i64))))))) (g0 : Sh.good (.sl (.st (.pair (.sl (.int .i64)) (.pair (.int .i64) (.pair (.int .i64) (.int .i64)))))) a0) (a1 : Sh.T (.sl (.int .i64))) (g1 : Sh.good (.sl (.int .i64)) a1) :
    ∃ n, F9 n a0 a1 = some true := ⟨200, unplugsN 200 (by omega) a0 a1⟩
theorem checksN (n : Nat) (hn : 100 < n) (tree : List Nd) (path : List Int) (hl : tree.length + 1 < n) (hp : ∀ j, j < tree.length → (tree.getD j dN).1.length ≤ 17592186044416 ∧ (tree.getD j dN).1.length + 1 < n) (hl2 : tree.length ≤ 4611686018427387904) : F5 n tree path = some true := by
  obtain ⟨r, e1, e2, _⟩ := c1 n tree hn
  obtain ⟨i, f1, f2, f3⟩ := findE n tree path hl hl2 (fun j hj => ⟨by have := (hp j hj).1; omega, (hp j hj).2⟩)
  unfold F5 F22
  rw [e1, e2, f1, f2]
  rcases f3 with rfl | ⟨g1, g2, g3⟩
  · have : F26 n [] 0 0 0 [] 0 0 0 = some true := eqPaths n dN (by simp) (by simp; omega)
    simp only [Option.bind_some, F23_j5]
    simp only [show decide ((-1 : Int) < 0) = true from rfl, cond_true, Option.bind_some, this, beq_self_eq_true]
  · simp only [Option.bind_some, F23_j5]
    have hj := hp i.toNat (by omega)
    rw [decide_eq_false (show ¬ i < 0 by omega), inb_true g1 g2, copyN n (tree.getD i.toNat dN) hj.1]
    simp only [cond_false, cond_true, Option.bind_some]
    rw [eqPaths n (tree.getD i.toNat dN) (by omega) hj.2]
    simp only [cond_true, Option.bind_some, beq_self_eq_true]
abbrev ShN : Sh := .st (.pair (.sl (.int .i64)) (.pair (.int .i64) (.pair (.int .i64) (.int .i64))))
theorem ones_bulk : ∀ l : List Int, sumL (Sh.bulk (.int .i64)) l = l.length
  | [] => rfl
  | x :: l => by
    have e : sumL (Sh.bulk (.int .i64)) (x :: l) = 1 + sumL (Sh.bulk (.int .i64)) l := rfl
    rw [e, ones_bulk l, List.length_cons]; omega
theorem node_bulk (p : Nd) : Sh.bulk ShN p = p.1.length + 5 := by
  have e : Sh.bulk ShN p = ((sumL (Sh.bulk (.int .i64)) p.1 + 1) + (1 + (1 + 1))) + 1 := rfl
  rw [e, ones_bulk]
theorem tree_bulk : ∀ l : List Nd, l.length ≤ sumL (Sh.bulk ShN) l ∧ ∀ j, j < l.length → (l.getD j dN).1.length ≤ sumL (Sh.bulk ShN) l
  | [] => ⟨Nat.le_refl _, fun j h => by simp at h⟩
  | x :: l => by
    obtain ⟨h1, h2⟩ := tree_bulk l
    have e : sumL (Sh.bulk ShN) (x :: l) = Sh.bulk ShN x + sumL (Sh.bulk ShN) l := rfl
    rw [e, node_bulk]
    refine ⟨by simp only [List.length_cons]; omega, fun j hj => ?_⟩
    cases j with
    | zero => rw [List.getD_cons_zero]; omega
    | succ j => rw [List.getD_cons_succ]; have := h2 j (by simpa using hj); omega
theorem topoChecks_says (a0 : Sh.T (.sl (.st (.pair (.sl (.int .i64)) (.pair (.int .i64) (.pair (.int .i64) (.int .i64))))))) (g0 : Sh.good (.sl (.st (.pair (.sl (.int .i64)) (.pair (.int .i64) (.pair (.int .i64) (.int .i64)))))) a0) (u0 : Sh.bulk (.sl (.st (.pair (.sl (.int .i64)) (.pair (.int .i64) (.pair (.int .i64) (.int .i64)))))) a0 ≤ 1048576) (a1 : Sh.T (.sl (.int .i64))) (g1 : Sh.good (.sl (.int .i64)) a1) (u1 : Sh.bulk (.sl (.int .i64)) a1 ≤ 1048576) :
    ∃ n, F5 n a0 a1 = some true := by
  obtain ⟨h1, h2⟩ := tree_bulk a0
  have hb : sumL (Sh.bulk ShN) a0 + 1 ≤ 1048576 := u0
  exact ⟨2000000, checksN 2000000 (by omega) a0 a1 (by omega) (fun j hj => by have := h2 j hj; omega) (by omega)⟩
end Go.Proofs.Ytmcjcioifgaihaa
