/- A machine of values, part 20: drawn regions, reckoned. -/
import Derived.Test.YtghbnolfadnoaaaGreatAm19
import Derived.Lib.SliceRun
namespace Go.Proofs.YtghbnolfadnoaaaGreat
open Go Go.RowKit
set_option linter.unusedVariables false
def maskOf (acc : List Nat) (es : List Edge) : Nat := es.foldl (fun s e => if Region.binds .any e then s ||| (2 ^ e.on ||| acc.getD e.on 0) else s) 0
def befs (acc : List Nat) : List Oper → List Nat
  | [] => acc
  | o :: l => befs (acc ++ [maskOf acc o.after.toList]) l
theorem maskOf_bit (acc : List Nat) (es : List Edge) (j : Nat) (h : (maskOf acc es).testBit j = true) : ∃ e ∈ es, Region.binds .any e = true ∧ (j = e.on ∨ (acc.getD e.on 0).testBit j = true) := by
  have main : ∀ (es : List Edge) (s : Nat), (es.foldl (fun s e => if Region.binds .any e then s ||| (2 ^ e.on ||| acc.getD e.on 0) else s) s).testBit j = true → s.testBit j = true ∨ ∃ e ∈ es, Region.binds .any e = true ∧ (j = e.on ∨ (acc.getD e.on 0).testBit j = true) := by
    intro es
    induction es with
    | nil => intro s h; exact .inl h
    | cons e es ih =>
      intro s h
      rw [List.foldl_cons] at h
      rcases ih _ h with h1 | ⟨e', he', h1⟩
      · split at h1
        · rename_i hb
          rw [Nat.testBit_or, Nat.testBit_or, Bool.or_eq_true, Bool.or_eq_true] at h1
          rcases h1 with h1 | h1 | h1
          · exact .inl h1
          · refine .inr ⟨e, by simp, hb, .inl ?_⟩
            rw [Nat.testBit_two_pow] at h1
            exact (of_decide_eq_true h1).symm
          · exact .inr ⟨e, by simp, hb, .inr h1⟩
        · exact .inl h1
      · exact .inr ⟨e', by simp [he'], h1⟩
  rcases main es 0 h with h1 | h1
  · simp at h1
  · exact h1
theorem befs_prefix : ∀ (l : List Oper) (acc : List Nat), ∃ r, befs acc l = acc ++ r ∧ r.length = l.length
  | [], acc => ⟨[], by simp [befs], rfl⟩
  | o :: l, acc => by
    obtain ⟨r, h1, h2⟩ := befs_prefix l (acc ++ [maskOf acc o.after.toList])
    exact ⟨maskOf acc o.after.toList :: r, by simp [befs, h1], by simp [h2]⟩
theorem befs_get : ∀ (l : List Oper) (acc : List Nat) (i : Nat) (o : Oper), l[i]? = some o → ∀ j, ((befs acc l).getD (acc.length + i) 0).testBit j = true →
    ∃ e ∈ o.after.toList, Region.binds .any e = true ∧ (j = e.on ∨ ((befs acc l).getD e.on 0).testBit j = true)
  | [], acc, i, o, h, j, _ => by simp at h
  | o' :: l, acc, 0, o, h, j, hj => by
    simp at h; subst h
    obtain ⟨r, h1, h2⟩ := befs_prefix l (acc ++ [maskOf acc o'.after.toList])
    have e1 : befs acc (o' :: l) = acc ++ (maskOf acc o'.after.toList :: r) := by simp [befs, h1]
    rw [e1] at hj ⊢
    have e2 : (acc ++ (maskOf acc o'.after.toList :: r)).getD (acc.length + 0) 0 = maskOf acc o'.after.toList := by
      simp [List.getD_eq_getElem?_getD]
    rw [e2] at hj
    obtain ⟨e, he, hb, hor⟩ := maskOf_bit acc _ j hj
    refine ⟨e, he, hb, hor.imp id (fun h => ?_)⟩
    rcases Nat.lt_or_ge e.on acc.length with hlt | hge
    · rw [List.getD_eq_getElem?_getD, List.getElem?_append_left hlt]
      rwa [List.getD_eq_getElem?_getD] at h
    · rw [List.getD_eq_getElem?_getD, List.getElem?_eq_none hge] at h
      simp at h
  | o' :: l, acc, i + 1, o, h, j, hj => by
    have := befs_get l (acc ++ [maskOf acc o'.after.toList]) i o (by simpa using h) j
    simp only [befs] at hj ⊢
    refine this ?_
    rw [List.length_append, List.length_singleton, show acc.length + 1 + i = acc.length + (i + 1) by omega]
    exact hj
structure PR where
  dst : Option Tmp
  av : AV
  base : Nat
  new : List Blk
  eff : Option (Nat × Blk)
def minTs (b : Nat → Bool) : Nat → List PR → List AV → List AV
  | _, [], ts => ts
  | k, r :: rs, ts => minTs b (k + 1) rs (if b k then tput ts r.dst r.av else ts)
def minMem (b : Nat → Bool) : Nat → List PR → List Blk → List Blk
  | _, [], m => m
  | k, r :: rs, m => minMem b (k + 1) rs (if b k then memPut m r.base r.new else m)
theorem tput_get (ts : List AV) (d : Option Tmp) (v : AV) (t : Nat) : (d = some t ∧ t < ts.length ∧ (tput ts d v).getD t .unk = v) ∨ (tput ts d v).getD t .unk = ts.getD t .unk := by
  cases d with
  | none => exact .inr rfl
  | some d =>
    simp only [tput, List.getD_eq_getElem?_getD, List.getElem?_set]
    by_cases e : d = t
    · subst e
      by_cases hlt : d < ts.length
      · exact .inl ⟨rfl, hlt, by simp [hlt]⟩
      · exact .inr (by simp [hlt])
    · exact .inr (by rw [if_neg e])
theorem tput_length (ts : List AV) (d : Option Tmp) (v : AV) : (tput ts d v).length = ts.length := by cases d <;> simp [tput]
theorem minTs_length (b : Nat → Bool) : ∀ (rs : List PR) (k : Nat) (ts : List AV), (minTs b k rs ts).length = ts.length
  | [], k, ts => rfl
  | r :: rs, k, ts => by
    simp only [minTs, minTs_length b rs (k + 1)]
    split
    · rw [tput_length]
    · rfl
theorem minTs_get (b : Nat → Bool) : ∀ (rs : List PR) (k : Nat) (ts : List AV) (t : Nat), (∃ (j : Nat) (r : PR), rs[j]? = some r ∧ b (k + j) = true ∧ r.dst = some t ∧ (minTs b k rs ts).getD t .unk = r.av) ∨ (minTs b k rs ts).getD t .unk = ts.getD t .unk
  | [], k, ts, t => .inr rfl
  | r :: rs, k, ts, t => by
    simp only [minTs]
    rcases minTs_get b rs (k + 1) (if b k then tput ts r.dst r.av else ts) t with ⟨j, r', h1, h2, h3, h4⟩ | h
    · exact .inl ⟨j + 1, r', by simpa using h1, by rw [show k + (j + 1) = k + 1 + j by omega]; exact h2, h3, h4⟩
    · rw [h]
      split
      · rename_i hb
        rcases tput_get ts r.dst r.av t with ⟨h1, _, h2⟩ | h2
        · exact .inl ⟨0, r, rfl, hb, h1, h2⟩
        · exact .inr h2
      · exact .inr rfl
def inRg (r : PR) (x : Nat) : Prop := r.base ≤ x ∧ x < r.base + r.new.length
theorem minMem_get (b : Nat → Bool) : ∀ (rs : List PR) (k : Nat) (m : List Blk) (x : Nat), (∃ (j : Nat) (r : PR), rs[j]? = some r ∧ b (k + j) = true ∧ inRg r x ∧ lk (minMem b k rs m) x = lk r.new (x - r.base)) ∨ ((∀ (j : Nat) (r : PR), rs[j]? = some r → b (k + j) = true → ¬ inRg r x) ∧ lk (minMem b k rs m) x = lk m x)
  | [], k, m, x => .inr ⟨fun j r h => by simp at h, rfl⟩
  | r :: rs, k, m, x => by
    simp only [minMem]
    rcases minMem_get b rs (k + 1) (if b k then memPut m r.base r.new else m) x with ⟨j, r', h1, h2, h3, h4⟩ | ⟨h1, h2⟩
    · exact .inl ⟨j + 1, r', by simpa using h1, by rw [show k + (j + 1) = k + 1 + j by omega]; exact h2, h3, h4⟩
    · rw [h2]
      by_cases hb : b k = true
      · rw [if_pos hb, lk_memPut]
        by_cases hx : r.base ≤ x ∧ x < r.base + r.new.length
        · rw [if_pos hx]; exact .inl ⟨0, r, rfl, hb, hx, rfl⟩
        · rw [if_neg hx]
          refine .inr ⟨fun j r' hj hbj => ?_, rfl⟩
          cases j with
          | zero => simp at hj; subst hj; exact hx
          | succ j => exact h1 j r' (by simpa using hj) (by rw [show k + 1 + j = k + (j + 1) by omega]; exact hbj)
      · rw [if_neg hb]
        refine .inr ⟨fun j r' hj hbj => ?_, rfl⟩
        cases j with
        | zero => exact absurd hbj (by simpa using hb)
        | succ j => exact h1 j r' (by simpa using hj) (by rw [show k + 1 + j = k + (j + 1) by omega]; exact hbj)
def asc : Nat → List PR → Bool
  | _, [] => true
  | b, r :: rs => decide (b ≤ r.base) && asc (r.base + r.new.length) rs
theorem asc_ge : ∀ (rs : List PR) (b : Nat), asc b rs = true → ∀ (j : Nat) (r : PR), rs[j]? = some r → b ≤ r.base
  | [], b, _, j, r, h => by simp at h
  | r' :: rs, b, h, j, r, hj => by
    simp only [asc, Bool.and_eq_true, decide_eq_true_eq] at h
    cases j with
    | zero => simp at hj; subst hj; exact h.1
    | succ j => have := asc_ge rs _ h.2 j r (by simpa using hj); omega
theorem asc_apart : ∀ (rs : List PR) (b : Nat), asc b rs = true → ∀ (i j : Nat) (p q : PR) (x : Nat), rs[i]? = some p → rs[j]? = some q → inRg p x → inRg q x → i = j
  | [], b, _, i, j, p, q, x, h, _, _, _ => by simp at h
  | r :: rs, b, h, i, j, p, q, x, hi, hj, hp, hq => by
    simp only [asc, Bool.and_eq_true, decide_eq_true_eq] at h
    cases i with
    | zero =>
      cases j with
      | zero => rfl
      | succ j =>
        simp at hi; subst hi
        have := asc_ge rs _ h.2 j q (by simpa using hj)
        unfold inRg at hp hq; omega
    | succ i =>
      cases j with
      | zero =>
        simp at hj; subst hj
        have := asc_ge rs _ h.2 i p (by simpa using hi)
        unfold inRg at hp hq; omega
      | succ j => rw [asc_apart rs _ h.2 i j p q x (by simpa using hi) (by simpa using hj) hp hq]
def okDst (len : Nat) : List PR → Bool
  | [] => true
  | r :: rs => (match r.dst with | some d => decide (d < len) && rs.all (fun q => q.dst != some d) | none => true) && okDst len rs
theorem okDst_lt {len : Nat} : ∀ (rs : List PR), okDst len rs = true → ∀ (j : Nat) (r : PR) (d : Nat), rs[j]? = some r → r.dst = some d → d < len
  | [], _, j, r, d, h, _ => by simp at h
  | r' :: rs, h, j, r, d, hj, hd => by
    simp only [okDst, Bool.and_eq_true] at h
    cases j with
    | zero =>
      simp at hj; subst hj
      rw [hd] at h
      simp only [Bool.and_eq_true, decide_eq_true_eq] at h
      exact h.1.1
    | succ j => exact okDst_lt rs h.2 j r d (by simpa using hj) hd
theorem okDst_ne {len : Nat} : ∀ (rs : List PR), okDst len rs = true → ∀ (i j : Nat) (p q : PR) (d : Nat), rs[i]? = some p → rs[j]? = some q → p.dst = some d → q.dst = some d → i = j
  | [], _, i, j, p, q, d, h, _, _, _ => by simp at h
  | r :: rs, h, i, j, p, q, d, hi, hj, hp, hq => by
    simp only [okDst, Bool.and_eq_true] at h
    have one : ∀ (s : PR) (t : PR) (k : Nat), r.dst = some d → rs[k]? = some t → t.dst = some d → False := by
      intro s t k h1 h2 h3
      rw [h1] at h
      simp only [Bool.and_eq_true, List.all_eq_true] at h
      have := h.1.2 t (List.mem_of_getElem? h2)
      rw [h3] at this
      simp at this
    cases i with
    | zero =>
      cases j with
      | zero => rfl
      | succ j => simp at hi; subst hi; exact (one r q j hp (by simpa using hj) hq).elim
    | succ i =>
      cases j with
      | zero => simp at hj; subst hj; exact (one r p i hq (by simpa using hi) hp).elim
      | succ j => rw [okDst_ne rs h.2 i j p q d (by simpa using hi) (by simpa using hj) hp hq]
def okRef1 (mask : Nat) (j : Nat) (x : Nat) : Nat → List PR → Bool
  | _, [] => true
  | k, p :: l => (decide (k = j) || (mask.testBit k || !(decide (p.base ≤ x) && decide (x < p.base + p.new.length)))) && okRef1 mask j x (k + 1) l
theorem okRef1_ok {mask j x : Nat} : ∀ (l : List PR) (k : Nat), okRef1 mask j x k l = true → ∀ (i : Nat) (p : PR), l[i]? = some p → k + i = j ∨ mask.testBit (k + i) = true ∨ ¬ inRg p x
  | [], k, _, i, p, h => by simp at h
  | q :: l, k, h, i, p, hi => by
    simp only [okRef1, Bool.and_eq_true, Bool.or_eq_true, decide_eq_true_eq, Bool.not_eq_true'] at h
    cases i with
    | zero =>
      simp at hi; subst hi
      rcases h.1 with h1 | h1 | h1
      · exact .inl h1
      · exact .inr (.inl h1)
      · refine .inr (.inr fun hr => ?_)
        unfold inRg at hr
        simp [hr.1, hr.2] at h1
    | succ i =>
      have := okRef1_ok l (k + 1) h.2 i p (by simpa using hi)
      rwa [show k + 1 + i = k + (i + 1) by omega] at this
def effRefs : Option (Nat × Blk) → List Nat
  | some (_, b) => b.refs
  | none => []
def prRefs (r : PR) : List Nat := r.av.refs ++ (r.new.flatMap Blk.refs ++ effRefs r.eff)
def okRefs (masks : List Nat) (rs : List PR) : Nat → List PR → Bool
  | _, [] => true
  | j, r :: l => (prRefs r).all (fun x => okRef1 (masks.getD j 0) j x 0 rs) && okRefs masks rs (j + 1) l
theorem okRefs_ok {masks : List Nat} {rs : List PR} : ∀ (l : List PR) (j : Nat), okRefs masks rs j l = true → ∀ (i : Nat) (r : PR), l[i]? = some r → ∀ x ∈ prRefs r, ∀ (k : Nat) (p : PR), rs[k]? = some p → k = j + i ∨ (masks.getD (j + i) 0).testBit k = true ∨ ¬ inRg p x
  | [], j, _, i, r, h => by simp at h
  | q :: l, j, h, i, r, hi => by
    simp only [okRefs, Bool.and_eq_true, List.all_eq_true] at h
    cases i with
    | zero =>
      simp at hi; subst hi
      intro x hx k p hk
      have := okRef1_ok rs 0 (h.1 x hx) k p hk
      simpa using this
    | succ i =>
      have := okRefs_ok l (j + 1) h.2 i r (by simpa using hi)
      rwa [show j + 1 + i = j + (i + 1) by omega] at this
def tsUnk (ops : List Oper) (ts : List AV) : List AV := ops.foldl (fun ts o => tput ts o.dst .unk) ts
theorem tsUnk_length : ∀ (ops : List Oper) (ts : List AV), (tsUnk ops ts).length = ts.length
  | [], ts => rfl
  | o :: l, ts => by simp only [tsUnk, List.foldl_cons]; rw [show List.foldl _ (tput ts o.dst .unk) l = tsUnk l (tput ts o.dst .unk) from rfl, tsUnk_length l, tput_length]
theorem tsUnk_get : ∀ (ops : List Oper) (ts : List AV) (t : Nat), (tsUnk ops ts).getD t .unk = .unk ∨ ((∀ o ∈ ops, o.dst ≠ some t) ∧ (tsUnk ops ts).getD t .unk = ts.getD t .unk)
  | [], ts, t => .inr ⟨fun _ h => by simp at h, rfl⟩
  | o :: l, ts, t => by
    have h := tsUnk_get l (tput ts o.dst .unk) t
    simp only [tsUnk, List.foldl_cons] at h ⊢
    rcases h with h | ⟨h1, h2⟩
    · exact .inl h
    · rcases tput_get ts o.dst .unk t with ⟨_, _, h3⟩ | h3
      · exact .inl (by rw [h2, h3])
      · by_cases hd : o.dst = some t
        · left
          rw [h2]
          rw [hd]
          simp only [tput, List.getD_eq_getElem?_getD, List.getElem?_set]
          split <;> (try split) <;> simp_all
        · refine .inr ⟨fun q hq => ?_, by rw [h2, h3]⟩
          rcases List.mem_cons.1 hq with rfl | hq
          · exact hd
          · exact h1 q hq
def killMem (masks : List Nat) (i : Nat) : List (Nat × Nat) → List Blk → List Blk
  | [], m => m
  | (j, b) :: l, m => killMem masks i l (if j = i then m else if (masks.getD j 0).testBit i || (masks.getD i 0).testBit j then m else m.set b .dead)
theorem killMem_dead (masks : List Nat) (i : Nat) : ∀ (kill : List (Nat × Nat)) (mem : List Blk) (x : Nat), lk mem x = .dead → lk (killMem masks i kill mem) x = .dead
  | [], mem, x, h => h
  | (j, b) :: kill, mem, x, h => by
    simp only [killMem]
    refine killMem_dead masks i kill _ x ?_
    split
    · exact h
    · split
      · exact h
      · rw [lk_set]; split
        · rfl
        · exact h
theorem killMem_get (masks : List Nat) (i : Nat) : ∀ (kill : List (Nat × Nat)) (mem : List Blk) (x : Nat), lk (killMem masks i kill mem) x = .dead ∨ ((∀ j, (j, x) ∈ kill → j = i ∨ ((masks.getD j 0).testBit i || (masks.getD i 0).testBit j) = true) ∧ lk (killMem masks i kill mem) x = lk mem x)
  | [], mem, x => .inr ⟨fun j h => by simp at h, rfl⟩
  | (j, b) :: kill, mem, x => by
    simp only [killMem]
    have next : ∀ m2 : List Blk, lk m2 x = lk mem x → (b = x → j = i ∨ ((masks.getD j 0).testBit i || (masks.getD i 0).testBit j) = true) → lk (killMem masks i kill m2) x = .dead ∨ ((∀ j', (j', x) ∈ (j, b) :: kill → j' = i ∨ ((masks.getD j' 0).testBit i || (masks.getD i 0).testBit j') = true) ∧ lk (killMem masks i kill m2) x = lk mem x) := by
      intro m2 h1 h2
      rcases killMem_get masks i kill m2 x with h | ⟨h3, h4⟩
      · exact .inl h
      · refine .inr ⟨fun j' hj => ?_, by rw [h4, h1]⟩
        rcases List.mem_cons.1 hj with e | hj
        · simp only [Prod.mk.injEq] at e
          obtain ⟨rfl, rfl⟩ := e
          exact h2 rfl
        · exact h3 j' hj
    split
    · rename_i e; exact next mem rfl (fun _ => .inl e)
    · split
      · rename_i e; exact next mem rfl (fun _ => .inr e)
      · by_cases hx : x = b
        · subst hx
          left
          refine killMem_dead masks i kill _ x ?_
          rw [lk_set]; split
          · rfl
          · rename_i h
            exact lk_big (by simp at h; omega)
        · exact next _ (by rw [lk_set, if_neg (by simp [hx])]) (fun e => absurd e.symm hx)
def effMem (b : Nat → Bool) : Nat → List PR → List Blk → List Blk
  | _, [], m => m
  | k, r :: rs, m => effMem b (k + 1) rs (if b k then (match r.eff with | some (x, y) => memPut m x [y] | none => m) else m)
theorem effMem_get (b : Nat → Bool) : ∀ (rs : List PR) (k : Nat) (m : List Blk) (x : Nat), (∃ (j : Nat) (r : PR) (y : Blk), rs[j]? = some r ∧ b (k + j) = true ∧ r.eff = some (x, y) ∧ lk (effMem b k rs m) x = y ∧ ∀ (j' : Nat) (r' : PR) (y' : Blk), rs[j']? = some r' → b (k + j') = true → r'.eff = some (x, y') → j' ≤ j) ∨
    ((∀ (j : Nat) (r : PR) (y : Blk), rs[j]? = some r → b (k + j) = true → r.eff ≠ some (x, y)) ∧ lk (effMem b k rs m) x = lk m x)
  | [], k, m, x => .inr ⟨fun j r y h => by simp at h, rfl⟩
  | r :: rs, k, m, x => by
    simp only [effMem]
    rcases effMem_get b rs (k + 1) (if b k then (match r.eff with | some (x, y) => memPut m x [y] | none => m) else m) x with ⟨j, r', y, h1, h2, h3, h5, h6⟩ | ⟨h1, h2⟩
    · refine .inl ⟨j + 1, r', y, by simpa using h1, by rw [show k + (j + 1) = k + 1 + j by omega]; exact h2, h3, h5, fun j' r2 y' hj hbj he => ?_⟩
      cases j' with
      | zero => omega
      | succ j' =>
        have := h6 j' r2 y' (by simpa using hj) (by rw [show k + 1 + j' = k + (j' + 1) by omega]; exact hbj) he
        omega
    · rw [h2]
      have rest : ∀ (j : Nat) (r' : PR) (y : Blk), (r :: rs)[j + 1]? = some r' → b (k + (j + 1)) = true → r'.eff ≠ some (x, y) := fun j r' y hj hbj => h1 j r' y (by simpa using hj) (by rw [show k + 1 + j = k + (j + 1) by omega]; exact hbj)
      by_cases hb : b k = true
      · rw [if_pos hb]
        cases he : r.eff with
        | none =>
          refine .inr ⟨fun j r' y hj hbj he' => ?_, rfl⟩
          cases j with
          | zero => simp at hj; subst hj; rw [he] at he'; cases he'
          | succ j => exact rest j r' y hj hbj he'
        | some q =>
          obtain ⟨z, y⟩ := q
          simp only
          rw [lk_memPut]
          by_cases hx : x = z
          · subst hx
            refine .inl ⟨0, r, y, rfl, hb, he, by simp [lk], fun j' r2 y' hj hbj he' => ?_⟩
            cases j' with
            | zero => exact Nat.le_refl _
            | succ j' => exact absurd he' (rest j' r2 y' hj hbj)
          · rw [if_neg (by simp only [List.length_cons, List.length_nil]; omega)]
            refine .inr ⟨fun j r' y' hj hbj he' => ?_, rfl⟩
            cases j with
            | zero =>
              simp at hj; subst hj; rw [he] at he'
              simp only [Option.some.injEq, Prod.mk.injEq] at he'
              exact hx he'.1.symm
            | succ j => exact rest j r' y' hj hbj he'
      · rw [if_neg hb]
        refine .inr ⟨fun j r' y hj hbj he' => ?_, rfl⟩
        cases j with
        | zero => exact absurd hbj (by simpa using hb)
        | succ j => exact rest j r' y hj hbj he'
def ordAll (masks : List Nat) (k x : Nat) : Nat → List PR → Bool
  | _, [] => true
  | k2, q :: l => (match q.eff with | some (y, _) => y != x || (masks.getD k2 0).testBit k | none => true) && ordAll masks k x (k2 + 1) l
theorem ordAll_ok {masks : List Nat} {k x : Nat} : ∀ (l : List PR) (k2 : Nat), ordAll masks k x k2 l = true → ∀ (j : Nat) (q : PR) (z : Blk), l[j]? = some q → q.eff = some (x, z) → (masks.getD (k2 + j) 0).testBit k = true
  | [], k2, _, j, q, z, h, _ => by simp at h
  | p :: l, k2, h, j, q, z, hj, he => by
    simp only [ordAll, Bool.and_eq_true] at h
    cases j with
    | zero =>
      simp at hj; subst hj
      have h1 := h.1
      rw [he] at h1
      simpa using h1
    | succ j =>
      have := ordAll_ok l (k2 + 1) h.2 j q z (by simpa using hj) he
      rwa [show k2 + 1 + j = k2 + (j + 1) by omega] at this
def okNew (mask x : Nat) : Nat → List PR → Bool
  | _, [] => false
  | k, r :: rs => (mask.testBit k && (decide (r.base ≤ x) && decide (x < r.base + r.new.length))) || okNew mask x (k + 1) rs
theorem okNew_ok {mask x : Nat} : ∀ (rs : List PR) (k : Nat), okNew mask x k rs = true → ∃ (j : Nat) (r : PR), rs[j]? = some r ∧ inRg r x ∧ mask.testBit (k + j) = true
  | [], k, h => by simp [okNew] at h
  | r :: rs, k, h => by
    simp only [okNew, Bool.or_eq_true, Bool.and_eq_true, decide_eq_true_eq] at h
    rcases h with h | h
    · exact ⟨0, r, rfl, h.2, h.1⟩
    · obtain ⟨j, q, h1, h2, h3⟩ := okNew_ok rs (k + 1) h
      exact ⟨j + 1, q, by simpa using h1, h2, by rw [show k + (j + 1) = k + 1 + j by omega]; exact h3⟩
def okEff (n : Nat) (kill : List (Nat × Nat)) (masks : List Nat) (all : List PR) : Nat → List PR → Bool
  | _, [] => true
  | k, r :: rs => (match r.eff with | some (x, _) => (decide (x < n) || okNew (masks.getD k 0) x 0 all) && (kill.contains (k, x) && ordAll masks k x (k + 1) rs) | none => true) && okEff n kill masks all (k + 1) rs
theorem okEff_in {n : Nat} {kill : List (Nat × Nat)} {masks : List Nat} {all : List PR} : ∀ (rs : List PR) (k : Nat), okEff n kill masks all k rs = true → ∀ (j : Nat) (r : PR) (x : Nat) (y : Blk), rs[j]? = some r → r.eff = some (x, y) → (x < n ∨ ∃ (j' : Nat) (r' : PR), all[j']? = some r' ∧ inRg r' x ∧ (masks.getD (k + j) 0).testBit j' = true) ∧ (k + j, x) ∈ kill
  | [], k, _, j, r, x, y, h, _ => by simp at h
  | r' :: rs, k, h, j, r, x, y, hj, he => by
    simp only [okEff, Bool.and_eq_true] at h
    cases j with
    | zero =>
      simp at hj; subst hj
      rw [he] at h
      simp only [Bool.and_eq_true, Bool.or_eq_true, decide_eq_true_eq, List.contains_iff_mem] at h
      refine ⟨h.1.1.imp id fun hh => ?_, h.1.2.1⟩
      obtain ⟨j', r', h1, h2, h3⟩ := okNew_ok all 0 hh
      exact ⟨j', r', h1, h2, by rw [Nat.zero_add] at h3; exact h3⟩
    | succ j => rw [show k + (j + 1) = k + 1 + j by omega]; exact okEff_in rs (k + 1) h.2 j r x y (by simpa using hj) he
theorem okEff_ord {n : Nat} {kill : List (Nat × Nat)} {masks : List Nat} {all : List PR} : ∀ (rs : List PR) (k0 : Nat), okEff n kill masks all k0 rs = true → ∀ (i j : Nat) (p q : PR) (x : Nat) (y z : Blk), i < j → rs[i]? = some p → rs[j]? = some q → p.eff = some (x, y) → q.eff = some (x, z) → (masks.getD (k0 + j) 0).testBit (k0 + i) = true
  | [], k0, _, i, j, p, q, x, y, z, _, h, _, _, _ => by simp at h
  | r :: rs, k0, h, i, j, p, q, x, y, z, hij, hi, hj, hp, hq => by
    simp only [okEff, Bool.and_eq_true] at h
    cases j with
    | zero => omega
    | succ j =>
      cases i with
      | zero =>
        simp at hi; subst hi
        rw [hp] at h
        simp only [Bool.and_eq_true] at h
        have := ordAll_ok rs (k0 + 1) h.1.2.2 j q z (by simpa using hj) hq
        rwa [show k0 + 1 + j = k0 + (j + 1) by omega] at this
      | succ i =>
        have := okEff_ord rs (k0 + 1) h.2 i j p q x y z (by omega) (by simpa using hi) (by simpa using hj) hp hq
        rwa [show k0 + 1 + j = k0 + (j + 1) by omega, show k0 + 1 + i = k0 + (i + 1) by omega] at this
def tsUnkI (masks : List Nat) (i : Nat) : Nat → List Oper → List AV → List AV
  | _, [], ts => ts
  | j, o :: l, ts => tsUnkI masks i (j + 1) l (if j = i then ts else if (masks.getD j 0).testBit i then ts else tput ts o.dst .unk)
theorem tsUnkI_length (masks : List Nat) (i : Nat) : ∀ (ops : List Oper) (j : Nat) (ts : List AV), (tsUnkI masks i j ops ts).length = ts.length
  | [], j, ts => rfl
  | o :: l, j, ts => by
    simp only [tsUnkI]
    rw [tsUnkI_length masks i l]
    split
    · rfl
    · split
      · rfl
      · rw [tput_length]
theorem tsUnkI_unk (masks : List Nat) (i : Nat) : ∀ (ops : List Oper) (j : Nat) (ts : List AV) (t : Nat), ts.getD t .unk = .unk → (tsUnkI masks i j ops ts).getD t .unk = .unk
  | [], j, ts, t, h => h
  | o :: l, j, ts, t, h => by
    simp only [tsUnkI]
    refine tsUnkI_unk masks i l _ _ t ?_
    split
    · exact h
    · split
      · exact h
      · rcases tput_get ts o.dst .unk t with ⟨_, _, h3⟩ | h3
        · exact h3
        · rw [h3]; exact h
theorem tsUnkI_get (masks : List Nat) (i : Nat) : ∀ (ops : List Oper) (j : Nat) (ts : List AV) (t : Nat), (tsUnkI masks i j ops ts).getD t .unk = .unk ∨ ((∀ (q : Nat) (o : Oper), ops[q]? = some o → o.dst = some t → j + q = i ∨ (masks.getD (j + q) 0).testBit i = true) ∧ (tsUnkI masks i j ops ts).getD t .unk = ts.getD t .unk)
  | [], j, ts, t => .inr ⟨fun q o h => by simp at h, rfl⟩
  | o :: l, j, ts, t => by
    simp only [tsUnkI]
    have next : ∀ (ts2 : List AV), ts2.getD t .unk = ts.getD t .unk → (o.dst = some t → j = i ∨ (masks.getD j 0).testBit i = true) → (tsUnkI masks i (j + 1) l ts2).getD t .unk = .unk ∨
        ((∀ (q : Nat) (o' : Oper), (o :: l)[q]? = some o' → o'.dst = some t → j + q = i ∨ (masks.getD (j + q) 0).testBit i = true) ∧ (tsUnkI masks i (j + 1) l ts2).getD t .unk = ts.getD t .unk) := by
      intro ts2 h1 h2
      rcases tsUnkI_get masks i l (j + 1) ts2 t with h | ⟨h3, h4⟩
      · exact .inl h
      · refine .inr ⟨fun q o' hq hd => ?_, by rw [h4, h1]⟩
        cases q with
        | zero => simp at hq; subst hq; rw [Nat.add_zero]; exact h2 hd
        | succ q => have := h3 q o' (by simpa using hq) hd; rwa [show j + 1 + q = j + (q + 1) by omega] at this
    split
    · rename_i e; exact next ts rfl (fun _ => .inl e)
    · split
      · rename_i e; exact next ts rfl (fun _ => .inr e)
      · by_cases hd : o.dst = some t
        · left
          refine tsUnkI_unk masks i l _ _ t ?_
          rw [hd]
          simp only [tput, List.getD_eq_getElem?_getD, List.getElem?_set, if_true]
          by_cases hlt : t < ts.length
          · rw [if_pos hlt]; rfl
          · rw [if_neg hlt]; rfl
        · refine next _ ?_ (fun h => absurd h hd)
          rcases tput_get ts o.dst .unk t with ⟨h1, _, _⟩ | h1
          · exact absurd h1 hd
          · exact h1
def vTs (masks : List Nat) (pre : List Oper) (ts : List AV) (rs : List PR) (k : Nat) : List AV := minTs (fun j => (masks.getD k 0).testBit j) 0 rs (tsUnkI masks k 0 pre ts)
def vMem (masks : List Nat) (kill : List (Nat × Nat)) (mem : List Blk) (rs : List PR) (k : Nat) : List Blk := killMem masks k kill (effMem (fun j => (masks.getD k 0).testBit j) 0 rs (minMem (fun j => (masks.getD k 0).testBit j) 0 rs mem))
def evPreGo (P : Program) (all : List Oper) (masks : List Nat) (kill : List (Nat × Nat)) (pre : List Oper) (ts : List AV) (mem : List Blk) : Nat → List Oper → List Hint → List PR → Nat → Option (List PR × Prop)
  | _, [], _, rs, _ => some (rs, True)
  | k, o :: l, hs, rs, base =>
    match evGuard all (vTs masks pre ts rs k) o with
    | some true =>
      match fxB P (vTs masks pre ts rs k) (vMem masks kill mem rs k) o (hs.headD .none) with
      | some (b, blk, av, C) =>
        match evPreGo P all masks kill pre ts mem (k + 1) l hs.tail (rs ++ [⟨o.dst, av, base, [], some (b, blk)⟩]) base with
        | some (r, D) => some (r, C ∧ D)
        | none => none
      | none =>
      match evGrow P (vTs masks pre ts rs k) (vMem masks kill mem rs k) o (hs.headD .none) with
      | some (old, row, C) =>
        match evPreGo P all masks kill pre ts mem (k + 1) l hs.tail (rs ++ [⟨o.dst, .row base, base, [row], old.map fun r => (r, .dead)⟩]) (base + 1) with
        | some (r, D) => some (r, C ∧ D)
        | none => none
      | none =>
        match evDec P (vTs masks pre ts rs k) (vMem masks kill mem rs k) base o (hs.headD .none) with
        | some (av, new, C) =>
          if (vTs masks pre ts rs k).all (refsLt base) = true ∧ (vMem masks kill mem rs k).all (blkLt base) = true then
            match evPreGo P all masks kill pre ts mem (k + 1) l hs.tail (rs ++ [⟨o.dst, av, base, new, none⟩]) (base + new.length) with
            | some (r, D) => some (r, C ∧ D)
            | none => none
          else none
        | none => none
    | some false => evPreGo P all masks kill pre ts mem (k + 1) l hs.tail (rs ++ [⟨o.dst, .tup .nil, base, [], none⟩]) base
    | none => none
def Good (P : Program) (all : List Oper) (masks : List Nat) (kill : List (Nat × Nat)) (pre : List Oper) (ts : List AV) (mem : List Blk) (k : Nat) (o : Oper) (r : PR) (rs : List PR) : Prop :=
  r.dst = o.dst ∧
  ((evGuard all (vTs masks pre ts rs k) o = some true ∧ (∃ h C, evDec P (vTs masks pre ts rs k) (vMem masks kill mem rs k) r.base o h = some (r.av, r.new, C) ∧ C) ∧ r.eff = none ∧
    (vTs masks pre ts rs k).all (refsLt r.base) = true ∧ (vMem masks kill mem rs k).all (blkLt r.base) = true) ∨
   (evGuard all (vTs masks pre ts rs k) o = some false ∧ r.av = .tup .nil ∧ r.new = [] ∧ r.eff = none) ∨
   (evGuard all (vTs masks pre ts rs k) o = some true ∧ r.new = [] ∧ ∃ h b blk C, fxB P (vTs masks pre ts rs k) (vMem masks kill mem rs k) o h = some (b, blk, r.av, C) ∧ C ∧ r.eff = some (b, blk)) ∨
   (evGuard all (vTs masks pre ts rs k) o = some true ∧ r.av = .row r.base ∧ ∃ h old row C, evGrow P (vTs masks pre ts rs k) (vMem masks kill mem rs k) o h = some (old, row, C) ∧ C ∧ r.new = [row] ∧ r.eff = old.map fun r => (r, .dead)))
theorem evPreGo_ok {P : Program} {all : List Oper} {masks : List Nat} {kill : List (Nat × Nat)} {pre : List Oper} {ts : List AV} {mem : List Blk} : ∀ (l : List Oper) (k : Nat) (hs : List Hint) (rs0 : List PR) (base : Nat) (rs : List PR) (C : Prop), evPreGo P all masks kill pre ts mem k l hs rs0 base = some (rs, C) → C → rs0.length = k →
    rs.length = k + l.length ∧ rs.take k = rs0 ∧ ∀ (j : Nat) (o : Oper), l[j]? = some o → ∃ r, rs[k + j]? = some r ∧ Good P all masks kill pre ts mem (k + j) o r (rs.take (k + j))
  | [], k, hs, rs0, base, rs, C, h, _, hl => by
    simp only [evPreGo, Option.some.injEq, Prod.mk.injEq] at h
    obtain ⟨rfl, _⟩ := h
    exact ⟨by simp [hl], by rw [← hl, List.take_length], fun j o hj => by simp at hj⟩
  | o :: l, k, hs, rs0, base, rs, C, h, hC, hl => by
    have next : ∀ (r : PR) (base' : Nat) (D : Prop), evPreGo P all masks kill pre ts mem (k + 1) l hs.tail (rs0 ++ [r]) base' = some (rs, D) → D → Good P all masks kill pre ts mem k o r rs0 →
        rs.length = k + (o :: l).length ∧ rs.take k = rs0 ∧ ∀ (j : Nat) (o' : Oper), (o :: l)[j]? = some o' → ∃ r, rs[k + j]? = some r ∧ Good P all masks kill pre ts mem (k + j) o' r (rs.take (k + j)) := by
      intro r base' D hd hD hg
      obtain ⟨h1, h2, h3⟩ := evPreGo_ok l (k + 1) hs.tail (rs0 ++ [r]) base' rs D hd hD (by simp [hl])
      have htk : rs.take k = rs0 := by
        have := congrArg (List.take k) h2
        rw [List.take_take, Nat.min_eq_left (by omega), List.take_append_of_le_length (by omega), ← hl, List.take_length] at this
        rw [hl] at this
        exact this
      have hk : rs[k]? = some r := by
        have : (rs.take (k + 1))[k]? = some r := by rw [h2, List.getElem?_append_right (by omega), hl, Nat.sub_self]; rfl
        rwa [List.getElem?_take, if_pos (by omega)] at this
      refine ⟨by rw [h1, List.length_cons]; omega, htk, fun j o' hj => ?_⟩
      cases j with
      | zero =>
        simp at hj; subst hj
        exact ⟨r, by simpa using hk, by rw [Nat.add_zero, htk]; exact hg⟩
      | succ j =>
        have := h3 j o' (by simpa using hj)
        rwa [show k + 1 + j = k + (j + 1) by omega] at this
    unfold evPreGo at h
    split at h
    · rename_i hg
      split at h
      · rename_i b blk av D hst
        split at h
        · rename_i r E he
          simp only [Option.some.injEq, Prod.mk.injEq] at h
          obtain ⟨rfl, rfl⟩ := h
          exact next ⟨o.dst, av, base, [], some (b, blk)⟩ _ E he hC.2 ⟨rfl, .inr (.inr (.inl ⟨hg, rfl, _, b, blk, D, hst, hC.1, rfl⟩))⟩
        · cases h
      split at h
      · rename_i old row D hap
        split at h
        · rename_i r E he
          simp only [Option.some.injEq, Prod.mk.injEq] at h
          obtain ⟨rfl, rfl⟩ := h
          exact next ⟨o.dst, .row base, base, [row], old.map fun r => (r, .dead)⟩ _ E he hC.2 ⟨rfl, .inr (.inr (.inr ⟨hg, rfl, _, old, row, D, hap, hC.1, rfl, rfl⟩))⟩
        · cases h
      · split at h
        · rename_i av new D hd
          split at h
          · rename_i hc
            split at h
            · rename_i r E he
              simp only [Option.some.injEq, Prod.mk.injEq] at h
              obtain ⟨rfl, rfl⟩ := h
              exact next ⟨o.dst, av, base, new, none⟩ _ E he hC.2 ⟨rfl, .inl ⟨hg, ⟨_, D, hd, hC.1⟩, rfl, hc.1, hc.2⟩⟩
            · cases h
          · cases h
        · cases h
    · rename_i hg
      exact next ⟨o.dst, .tup .nil, base, [], none⟩ _ C h hC ⟨rfl, .inr (.inl ⟨hg, rfl, rfl, rfl⟩)⟩
    · cases h
def tailOk (masks : List Nat) (m n : Nat) : Bool := (List.range n).all fun i => decide (i < m) || (List.range i).all fun j => (masks.getD i 0).testBit j
theorem tailOk_ok {masks : List Nat} {m n : Nat} (h : tailOk masks m n = true) : ∀ i, m ≤ i → i < n → ∀ j, j < i → (masks.getD i 0).testBit j = true := by
  intro i h1 h2 j h3
  unfold tailOk at h
  rw [List.all_eq_true] at h
  have := h i (List.mem_range.2 h2)
  rw [Bool.or_eq_true, decide_eq_true_eq] at this
  rcases this with h4 | h4
  · omega
  · rw [List.all_eq_true] at h4
    exact h4 j (List.mem_range.2 h3)
def backB : Nat → List Oper → Bool
  | _, [] => true
  | k, o :: l => o.after.toList.all (fun e => !Region.binds .any e || decide (e.on < k)) && backB (k + 1) l
theorem backB_ok : ∀ (l : List Oper) (k : Nat), backB k l = true → ∀ (i : Nat) (o : Oper), l[i]? = some o → ∀ e ∈ o.after, Region.binds .any e = true → e.on < k + i
  | [], k, _, i, o, h => by simp at h
  | q :: l, k, h, i, o, hi => by
    simp only [backB, Bool.and_eq_true, List.all_eq_true, Bool.or_eq_true, Bool.not_eq_true', decide_eq_true_eq] at h
    cases i with
    | zero =>
      simp at hi; subst hi
      intro e he hb
      rcases h.1 e (by simpa using he) with h1 | h1
      · rw [hb] at h1; cases h1
      · exact h1
    | succ i =>
      intro e he hb
      have := backB_ok l (k + 1) h.2 i o (by simpa using hi) e he hb
      omega
theorem befs_lt {ops : List Oper} (hb : backB 0 ops = true) : ∀ (i : Nat) (j : Nat), i < ops.length → ((befs [] ops).getD i 0).testBit j = true → j < i := by
  intro i
  induction i using Nat.strongRecOn with
  | _ i ih =>
    intro j hi hj
    obtain ⟨e, h1, h2, h3⟩ := befs_get ops [] i _ (List.getElem?_eq_getElem hi) j (by simpa using hj)
    have he := backB_ok ops 0 hb i _ (List.getElem?_eq_getElem hi) e (by simpa using h1) h2
    rw [Nat.zero_add] at he
    rcases h3 with h3 | h3
    · omega
    · have := ih e.on he j (by omega) h3
      omega
def memAt (D : Nat → Bool) (rs : List PR) (mem : List Blk) : List Blk := effMem D 0 rs (minMem D 0 rs mem)
def evHead (P : Program) (m : Nat) (kill : List (Nat × Nat)) (ops : List Oper) (hs : List Hint) (ts : List AV) (mem : List Blk) : Option (List AV × List Blk × Prop) :=
  match evPreGo P ops (befs [] ops) kill (ops.take m) ts mem 0 (ops.take m) hs [] mem.length with
  | some (rs, C) =>
    if (decide (m ≤ ops.length) && (okDst ts.length rs && (asc mem.length rs && (okEff mem.length kill (befs [] ops) rs 0 rs && (okRefs (befs [] ops) rs 0 rs && (tailOk (befs [] ops) m ops.length && (backB 0 ops &&
        ((minTs (fun _ => true) 0 rs (tsUnk (ops.take m) ts)).all (refsLt (memAt (fun _ => true) rs mem).length) && (memAt (fun _ => true) rs mem).all (blkLt (memAt (fun _ => true) rs mem).length))))))))) = true then
      some (minTs (fun _ => true) 0 rs (tsUnk (ops.take m) ts), memAt (fun _ => true) rs mem, C)
    else none
  | none => none
def evDraw (P : Program) (m : Nat) (kill : List (Nat × Nat)) (ops : List Oper) (hs : List Hint) (ts : List AV) (mem : List Blk) : Option (List AV × List Blk × Prop) :=
  match evHead P m kill ops hs ts mem with
  | some (t0, m0, C) =>
    match evOps P ops (ops.drop m) (hs.drop m) t0 m0 with
    | some (t, m', D) => some (t, m', C ∧ D)
    | none => none
  | none => none
theorem MemR.congr {B : Nat} {w : World} {G : Gh} {mem mem' : List Blk} (h : MemR B w G mem) (he : ∀ i, lk mem' i = lk mem i ∨ lk mem' i = .dead) : MemR B w G mem' := by
  refine ⟨fun i => ?_, fun i j x hij hi hj => ?_, fun i x hi => ?_, h.fz, h.base⟩
  · rcases he i with e | e
    · rw [e]; exact h.blk i
    · rw [e]; trivial
  · rcases he i with e | e
    · rcases he j with e' | e'
      · rw [e] at hi; rw [e'] at hj; exact h.apart i j x hij hi hj
      · rw [e'] at hj; cases hj
    · rw [e] at hi; cases hi
  · rcases he i with e | e
    · rw [e] at hi; exact h.own i x hi
    · rw [e] at hi; cases hi
theorem put_get_ne {a : Act} {d : Option Tmp} {v : Value} {t : Nat} (h : d ≠ some t) : (a.put d v).tmps.getD t undef = a.tmps.getD t undef := by
  cases d with
  | none => rfl
  | some d =>
    have hne : d ≠ t := fun e => h (by rw [e])
    simp only [Act.put, Array.getD_eq_getD_getElem?, Array.getElem?_setIfInBounds, if_neg hne]
theorem put_get_eq {a : Act} {v : Value} {t : Nat} (h : t < a.tmps.size) : (a.put (some t) v).tmps.getD t undef = v := by
  simp only [Act.put, Array.getD_eq_getD_getElem?, Array.getElem?_setIfInBounds, h, if_true]
  rfl
theorem put_size (a : Act) (d : Option Tmp) (v : Value) : (a.put d v).tmps.size = a.tmps.size := by cases d <;> simp [Act.put]
theorem getD_mem {α : Type} {l : List α} {t : Nat} {d : α} (h : t < l.length) : l.getD t d ∈ l := by
  rw [List.getD_eq_getElem?_getD, List.getElem?_eq_getElem h]; exact List.getElem_mem h
theorem getD_none {α : Type} {l : List α} {t : Nat} {d : α} (h : l.length ≤ t) : l.getD t d = d := by
  rw [List.getD_eq_getElem?_getD, List.getElem?_eq_none h]; rfl
theorem at_get (D : Nat → Bool) (rs : List PR) (mem : List Blk) (x : Nat) :
    (∃ (j : Nat) (r : PR) (y : Blk), rs[j]? = some r ∧ D j = true ∧ r.eff = some (x, y) ∧ lk (memAt D rs mem) x = y ∧ ∀ (j' : Nat) (r' : PR) (y' : Blk), rs[j']? = some r' → D j' = true → r'.eff = some (x, y') → j' ≤ j) ∨
    ((∀ (j : Nat) (r : PR) (y : Blk), rs[j]? = some r → D j = true → r.eff ≠ some (x, y)) ∧
      ((∃ (j : Nat) (r : PR), rs[j]? = some r ∧ D j = true ∧ inRg r x ∧ lk (memAt D rs mem) x = lk r.new (x - r.base)) ∨
       ((∀ (j : Nat) (r : PR), rs[j]? = some r → D j = true → ¬ inRg r x) ∧ lk (memAt D rs mem) x = lk mem x))) := by
  unfold memAt
  rcases effMem_get D rs 0 (minMem D 0 rs mem) x with ⟨j, r, y, g1, g2, g3, g5, g6⟩ | ⟨g1, g2⟩
  · rw [Nat.zero_add] at g2
    exact .inl ⟨j, r, y, g1, g2, g3, g5, fun j' r' y' hj hD => g6 j' r' y' hj (by rw [Nat.zero_add]; exact hD)⟩
  · refine .inr ⟨fun j r y hj hD => g1 j r y hj (by rw [Nat.zero_add]; exact hD), ?_⟩
    rw [g2]
    rcases minMem_get D rs 0 mem x with ⟨j, r, h1, h2, h3, h4⟩ | ⟨h1, h2⟩
    · rw [Nat.zero_add] at h2
      exact .inl ⟨j, r, h1, h2, h3, h4⟩
    · exact .inr ⟨fun j r hj hD => h1 j r hj (by rw [Nat.zero_add]; exact hD), h2⟩
theorem at_range {D : Nat → Bool} {rs : List PR} {mem : List Blk} {x : Nat} (hasc : asc mem.length rs = true) (hno : ∀ (j : Nat) (r : PR) (y : Blk), rs[j]? = some r → D j = true → r.eff ≠ some (x, y)) {j : Nat} {r : PR} (hj : rs[j]? = some r) (hD : D j = true) (hx : inRg r x) : lk (memAt D rs mem) x = lk r.new (x - r.base) := by
  rcases at_get D rs mem x with ⟨j', r', y', g1, g2, g3, _⟩ | ⟨_, ⟨j', r', h1, h2, h3, h4⟩ | ⟨h1, _⟩⟩
  · exact absurd g3 (hno j' r' y' g1 g2)
  · have := asc_apart rs _ hasc j' j r' r x h1 hj h3 hx
    subst this
    rw [hj] at h1; simp only [Option.some.injEq] at h1; subst h1
    exact h4
  · exact absurd hx (h1 j r hj hD)
theorem at_eff {D : Nat → Bool} {rs : List PR} {mem : List Blk} {x : Nat} {j : Nat} {r : PR} {y : Blk} (hj : rs[j]? = some r) (hD : D j = true) (hx : r.eff = some (x, y))
    (hlast : ∀ (j' : Nat) (r' : PR) (y' : Blk), rs[j']? = some r' → D j' = true → r'.eff = some (x, y') → j' ≤ j) : lk (memAt D rs mem) x = y := by
  rcases at_get D rs mem x with ⟨j', r', y', g1, g2, g3, g5, g6⟩ | ⟨g1, _⟩
  · have := hlast j' r' y' g1 g2 g3
    have := g6 j r y hj hD hx
    obtain rfl : j = j' := by omega
    rw [hj] at g1; simp only [Option.some.injEq] at g1; subst g1
    rw [hx] at g3
    simp only [Option.some.injEq, Prod.mk.injEq, true_and] at g3
    rw [g5, g3]
  · exact absurd hx (g1 j r y hj hD)
theorem at_none {D : Nat → Bool} {rs : List PR} {mem : List Blk} {x : Nat} (h : ∀ (j : Nat) (r : PR), rs[j]? = some r → D j = true → ¬ inRg r x ∧ ∀ y, r.eff ≠ some (x, y)) : lk (memAt D rs mem) x = lk mem x := by
  rcases at_get D rs mem x with ⟨j', r', y', g1, g2, g3, _⟩ | ⟨_, ⟨j', r', h1, h2, h3, h4⟩ | ⟨_, g2⟩⟩
  · exact absurd g3 ((h j' r' g1 g2).2 y')
  · exact absurd h3 (h j' r' h1 h2).1
  · exact g2
theorem at_same {D D' : Nat → Bool} {rs : List PR} {mem : List Blk} {x : Nat} (hasc : asc mem.length rs = true) (h : ∀ (j : Nat) (r : PR), rs[j]? = some r → (inRg r x ∨ ∃ y, r.eff = some (x, y)) → D j = D' j) : lk (memAt D rs mem) x = lk (memAt D' rs mem) x := by
  rcases at_get D rs mem x with ⟨j, r, y, g1, g2, g3, g5, g6⟩ | ⟨hno, hor⟩
  · rw [g5, at_eff g1 (by rw [← h j r g1 (.inr ⟨y, g3⟩)]; exact g2) g3 (fun j' r' y' hj hD he => g6 j' r' y' hj (by rw [h j' r' hj (.inr ⟨y', he⟩)]; exact hD) he)]
  · have hno' : ∀ (j : Nat) (r : PR) (y : Blk), rs[j]? = some r → D' j = true → r.eff ≠ some (x, y) := fun j r y hj hD hy => hno j r y hj (by rw [h j r hj (.inr ⟨y, hy⟩)]; exact hD) hy
    rcases hor with ⟨j, r, h1, h2, h3, h4⟩ | ⟨h1, g2⟩
    · rw [h4, at_range hasc hno' h1 (by rw [← h j r h1 (.inl h3)]; exact h2) h3]
    · rw [g2]
      exact (at_none fun j r hj hD => ⟨fun hx => h1 j r hj (by rw [h j r hj (.inl hx)]; exact hD) hx, fun y => hno' j r y hj hD⟩).symm
theorem T.headAny {P : Program} {B : Nat} {w0 : World} {fz0 : Nat → Prop} {ops : Array Oper} {ts ts' : List AV} {mem mem' : List Blk} {C : Prop} {Q : Exit → Act → World → Prop} (m : Nat) (kill : List (Nat × Nat)) (hs : List Hint)
    (he : evHead P m kill ops.toList hs ts mem = some (ts', mem', C)) (hC : C) (hn : TO P B w0 fz0 ops m ts' mem' Q) (G0' : Gh) (a0 : Act) (w : World) (hst0 : StR B w0 fz0 ts mem G0' a0 w) : wpAny P .any ops Q ops.size (Array.replicate ops.size false) a0 { w with drawn := w.drawn + 1 } := by
  unfold evHead at he
  split at he
  · rename_i rs C1 hpre
    split at he
    · rename_i hchk
      · simp only [Option.some.injEq, Prod.mk.injEq] at he
        obtain ⟨rfl, rfl, rfl⟩ := he
        have hC1 := hC
        simp only [Bool.and_eq_true, decide_eq_true_eq] at hchk
        obtain ⟨hmn, hdst, hasc, hoe, href, htl, hbk, hr1, hr2⟩ := hchk
        have hmn' : m ≤ ops.size := by simpa using hmn
        have hmlt : ∀ i j, ((befs [] ops.toList).getD i 0).testBit j = true → j < i := by
          intro i j h
          rcases Nat.lt_or_ge i ops.toList.length with h1 | h1
          · exact befs_lt hbk i j h1 h
          · obtain ⟨r, e1, e2⟩ := befs_prefix ops.toList []
            have : (befs [] ops.toList).length ≤ i := by rw [e1]; simp; omega
            rw [List.getD_eq_getElem?_getD, List.getElem?_eq_none this] at h
            simp at h
        generalize hmasks : befs [] ops.toList = masks at *
        generalize htsU : tsUnk (ops.toList.take m) ts = tsU at *
        obtain ⟨hlen, _, hgood⟩ := evPreGo_ok _ _ _ _ _ _ _ hpre hC1 rfl
        rw [Nat.zero_add, List.length_take, Nat.min_eq_left hmn] at hlen
        simp only [Nat.zero_add] at hgood
        have hop : ∀ (i : Nat) (o : Oper), i < m → ops[i]? = some o → ∃ r, rs[i]? = some r ∧ Good P ops.toList masks kill (ops.toList.take m) ts mem i o r (rs.take i) := fun i o hi ho => hgood i o (by rw [List.getElem?_take, if_pos hi]; simpa using ho)
        have hdsts2 : ∀ (t : Nat), (∀ o ∈ ops.toList.take m, o.dst ≠ some t) → ∀ r ∈ rs, r.dst ≠ some t := by
          intro t ht r hr
          obtain ⟨i, hi⟩ := List.getElem?_of_mem hr
          have hilt : i < m := by have := (List.getElem?_eq_some_iff.1 hi).1; omega
          have hi2 : i < (ops.toList.take m).length := by rw [List.length_take]; omega
          obtain ⟨r', h1, h2⟩ := hgood i _ (List.getElem?_eq_getElem hi2)
          rw [hi] at h1; simp only [Option.some.injEq] at h1; subst h1
          rw [h2.1]
          exact ht _ (List.getElem_mem hi2)
        let J1 : (Nat → Bool) → Act → World → Prop := fun D a w => ∃ G : Gh,
          a.tmps.size = ts.length ∧ a.defers = [] ∧
          (∀ (j : Nat) (r : PR), rs[j]? = some r → D j = true → ∀ d, r.dst = some d → ValR w G r.av (a.tmps.getD d undef)) ∧
          (∀ t, (∀ (j : Nat) (r : PR), rs[j]? = some r → D j = true → r.dst ≠ some t) → ValR w G (ts.getD t .unk) (a.tmps.getD t undef)) ∧
          MemR B w G (memAt D rs mem) ∧ Below B w0 w ∧ (∀ b, fz0 b → G.fz b) ∧ ((∀ b, G.fz b → fz0 b ∨ B ≤ b) ∧ ∀ b, fz0 b → b < w0.heap.size → w.heap[b]? = w0.heap[b]?)
        let J2 : Nat → Act → World → Prop := fun k a w => wpOps P ops Q (List.range' k (ops.size - k)) a w
        have hmin : ∀ (D : Nat → Bool) (i : Nat) (G : Gh) (a : Act) (w : World), D i = false → (∀ j, (masks.getD i 0).testBit j = true → D j = true) → (∀ j, D j = true → (masks.getD j 0).testBit i = false) → a.tmps.size = ts.length →
            (∀ (j : Nat) (r : PR), rs[j]? = some r → D j = true → ∀ d, r.dst = some d → ValR w G r.av (a.tmps.getD d undef)) →
            (∀ t, (∀ (j : Nat) (r : PR), rs[j]? = some r → D j = true → r.dst ≠ some t) → ValR w G (ts.getD t .unk) (a.tmps.getD t undef)) → TmpsR w G (vTs masks (ops.toList.take m) ts (rs.take i) i) a := by
          intro D i G a w hDi hb hmD hsz h1 h2
          unfold vTs
          refine ⟨by rw [minTs_length, tsUnkI_length]; exact hsz, fun t => ?_⟩
          rcases minTs_get (fun j => (masks.getD i 0).testBit j) (rs.take i) 0 (tsUnkI masks i 0 (ops.toList.take m) ts) t with ⟨j, r, g1, g2, g3, g4⟩ | g
          · rw [g4]
            rw [List.getElem?_take] at g1
            split at g1
            · rw [Nat.zero_add] at g2; exact h1 j r g1 (hb j g2) t g3
            · cases g1
          · rw [g]
            rcases tsUnkI_get masks i (ops.toList.take m) 0 ts t with e | ⟨e1, e2⟩
            · rw [e]; trivial
            · rw [e2]
              refine h2 t fun j r hj hD hd => ?_
              have hjlt : j < m := by have := (List.getElem?_eq_some_iff.1 hj).1; omega
              have hj2 : j < (ops.toList.take m).length := by rw [List.length_take]; omega
              obtain ⟨r', f1, f2⟩ := hgood j _ (List.getElem?_eq_getElem hj2)
              rw [hj] at f1; simp only [Option.some.injEq] at f1; subst f1
              rcases e1 j _ (List.getElem?_eq_getElem hj2) (by rw [← f2.1]; exact hd) with h | h
              · rw [Nat.zero_add] at h; subst h; rw [hDi] at hD; cases hD
              · rw [Nat.zero_add] at h; rw [hmD j hD] at h; cases h
        have hmemsub : ∀ (D : Nat → Bool) (i : Nat), D i = false → (∀ j, (masks.getD i 0).testBit j = true → D j = true) → (∀ j, D j = true → (masks.getD j 0).testBit i = false) → ∀ x, lk (vMem masks kill mem (rs.take i) i) x = lk (memAt D rs mem) x ∨ lk (vMem masks kill mem (rs.take i) i) x = .dead := by
          intro D i hDi hb hmD x
          unfold vMem
          rcases killMem_get masks i kill (effMem (fun j => (masks.getD i 0).testBit j) 0 (rs.take i) (minMem (fun j => (masks.getD i 0).testBit j) 0 (rs.take i) mem)) x with e2 | ⟨e1, e2⟩
          · exact .inr e2
          · rw [e2]
            have ahead : ∀ (j' : Nat) (r' : PR) (y' : Blk), rs[j']? = some r' → D j' = true → r'.eff = some (x, y') → j' < i ∧ (masks.getD i 0).testBit j' = true := by
              intro j' r' y' f1 f2 f3
              have hin := (okEff_in rs 0 hoe j' r' x y' f1 f3).2
              rw [Nat.zero_add] at hin
              rcases e1 j' hin with h | h
              · subst h; rw [hDi] at f2; cases f2
              · rw [hmD j' f2, Bool.false_or] at h
                exact ⟨hmlt i j' h, h⟩
            rcases effMem_get (fun j => (masks.getD i 0).testBit j) (rs.take i) 0 (minMem (fun j => (masks.getD i 0).testBit j) 0 (rs.take i) mem) x with ⟨j, r, y, g1, g2, g3, g5, g6⟩ | ⟨g1, e0⟩
            · left
              rw [List.getElem?_take] at g1
              split at g1
              · rw [Nat.zero_add] at g2
                rw [g5, at_eff g1 (hb j g2) g3 (fun j' r' y' f1 f2 f3 => by
                  obtain ⟨a1, a2⟩ := ahead j' r' y' f1 f2 f3
                  exact g6 j' r' y' (by rw [List.getElem?_take, if_pos a1]; exact f1) (by rw [Nat.zero_add]; exact a2) f3)]
              · cases g1
            · rw [e0]
              have hno : ∀ (j : Nat) (r : PR) (y : Blk), rs[j]? = some r → D j = true → r.eff ≠ some (x, y) := fun j r y f1 f2 f3 => by
                obtain ⟨a1, a2⟩ := ahead j r y f1 f2 f3
                exact g1 j r y (by rw [List.getElem?_take, if_pos a1]; exact f1) (by rw [Nat.zero_add]; exact a2) f3
              rcases minMem_get (fun j => (masks.getD i 0).testBit j) (rs.take i) 0 mem x with ⟨j, r, f1, f2, f3, f4⟩ | ⟨f1, f2⟩
              · left
                rw [List.getElem?_take] at f1
                split at f1
                · rw [Nat.zero_add] at f2
                  rw [f4, at_range hasc hno f1 (hb j f2) f3]
                · cases f1
              · rw [f2]
                rcases at_get D rs mem x with ⟨j', r', y', h1, h2, h3, _⟩ | ⟨_, ⟨j', r', h1, h2, h3, h4⟩ | ⟨_, h2⟩⟩
                · exact absurd h3 (hno j' r' y' h1 h2)
                · right
                  have := asc_ge rs _ hasc j' r' h1
                  exact lk_big (by unfold inRg at h3; omega)
                · left; exact h2.symm
        have hfin0 : ∀ D a w, (∀ j, j < m → D j = true) → J1 D a w → ∃ G, StR B w0 fz0 (minTs (fun _ => true) 0 rs tsU) (memAt (fun _ => true) rs mem) G a w := by
          rintro D a w hD ⟨G, g1, g2, g3, g4, g5, g6, g7, g8⟩
          have hDr : ∀ (j : Nat) (r : PR), rs[j]? = some r → D j = true := fun j r hj => hD j (by have := (List.getElem?_eq_some_iff.1 hj).1; omega)
          refine ⟨G, fun t r hr => ?_, all_refs hr2, ⟨by rw [minTs_length, ← htsU, tsUnk_length]; exact g1, fun t => ?_⟩, ?_, g6, g2, g7, g8⟩
          · rw [List.all_eq_true] at hr1
            rcases Nat.lt_or_ge t (minTs (fun _ => true) 0 rs tsU).length with h1 | h1
            · have hm : (minTs (fun _ => true) 0 rs tsU).getD t .unk ∈ minTs (fun _ => true) 0 rs tsU := by
                rw [List.getD_eq_getElem?_getD, List.getElem?_eq_getElem h1]; exact List.getElem_mem h1
              exact refsLt_ok (hr1 _ hm) r hr
            · rw [List.getD_eq_getElem?_getD, List.getElem?_eq_none h1] at hr; cases hr
          · rcases minTs_get (fun _ => true) rs 0 tsU t with ⟨j, r, f1, f2, f3, f4⟩ | g
            · rw [f4]; exact g3 j r f1 (hDr j r f1) t f3
            · rw [g, ← htsU]
              rcases tsUnk_get (ops.toList.take m) ts t with e | ⟨e1, e2⟩
              · rw [e]; trivial
              · rw [e2]; exact g4 t (fun j r hj _ => hdsts2 t e1 r (List.mem_of_getElem? hj))
          · refine g5.congr fun x => .inl (at_same hasc fun j r hj _ => (hDr j r hj).symm)
        refine wpAny_two (n := ops.size) m rfl hmn' (fun i o ho e hee hb => by have := backB_ok _ 0 hbk i o (by simpa using ho) e hee hb; omega) (fun i j => (masks.getD i 0).testBit j)
          (fun i o ho j hj => ?_) (tailOk_ok (by simpa using htl)) J1 J2 ?_ ?_ ?_ ?_ ?_
        · subst hmasks
          have := befs_get ops.toList [] i o (by simpa using ho) j (by simpa using hj)
          obtain ⟨e, h1, h2, h3⟩ := this
          exact ⟨e, by simpa using h1, h2, h3⟩
        · -- one of the first ones
          rintro D a w i o him ho hDi hDm hbD hcl ⟨G, g1, g2, g3, g4, g5, g6, g7, g8⟩ K hK
          obtain ⟨r, hri, hdst', hor⟩ := hop i o him ho
          have hmaskD : ∀ j, D j = true → (masks.getD j 0).testBit i = false := by
            intro j hDj
            cases hb : (masks.getD j 0).testBit i with
            | false => rfl
            | true => have := hcl j i hDj hb; rw [hDi] at this; cases this
          have htm := hmin D i G a w hDi hbD hmaskD g1 g3 g4
          have hms := hmemsub D i hDi hbD hmaskD
          have hne : ∀ (j : Nat) (q : PR) (d : Nat), rs[j]? = some q → D j = true → q.dst = some d → o.dst ≠ some d := by
            intro j q d hq hDj hd hod
            rw [← hdst'] at hod
            have := okDst_ne rs hdst i j r q d hri hq hod hd
            subst this
            rw [hDi] at hDj; cases hDj
          have hupd : ∀ j, j ≠ i → updB D i j = D j := fun j hj => by unfold updB; rw [if_neg hj]
          have hupi : updB D i i = true := by unfold updB; rw [if_pos rfl]
          have hupD : ∀ j, D j = true → updB D i j = true := fun j hj => by unfold updB; split <;> first | rfl | exact hj
          have hij : ∀ j, D j = true → i ≠ j := fun j hDj e => by subst e; rw [hDi] at hDj; cases hDj
          have hrefD : ∀ (j : Nat) (q : PR), rs[j]? = some q → D j = true → ∀ x ∈ prRefs q, ¬ inRg r x := by
            intro j q hq hDj x hx
            have := okRefs_ok rs 0 href j q hq x hx i r hri
            rw [Nat.zero_add] at this
            rcases this with h1 | h1 | h1
            · exact absurd h1 (hij j hDj)
            · rw [hmaskD j hDj] at h1; cases h1
            · exact h1
          have hbase := asc_ge rs _ hasc i r hri
          have hnoR : ∀ x, inRg r x → ∀ (j : Nat) (q : PR) (y : Blk), rs[j]? = some q → D j = true → q.eff ≠ some (x, y) := by
            intro x hx j q y hq hDj hy
            rcases (okEff_in rs 0 hoe j q x y hq hy).1 with h | ⟨j', q', h1, h2, h3⟩
            · unfold inRg at hx; omega
            · have := asc_apart rs _ hasc j' i q' r x h1 hri h2 hx
              subst this
              rw [Nat.zero_add, hmaskD j hDj] at h3; cases h3
          have hnoI : ∀ x, inRg r x → ∀ y, r.eff ≠ some (x, y) := by
            intro x hx y hy
            rcases (okEff_in rs 0 hoe i r x y hri hy).1 with h | ⟨j', q', h1, h2, h3⟩
            · unfold inRg at hx; omega
            · have := asc_apart rs _ hasc j' i q' r x h1 hri h2 hx
              subst this
              rw [Nat.zero_add] at h3
              have := hmlt _ _ h3; omega
          have hnoU : ∀ x, inRg r x → ∀ (j : Nat) (q : PR) (y : Blk), rs[j]? = some q → updB D i j = true → q.eff ≠ some (x, y) := by
            intro x hx j q y hq hDj
            by_cases hji : j = i
            · subst hji
              rw [hri] at hq; simp only [Option.some.injEq] at hq; subst hq
              exact hnoI x hx y
            · rw [hupd j hji] at hDj
              exact hnoR x hx j q y hq hDj
          have after : r.eff = none → ∀ (v : Value) (w' : World) (G' : Gh), NewR w w' G G' r.base r.new → ValR w' G' r.av v → J1 (updB D i) (a.put o.dst v) w' := by
            intro hre v w' G' hN hv
            have hag : ∀ x, ¬ inRg r x → Agree G G' x := fun x hx => hN.agree x (by unfold inRg at hx; omega)
            refine ⟨G', by rw [put_size]; exact g1, by rw [put_defers]; exact g2, fun j q hq hj d hd => ?_, fun t ht => ?_, ?_, g6.trans (hN.below.mono g5.base.1), fun b hb => hN.fz1 b (g7 b hb), fun b hb => ?_, fun b hb hlt => (hN.keeps.block b (g7 b hb) (Nat.lt_of_lt_of_le hlt g6.size)).trans (g8.2 b hb hlt)⟩
            · by_cases hji : j = i
              · subst hji
                rw [hri] at hq; simp only [Option.some.injEq] at hq; subst hq
                have hod : o.dst = some d := by rw [← hdst']; exact hd
                have hlt := okDst_lt rs hdst j r d hri hd
                rw [hod, put_get_eq (by omega)]
                exact hv
              · have hDj : D j = true := by rw [hupd j hji] at hj; exact hj
                rw [put_get_ne (hne j q d hq hDj hd)]
                exact ValR.keep hN.keeps _ _ (fun x hx => hag x (hrefD j q hq hDj x (by simp [prRefs, hx]))) (g3 j q hq hDj d hd)
            · rw [put_get_ne (by rw [← hdst']; exact ht i r hri hupi)]
              refine ValR.keep hN.keeps _ _ (fun x hx => hag x ?_) (g4 t (fun j q hq hDj => ht j q hq (hupD j hDj)))
              have := hst0.rt t x hx
              unfold inRg; omega
            · have hdead : ∀ x, r.base ≤ x → x < r.base + r.new.length → lk (memAt D rs mem) x = .dead := by
                intro x h1 h2
                rcases at_get D rs mem x with ⟨j, q, y, f1, f2, f3, _⟩ | ⟨_, ⟨j, q, e1, e2, e3, e4⟩ | ⟨f1, f2⟩⟩
                · exact absurd f3 (hnoR x ⟨h1, h2⟩ j q y f1 f2)
                · have := asc_apart rs _ hasc i j r q x hri e1 ⟨h1, h2⟩ e3
                  exact absurd this (hij j e2)
                · rw [f2]; exact lk_big (by omega)
              have hrf : ∀ x y, y ∈ (lk (memAt D rs mem) x).refs → y < r.base ∨ r.base + r.new.length ≤ y := by
                intro x y hy
                have : ¬ inRg r y := by
                  rcases at_get D rs mem x with ⟨j, q, z, f1, f2, f3, f5, _⟩ | ⟨_, ⟨j, q, e1, e2, e3, e4⟩ | ⟨f1, f2⟩⟩
                  · rw [f5] at hy
                    refine hrefD j q f1 f2 y ?_
                    unfold prRefs
                    refine List.mem_append.2 (.inr (List.mem_append.2 (.inr ?_)))
                    rw [f3]; exact hy
                  · rw [e4] at hy
                    refine hrefD j q e1 e2 y ?_
                    unfold prRefs
                    refine List.mem_append.2 (.inr (List.mem_append.2 (.inl (List.mem_flatMap.2 ⟨lk q.new (x - q.base), ?_, hy⟩))))
                    unfold inRg at e3
                    have hlt : x - q.base < q.new.length := by omega
                    simp only [lk, List.getD_eq_getElem?_getD, List.getElem?_eq_getElem hlt, Option.getD_some]
                    exact List.getElem_mem hlt
                  · rw [f2] at hy
                    have := hst0.rm x y hy
                    unfold inRg; omega
                unfold inRg at this; omega
              refine (g5.more hN hdead hrf).congr (fun x => .inl ?_)
              rw [lk_memPut]
              by_cases hx : r.base ≤ x ∧ x < r.base + r.new.length
              · rw [if_pos hx, at_range hasc (hnoU x hx) hri hupi hx]
              · rw [if_neg hx]
                refine at_same hasc fun j q hq hor => ?_
                by_cases hji : j = i
                · subst hji
                  rw [hri] at hq; simp only [Option.some.injEq] at hq; subst hq
                  rcases hor with h | ⟨y, h⟩
                  · exact absurd h hx
                  · rw [hre] at h; cases h
                · exact hupd j hji
            · rcases hN.fz2 b hb with h | h
              · exact g8.1 b h
              · exact .inr (Nat.le_trans g5.base.1 h.1)
          unfold Turn
          rcases hor with ⟨hg, ⟨h, Ci, hev, hCi⟩, hre, hc1, hc2⟩ | ⟨hg, hav, hnew, hre⟩ | ⟨hg, hnew, h, b, blk, Ci, hst, hCi, hre⟩ | ⟨hg, hav, h, old, row, Ci, hap, hCi, hnew, hre⟩
          · rw [evGuard_ok htm hg]
            simp only [if_true]
            refine .inl ?_
            have hm2 : MemR B w G (vMem masks kill mem (rs.take i) i) := g5.congr hms
            refine evDec_ok hev B w G a hCi hm2 htm (fun t x hx => ?_) (all_refs hc2) K Q (fun v w' G' hN hv => hK _ _ (after hre v w' G' hN hv))
            rw [List.all_eq_true] at hc1
            rcases Nat.lt_or_ge t (vTs masks (ops.toList.take m) ts (rs.take i) i).length with h1 | h1
            · exact refsLt_ok (hc1 _ (getD_mem h1)) x hx
            · rw [getD_none h1] at hx; cases hx
          · rw [evGuard_ok htm hg]
            simp only [Bool.false_eq_true, if_false]
            refine hK _ _ (after hre undef w G ?_ ?_)
            · rw [hnew]; exact NewR.none (Below.refl _ _)
            · rw [hav]; exact ⟨#[], rfl, rfl⟩
          · rw [evGuard_ok htm hg]
            simp only [if_true]
            refine .inl ?_
            obtain ⟨hst2, hblt2, hnd, hrf0⟩ := fxB_ok (fxB_mono hst hms)
            have hlast : ∀ (j' : Nat) (r' : PR) (y' : Blk), rs[j']? = some r' → updB D i j' = true → r'.eff = some (b, y') → j' ≤ i := by
              intro j' r' y' f1 f2 f3
              by_cases hji : j' = i
              · omega
              · rw [hupd j' hji] at f2
                rcases Nat.lt_or_ge i j' with h | h
                · have := okEff_ord rs 0 hoe i j' r r' b blk y' h hri f1 hre f3
                  rw [Nat.zero_add, Nat.zero_add, hmaskD j' f2] at this; cases this
                · exact h
            refine hst2 B w G a hCi g5 htm K Q fun v w' hbel hk hm' hv => hK _ _ ?_
            refine ⟨G, by rw [put_size]; exact g1, by rw [put_defers]; exact g2, fun j q hq hj d hd => ?_, fun t ht => ?_, ?_, g6.trans hbel, g7, g8.1, fun b hb hlt => (hk.block b (g7 b hb) (Nat.lt_of_lt_of_le hlt g6.size)).trans (g8.2 b hb hlt)⟩
            · by_cases hji : j = i
              · subst hji
                rw [hri] at hq; simp only [Option.some.injEq] at hq; subst hq
                have hod : o.dst = some d := by rw [← hdst']; exact hd
                have hlt := okDst_lt rs hdst j r d hri hd
                rw [hod, put_get_eq (by omega)]
                exact hv
              · have hDj : D j = true := by rw [hupd j hji] at hj; exact hj
                rw [put_get_ne (hne j q d hq hDj hd)]
                exact ValR.keep hk _ _ (fun x hx => ⟨rfl, rfl⟩) (g3 j q hq hDj d hd)
            · rw [put_get_ne (by rw [← hdst']; exact ht i r hri hupi)]
              exact ValR.keep hk _ _ (fun x hx => ⟨rfl, rfl⟩) (g4 t (fun j q hq hDj => ht j q hq (hupD j hDj)))
            · refine hm'.congr (fun x => .inl ?_)
              rw [lk_set]
              by_cases hx : x = b
              · subst hx
                rw [if_pos ⟨rfl, hblt2⟩, at_eff hri hupi hre hlast]
              · rw [if_neg (by simp [hx])]
                refine at_same hasc fun j q hq hor => ?_
                by_cases hji : j = i
                · subst hji
                  rw [hri] at hq; simp only [Option.some.injEq] at hq; subst hq
                  rcases hor with h | ⟨y, h⟩
                  · unfold inRg at h; rw [hnew] at h; simp at h; omega
                  · rw [hre] at h
                    simp only [Option.some.injEq, Prod.mk.injEq] at h
                    exact absurd h.1.symm hx
                · exact hupd j hji
          · rw [evGuard_ok htm hg]
            simp only [if_true]
            refine .inl ?_
            have hin : inRg r r.base := ⟨Nat.le_refl _, by rw [hnew]; simp⟩
            have hinr : ∀ y, inRg r y → y = r.base := fun y hy => by unfold inRg at hy; rw [hnew] at hy; simp at hy; omega
            have hrf : ∀ z y, y ∈ (lk (memAt D rs mem) z).refs → y ≠ r.base := by
              intro z y hy e
              have : ¬ inRg r y := by
                rcases at_get D rs mem z with ⟨j, q, u, f1, f2, f3, f5, _⟩ | ⟨_, ⟨j, q, e1, e2, e3, e4⟩ | ⟨f1, f2⟩⟩
                · rw [f5] at hy
                  refine hrefD j q f1 f2 y ?_
                  unfold prRefs
                  refine List.mem_append.2 (.inr (List.mem_append.2 (.inr ?_)))
                  rw [f3]; exact hy
                · rw [e4] at hy
                  refine hrefD j q e1 e2 y ?_
                  unfold prRefs
                  refine List.mem_append.2 (.inr (List.mem_append.2 (.inl (List.mem_flatMap.2 ⟨lk q.new (z - q.base), ?_, hy⟩))))
                  unfold inRg at e3
                  have hlt : z - q.base < q.new.length := by omega
                  simp only [lk, List.getD_eq_getElem?_getD, List.getElem?_eq_getElem hlt, Option.getD_some]
                  exact List.getElem_mem hlt
                · rw [f2] at hy
                  have := hst0.rm z y hy
                  unfold inRg; omega
              exact this (by rw [e]; exact hin)
            refine evGrow_ok (evGrow_mono hap hms) r.base B w G a hCi g5 htm hrf K Q fun v w' G' hbel hkp hag hfz hv hm' => hK _ _ ?_
            have hag2 : ∀ y, ¬ inRg r y → Agree G G' y := fun y hy => hag y (fun e => hy (by rw [e]; exact hin))
            refine ⟨G', by rw [put_size]; exact g1, by rw [put_defers]; exact g2, fun j q hq hj d hd => ?_, fun t ht => ?_, ?_, g6.trans hbel, fun b hb => by rw [hfz]; exact g7 b hb, fun b hb => by rw [hfz] at hb; exact g8.1 b hb, fun b hb hlt => (hkp.block b (g7 b hb) (Nat.lt_of_lt_of_le hlt g6.size)).trans (g8.2 b hb hlt)⟩
            · by_cases hji : j = i
              · subst hji
                rw [hri] at hq; simp only [Option.some.injEq] at hq; subst hq
                have hod : o.dst = some d := by rw [← hdst']; exact hd
                have hlt := okDst_lt rs hdst j r d hri hd
                rw [hod, put_get_eq (by omega), hav]
                exact hv
              · have hDj : D j = true := by rw [hupd j hji] at hj; exact hj
                rw [put_get_ne (hne j q d hq hDj hd)]
                exact ValR.keep hkp _ _ (fun y hy => hag2 y (hrefD j q hq hDj y (by simp [prRefs, hy]))) (g3 j q hq hDj d hd)
            · rw [put_get_ne (by rw [← hdst']; exact ht i r hri hupi)]
              refine ValR.keep hkp _ _ (fun y hy => hag2 y ?_) (g4 t (fun j q hq hDj => ht j q hq (hupD j hDj)))
              have := hst0.rt t y hy
              unfold inRg; omega
            · refine hm'.congr (fun z => .inl ?_)
              rw [lk_memPut]
              by_cases hz : z = r.base
              · subst hz
                rw [if_pos (by simp), at_range hasc (hnoU _ hin) hri hupi hin, hnew]
              · rw [if_neg (by simp; omega)]
                have same : (∀ y, r.eff ≠ some (z, y)) → lk (memAt (updB D i) rs mem) z = lk (memAt D rs mem) z := fun hn => at_same hasc fun j q hq hor => by
                  by_cases hji : j = i
                  · subst hji
                    rw [hri] at hq; simp only [Option.some.injEq] at hq; subst hq
                    rcases hor with h | ⟨y, h⟩
                    · exact absurd (hinr z h) hz
                    · exact absurd h (hn y)
                  · exact hupd j hji
                cases old with
                | none => exact same (fun y h => by rw [hre] at h; cases h)
                | some r0 =>
                  simp only [killO]
                  rw [lk_set]
                  by_cases hz0 : z = r0
                  · subst hz0
                    rw [at_eff hri hupi (y := .dead) (by rw [hre]; rfl) (fun j' r' y' f1 f2 f3 => by
                      by_cases hji : j' = i
                      · omega
                      · rw [hupd j' hji] at f2
                        rcases Nat.lt_or_ge i j' with h | h
                        · have := okEff_ord rs 0 hoe i j' r r' z .dead y' h hri f1 (by rw [hre]; rfl) f3
                          rw [Nat.zero_add, Nat.zero_add, hmaskD j' f2] at this; cases this
                        · exact h)]
                    split
                    · rfl
                    · rename_i hh; exact (lk_big (by simp at hh; omega)).symm
                  · rw [if_neg (by simp [hz0])]
                    refine same (fun y h => ?_)
                    rw [hre] at h
                    simp only [Option.map_some, Option.some.injEq, Prod.mk.injEq] at h
                    exact hz0 h.1.symm
        · -- all of the first ones are done
          intro D a w hD _ hJ
          obtain ⟨G, hs'⟩ := hfin0 D a w hD hJ
          exact hn G a w hs'
        · -- one of the others
          intro k a w o hk ho hJ K hK
          have hlt : k < ops.size := (Array.getElem?_eq_some_iff.1 ho).1
          have hJ' : wpOps P ops Q (List.range' k (ops.size - k)) a w := hJ
          rw [show ops.size - k = (ops.size - (k + 1)) + 1 by omega, List.range'_succ] at hJ'
          simp only [wpOps, ho] at hJ'
          unfold Turn
          split
          · rename_i hw
            rw [if_pos hw] at hJ'
            exact hJ'.imp (Oper.wp_mono hK) (fun h => h)
          · rename_i hw
            rw [if_neg hw] at hJ'
            exact hK _ _ hJ'
        · -- the end
          intro a w hJ
          have hJ' : wpOps P ops Q (List.range' ops.size (ops.size - ops.size)) a w := hJ
          rw [Nat.sub_self] at hJ'
          exact hJ'
        · -- the start
          refine ⟨G0', hst0.tmps.size, hst0.defers, (fun j r _ h => by cases h), fun t _ => ?_, ?_, hst0.below.drew, hst0.fz1, hst0.fz2⟩
          · exact ValR.keep (w := w) (w' := { w with drawn := w.drawn + 1 }) (G := G0') (G' := G0') ⟨Nat.le_refl _, fun _ _ _ => rfl, fun _ h => h⟩ _ _ (fun _ _ => ⟨rfl, rfl⟩) (hst0.tmps.val t)
          · have hN : NewR w ({ w with drawn := w.drawn + 1 } : World) G0' G0' mem.length [] := NewR.none ((Below.refl w.heap.size w).drew)
            refine (hst0.mem.more hN (fun i h1 h2 => by simp at h2; omega) (fun i r hr => .inl (hst0.rm i r hr))).congr (fun x => .inl ?_)
            rw [at_none (fun j r hj h => by cases h), lk_memPut, if_neg (by simp only [List.length_nil]; omega)]
    · cases he
  · cases he
theorem T.head {P : Program} {B : Nat} {w0 : World} {fz0 : Nat → Prop} {id : Nat} {ops : Array Oper} {ts ts' : List AV} {mem mem' : List Blk} {C : Prop} {Q : Exit → Act → World → Prop} (hmo : P.follows .mixedOrders = true) (m : Nat) (kill : List (Nat × Nat)) (hs : List Hint)
    (he : evHead P m kill ops.toList hs ts mem = some (ts', mem', C)) (hC : C) (hn : TO P B w0 fz0 ops m ts' mem' Q) : T P B w0 fz0 (.region id ops true) ts mem Q :=
  fun G a w hst => wp_region_any hmo (T.headAny m kill hs he hC hn G a w hst)
def renE (π : List Nat) (e : Edge) : Edge := { e with on := (findIx π e.on).getD 0 }
def renOp (π : List Nat) (o : Oper) : Oper := { o with after := ((o.after.toList.filter fun e => (findIx π e.on).isSome).map (renE π)).toArray }
def permA (π : List Nat) (ops : Array Oper) : Array Oper := (π.filterMap fun j => (ops[j]?).map (renOp π)).toArray
def permOkB (π : List Nat) (ops : Array Oper) : Bool :=
  nodupB π && (π.all (fun i => decide (i < ops.size)) && ops.toList.all (fun o => o.guard.isNone && o.after.toList.all (fun e => decide (e.on < ops.size))))
theorem filterMap_all {α β : Type} (f : α → Option β) : ∀ (l : List α), (∀ x ∈ l, (f x).isSome = true) → (l.filterMap f).length = l.length ∧ ∀ (k : Nat), (l.filterMap f)[k]? = (l[k]?).bind f
  | [], _ => ⟨rfl, fun k => by simp⟩
  | x :: l, h => by
    obtain ⟨y, hy⟩ := Option.isSome_iff_exists.1 (h x (List.mem_cons_self ..))
    obtain ⟨h1, h2⟩ := filterMap_all f l (fun z hz => h z (List.mem_cons_of_mem _ hz))
    rw [List.filterMap_cons_some hy]
    refine ⟨by simp [h1], fun k => ?_⟩
    cases k with
    | zero => simp [hy]
    | succ k => simpa using h2 k
theorem ready_mem {md : Region.Mode} {ops : Array Oper} {L : Array Bool} {i : Nat} : i ∈ Region.ready md ops L ↔ ∃ o, ops[i]? = some o ∧ L.getD i true = false ∧ ∀ e ∈ o.after, Region.binds md e = true → L.getD e.on false = true := by
  unfold Region.ready
  rw [List.mem_filter, List.mem_range]
  constructor
  · rintro ⟨h1, h2⟩
    simp only [Bool.and_eq_true, Bool.not_eq_true'] at h2
    obtain ⟨h2, h3⟩ := h2
    rw [Array.getElem?_eq_getElem h1] at h3
    simp only [Option.map_some, Option.getD_some, Array.all_eq_true_iff_forall_mem, Bool.or_eq_true, Bool.not_eq_true'] at h3
    refine ⟨_, Array.getElem?_eq_getElem h1, h2, fun e he hb => ?_⟩
    rcases h3 e he with h | h
    · rw [hb] at h; cases h
    · exact h
  · rintro ⟨o, h1, h2, h3⟩
    refine ⟨(Array.getElem?_eq_some_iff.1 h1).1, ?_⟩
    simp only [Bool.and_eq_true, Bool.not_eq_true']
    refine ⟨h2, ?_⟩
    rw [h1]
    simp only [Option.map_some, Option.getD_some, Array.all_eq_true_iff_forall_mem, Bool.or_eq_true, Bool.not_eq_true']
    intro e he
    cases hb : Region.binds md e with
    | false => exact .inl rfl
    | true => exact .inr (h3 e he hb)
theorem findIx_none : ∀ (l : List Nat) (r : Nat), findIx l r = none → r ∉ l
  | [], r, _ => by simp
  | x :: l, r, h => by
    simp only [findIx] at h
    split at h
    · cases h
    · rename_i hne
      simp only [Option.map_eq_none_iff] at h
      have := findIx_none l r h
      simp only [List.mem_cons, not_or]
      exact ⟨fun e => hne e.symm, this⟩
theorem wpAny_sub {P : Program} {md : Region.Mode} {Q : Exit → Act → World → Prop} {π : List Nat} {ops : Array Oper} (hp : permOkB π ops = true) :
    ∀ (fuel : Nat) (L L' : Array Bool) (a : Act) (w : World), L.size = ops.size → L'.size = π.length → (∀ i k, findIx π i = some k → L.getD i true = L'.getD k true) → (∀ i, i < ops.size → findIx π i = none → L.getD i true = true) → wpAny P md (permA π ops) Q fuel L' a w → wpAny P md ops Q fuel L a w := by
  simp only [permOkB, Bool.and_eq_true] at hp
  obtain ⟨hnd, hlt, hop⟩ := hp
  rw [List.all_eq_true] at hlt hop
  have hπ : ∀ k i, π[k]? = some i → i < ops.size ∧ findIx π i = some k := by
    intro k i hk
    have hi : i < ops.size := by simpa using hlt i (List.mem_of_getElem? hk)
    cases hf : findIx π i with
    | none => exact absurd (List.mem_of_getElem? hk) (findIx_none π i hf)
    | some k' => rw [nodupB_ok π hnd k k' i hk (findIx_some π i k' hf)]; exact ⟨hi, rfl⟩
  have hk : ∀ i k, findIx π i = some k → π[k]? = some i ∧ k < π.length ∧ i < ops.size := by
    intro i k h
    have := findIx_some π i k h
    exact ⟨this, (List.getElem?_eq_some_iff.1 this).1, (hπ k i this).1⟩
  have hfm := filterMap_all (fun j => (ops[j]?).map (renOp π)) π (fun x hx => by
    have : x < ops.size := by simpa using hlt x hx
    simp [Array.getElem?_eq_getElem this])
  have hget : ∀ k : Nat, (permA π ops)[k]? = (π[k]?).bind fun j => (ops[j]?).map (renOp π) := by
    intro k
    unfold permA
    rw [List.getElem?_toArray]
    exact hfm.2 k
  have hguard : ∀ (i : Nat) (o : Oper), ops[i]? = some o → o.guard = none ∧ ∀ e ∈ o.after, e.on < ops.size := by
    intro i o ho
    have := hop o (by rw [← Array.mem_def]; exact Array.mem_of_getElem? ho)
    simp only [Bool.and_eq_true, List.all_eq_true, decide_eq_true_eq, Option.isNone_iff_eq_none] at this
    exact ⟨this.1, fun e he => this.2 e (by simpa using he)⟩
  have gD : ∀ (A : Array Bool) (i : Nat) (b c : Bool), i < A.size → A.getD i b = A.getD i c := by
    intro A i b c h
    rw [Array.getD_eq_getD_getElem?, Array.getD_eq_getD_getElem?, Array.getElem?_eq_getElem h]; rfl
  have hready : ∀ (L L' : Array Bool), L.size = ops.size → L'.size = π.length → (∀ i k, findIx π i = some k → L.getD i true = L'.getD k true) → (∀ i, i < ops.size → findIx π i = none → L.getD i true = true) → ∀ i k, findIx π i = some k → (i ∈ Region.ready md ops L ↔ k ∈ Region.ready md (permA π ops) L') := by
    intro L L' hL hL' hLL hLd i k hik
    rw [ready_mem, ready_mem, hget k, (hk i k hik).1]
    simp only [Option.bind_some]
    constructor
    · rintro ⟨o, h1, h2, h3⟩
      refine ⟨renOp π o, by rw [h1]; rfl, by rw [← hLL i k hik]; exact h2, fun e he hb => ?_⟩
      simp only [renOp, List.mem_toArray, List.mem_map, List.mem_filter, Array.mem_toList_iff] at he
      obtain ⟨e0, ⟨he0, hsm⟩, rfl⟩ := he
      obtain ⟨k0, g1⟩ := Option.isSome_iff_exists.1 hsm
      have := h3 e0 he0 hb
      simp only [renE, g1, Option.getD_some]
      rw [gD L' k0 false true (by have := (hk _ _ g1).2.1; omega), ← hLL _ _ g1, gD L _ true false (by have := (hguard i o h1).2 e0 he0; omega)]
      exact this
    · rintro ⟨o', h1, h2, h3⟩
      simp only [Option.map_eq_some_iff] at h1
      obtain ⟨o, h1, rfl⟩ := h1
      refine ⟨o, h1, by rw [hLL i k hik]; exact h2, fun e he hb => ?_⟩
      have hes := (hguard i o h1).2 e he
      rw [gD L _ false true (by omega)]
      cases g1 : findIx π e.on with
      | none => exact hLd _ hes g1
      | some k0 =>
        have := h3 (renE π e) (by simp only [renOp, List.mem_toArray, List.mem_map, List.mem_filter, Array.mem_toList_iff]; exact ⟨e, ⟨he, by rw [g1]; rfl⟩, rfl⟩) hb
        simp only [renE, g1, Option.getD_some] at this
        rw [hLL _ _ g1, gD L' k0 true false (by have := (hk _ _ g1).2.1; omega)]
        exact this
  have hin : ∀ (L : Array Bool) i, (∀ i, i < ops.size → findIx π i = none → L.getD i true = true) → i ∈ Region.ready md ops L → ∃ k, findIx π i = some k := by
    intro L i hLd hi
    rw [ready_mem] at hi
    obtain ⟨o, h1, h2, _⟩ := hi
    cases hf : findIx π i with
    | some k => exact ⟨k, rfl⟩
    | none => rw [hLd i (Array.getElem?_eq_some_iff.1 h1).1 hf] at h2; cases h2
  intro fuel
  induction fuel with
  | zero =>
    intro L L' a w hL hL' hLL hLd h
    refine ⟨?_, h.2⟩
    rw [List.eq_nil_iff_forall_not_mem]
    intro i hi
    obtain ⟨k, hik⟩ := hin L i hLd hi
    have := (hready L L' hL hL' hLL hLd i k hik).1 hi
    rw [h.1] at this
    cases this
  | succ fuel ih =>
    intro L L' a w hL hL' hLL hLd h
    refine ⟨fun he => h.1 ?_, fun i hi => ?_⟩
    · rw [List.eq_nil_iff_forall_not_mem] at he ⊢
      intro k hk1
      have hk2 := hk1
      rw [ready_mem] at hk2
      obtain ⟨o', h1, _⟩ := hk2
      rw [hget k] at h1
      cases hπk : π[k]? with
      | none => rw [hπk] at h1; cases h1
      | some i => exact he i ((hready L L' hL hL' hLL hLd i k (hπ k i hπk).2).2 hk1)
    · obtain ⟨k, hik⟩ := hin L i hLd hi
      have hi2 := hi
      rw [ready_mem] at hi2
      obtain ⟨o, ho, _⟩ := hi2
      have hw := h.2 k ((hready L L' hL hL' hLL hLd i k hik).1 hi)
      have ho' : (permA π ops)[k]? = some (renOp π o) := by rw [hget k, (hk i k hik).1]; simp [ho]
      unfold wpOp at hw ⊢
      rw [ho'] at hw
      rw [ho]
      simp only at hw ⊢
      have hg := (hguard i o ho).1
      have hwant : ∀ ops' : Array Oper, Region.wanted o (yielded ops' a.tmps) = true := by intro ops'; unfold Region.wanted; rw [hg]
      have hwant' : ∀ ops' : Array Oper, Region.wanted (renOp π o) (yielded ops' a.tmps) = true := by intro ops'; unfold Region.wanted; rw [show (renOp π o).guard = none from hg]
      rw [if_pos (hwant' _)] at hw
      rw [if_pos (hwant _)]
      have hK : ∀ a' w', wpAny P md (permA π ops) Q fuel (L'.setIfInBounds k true) a' w' → wpAny P md ops Q fuel (L.setIfInBounds i true) a' w' := by
        intro a' w' hh
        refine ih _ _ a' w' (by simpa using hL) (by simpa using hL') (fun i2 k2 h2 => ?_) (fun i2 h1 h2 => ?_) hh
        · have hlt2 := hk i2 k2 h2
          rw [Array.getD_eq_getD_getElem?, Array.getD_eq_getD_getElem?, Array.getElem?_setIfInBounds, Array.getElem?_setIfInBounds]
          by_cases e : i = i2
          · subst e
            rw [hik] at h2
            simp only [Option.some.injEq] at h2
            subst h2
            rw [if_pos rfl, if_pos rfl, if_pos (by omega), if_pos (by omega)]
          · have e2 : k ≠ k2 := fun e3 => e (by
              subst e3
              have := hlt2.1
              rw [(hk i k hik).1] at this
              exact Option.some.inj this)
            rw [if_neg e, if_neg e2]
            have := hLL i2 k2 h2
            rwa [Array.getD_eq_getD_getElem?, Array.getD_eq_getD_getElem?] at this
        · have := hLd i2 h1 h2
          rw [Array.getD_eq_getD_getElem?] at this ⊢
          rw [Array.getElem?_setIfInBounds]
          split
          · split
            · rfl
            · rfl
          · exact this
      exact hw.imp (Oper.wp_mono hK) id
theorem T.drawAny {P : Program} {B : Nat} {w0 : World} {fz0 : Nat → Prop} {ops : Array Oper} {ts ts' : List AV} {mem mem' : List Blk} {C : Prop} {Q : Exit → Act → World → Prop} (m : Nat) (kill : List (Nat × Nat)) (hs : List Hint)
    (he : evDraw P m kill ops.toList hs ts mem = some (ts', mem', C)) (hC : C) (hn : X P B w0 fz0 .normal ts' mem' Q) : ∀ G a w, StR B w0 fz0 ts mem G a w → wpAny P .any ops Q ops.size (Array.replicate ops.size false) a { w with drawn := w.drawn + 1 } := by
  intro G a w hst
  unfold evDraw at he
  split at he
  · rename_i t0 m0 C0 hh
    split at he
    · rename_i t2 m2 C2 htail
      simp only [Option.some.injEq, Prod.mk.injEq] at he
      obtain ⟨rfl, rfl, rfl⟩ := he
      have hmn : m ≤ ops.toList.length := by
        unfold evHead at hh
        split at hh
        · split at hh
          · rename_i hchk
            simp only [Bool.and_eq_true, decide_eq_true_eq] at hchk
            exact hchk.1
          · cases hh
        · cases hh
      refine T.headAny m kill hs hh hC.1 (TO.run (ops.toList.drop m) m (hs.drop m) _ _ _ _ _ (List.take_length) htail hC.2 (TO.nil ?_ hn)) G a w hst
      rw [List.length_drop]
      simp only [Array.length_toList] at hmn ⊢
      omega
    · cases he
  · cases he
theorem T.draw {P : Program} {B : Nat} {w0 : World} {fz0 : Nat → Prop} {id : Nat} {ops : Array Oper} {ts ts' : List AV} {mem mem' : List Blk} {C : Prop} {Q : Exit → Act → World → Prop} (hmo : P.follows .mixedOrders = true) (m : Nat) (kill : List (Nat × Nat)) (hs : List Hint)
    (he : evDraw P m kill ops.toList hs ts mem = some (ts', mem', C)) (hC : C) (hn : X P B w0 fz0 .normal ts' mem' Q) : T P B w0 fz0 (.region id ops true) ts mem Q :=
  fun G a w hst => wp_region_any hmo (T.drawAny m kill hs he hC hn G a w hst)
def drR (P : Program) (m : Nat) (kill : List (Nat × Nat)) (ops : Array Oper) (hs : List Hint) (st : St) : St :=
  match st with
  | (ts, mem) =>
    match evDraw P m kill ops.toList hs ts mem with
    | some (t, m, _) => (t, m)
    | none => ([], [])
def drOk (P : Program) (m : Nat) (kill : List (Nat × Nat)) (ops : Array Oper) (hs : List Hint) (st : St) : Prop :=
  match st with
  | (ts, mem) =>
    match evDraw P m kill ops.toList hs ts mem with
    | some (_, _, C) => C
    | none => False
theorem TS.draw {P : Program} {w0 : World} {fz0 : Nat → Prop} {st : St} {Q : Exit → Act → World → Prop} {id : Nat} {ops : Array Oper} (m : Nat) (kill : List (Nat × Nat)) (hs : List Hint) (hmo : P.follows .mixedOrders = true) (hok : drOk P m kill ops hs st) (hn : XS P w0 fz0 .normal (drR P m kill ops hs st) Q) : TS P w0 fz0 (.region id ops true) st Q := by
  obtain ⟨ts, mem⟩ := st
  unfold drOk at hok
  simp only at hok
  cases he : evDraw P m kill ops.toList hs ts mem with
  | none => rw [he] at hok; exact hok.elim
  | some r =>
    obtain ⟨t, mm, C⟩ := r
    rw [he] at hok
    refine T.draw hmo m kill hs he hok ?_
    unfold XS drR at hn
    simp only [he] at hn
    exact hn
theorem TS.drawAny {P : Program} {w0 : World} {fz0 : Nat → Prop} {st : St} {Q : Exit → Act → World → Prop} {ops : Array Oper} (m : Nat) (kill : List (Nat × Nat)) (hs : List Hint) (hok : drOk P m kill ops hs st) (hn : XS P w0 fz0 .normal (drR P m kill ops hs st) Q) : ∀ G a w, StR w0.drawn w0 fz0 st.1 st.2 G a w → wpAny P .any ops Q ops.size (Array.replicate ops.size false) a { w with drawn := w.drawn + 1 } := by
  obtain ⟨ts, mem⟩ := st
  unfold drOk at hok
  simp only at hok
  cases he : evDraw P m kill ops.toList hs ts mem with
  | none => rw [he] at hok; exact hok.elim
  | some r =>
    obtain ⟨t, mm, C⟩ := r
    rw [he] at hok
    refine T.drawAny m kill hs he hok ?_
    unfold XS drR at hn
    simp only [he] at hn
    exact hn
def hdR (P : Program) (m : Nat) (kill : List (Nat × Nat)) (ops : Array Oper) (hs : List Hint) (st : St) : St :=
  match st with
  | (ts, mem) =>
    match evHead P m kill ops.toList hs ts mem with
    | some (t, m, _) => (t, m)
    | none => ([], [])
def hdOk (P : Program) (m : Nat) (kill : List (Nat × Nat)) (ops : Array Oper) (hs : List Hint) (st : St) : Prop :=
  match st with
  | (ts, mem) =>
    match evHead P m kill ops.toList hs ts mem with
    | some (_, _, C) => C
    | none => False
theorem TS.head {P : Program} {w0 : World} {fz0 : Nat → Prop} {st : St} {Q : Exit → Act → World → Prop} {id : Nat} {ops : Array Oper} (m : Nat) (kill : List (Nat × Nat)) (hs : List Hint) (hmo : P.follows .mixedOrders = true) (hok : hdOk P m kill ops hs st) (hn : TO P w0.drawn w0 fz0 ops m (hdR P m kill ops hs st).1 (hdR P m kill ops hs st).2 Q) : TS P w0 fz0 (.region id ops true) st Q := by
  obtain ⟨ts, mem⟩ := st
  unfold hdOk at hok
  simp only at hok
  cases he : evHead P m kill ops.toList hs ts mem with
  | none => rw [he] at hok; exact hok.elim
  | some r =>
    obtain ⟨t, mm, C⟩ := r
    rw [he] at hok
    refine T.head hmo m kill hs he hok ?_
    unfold hdR at hn
    simp only [he] at hn
    exact hn
def freeOp (ops : Array Oper) (i : Nat) : Option (Tmp × IntKind × Int) :=
  match ops[i]? with
  | some o =>
    match o.op, o.dst, o.guard with
    | .move (.const (.int k n)), some d, none => if (Region.noSelect ops && (Region.free .any ops (Array.replicate ops.size false) i && (Region.ready .any ops (Array.replicate ops.size false)).contains i)) = true then some (d, k, n) else none
    | _, _, _ => none
  | none => none
def subOk (π : List Nat) (ops : Array Oper) (i : Nat) : Bool := permOkB π ops && (decide (π.length + 1 = ops.size) && ((findIx π i).isNone && (List.range ops.size).all fun j => j == i || (findIx π j).isSome))
def freeSt (ops : Array Oper) (i : Nat) (st : St) : St :=
  match freeOp ops i with
  | some (d, k, n) => (tput st.1 (some d) (.int k n), st.2)
  | none => st
theorem TS.drawF {P : Program} {w0 : World} {fz0 : Nat → Prop} {st : St} {Q : Exit → Act → World → Prop} {id : Nat} {ops : Array Oper} (i : Nat) (π : List Nat) (m : Nat) (kill : List (Nat × Nat)) (hs : List Hint) (hmo : P.follows .mixedOrders = true) (hf : (freeOp ops i).isSome = true) (hp : subOk π ops i = true)
    (hok : drOk P m kill (permA π ops) hs (freeSt ops i st)) (hn : XS P w0 fz0 .normal (drR P m kill (permA π ops) hs (freeSt ops i st)) Q) : TS P w0 fz0 (.region id ops true) st Q := by
  obtain ⟨⟨d, k, n⟩, hf⟩ := Option.isSome_iff_exists.1 hf
  have hst1 : freeSt ops i st = (tput st.1 (some d) (.int k n), st.2) := by unfold freeSt; rw [hf]
  rw [hst1] at hok hn
  simp only [subOk, Bool.and_eq_true, decide_eq_true_eq] at hp
  obtain ⟨hp, hlen, hnone, hcov⟩ := hp
  rw [List.all_eq_true] at hcov
  obtain ⟨ts, mem⟩ := st
  intro G a w hst
  let Q' : Exit → Act → World → Prop := fun e a w => match e with | .panic _ => False | e => Q e a w
  have hQ : ∀ e a w, Q' e a w → Q e a w := by
    intro e a w h
    cases e <;> first | exact h | exact h.elim
  refine wp_mono (Q := Q') ?_ hQ
  refine wp_region_any hmo ?_
  unfold freeOp at hf
  split at hf
  · rename_i o ho
    split at hf
    · rename_i k' n' d' hop hdst hgd
      split at hf
      · rename_i hchk
        simp only [Option.some.injEq, Prod.mk.injEq] at hf
        obtain ⟨rfl, rfl, rfl⟩ := hf
        simp only [Bool.and_eq_true] at hchk
        obtain ⟨hsel, hfr, hrd⟩ := hchk
        have hi : i < ops.size := (Array.getElem?_eq_some_iff.1 ho).1
        have hsz : (permA π ops).size = π.length := by
          simp only [permOkB, Bool.and_eq_true] at hp
          obtain ⟨_, hlt, _⟩ := hp
          rw [List.all_eq_true] at hlt
          unfold permA
          rw [List.size_toArray, (filterMap_all _ π (fun x hx => by
            have : x < ops.size := by simpa using hlt x hx
            simp [Array.getElem?_eq_getElem this])).1]
        have hst' : StR w0.drawn w0 fz0 (tput ts (some d') (.int k' n')) mem G (a.put (some d') (.int k' n')) w :=
          ⟨tput_refs hst.rt (Nat.le_refl _) (by simp [AV.refs]), hst.rm, hst.tmps.put _ rfl, hst.mem, hst.below, by rw [put_defers]; exact hst.defers, hst.fz1, hst.fz2⟩
        have hrest := TS.drawAny (Q := Q') m kill hs hok (fun G a w h => hn G a w h) G (a.put (some d') (.int k' n')) w hst'
        rw [hsz] at hrest
        have hfuel : ops.size = π.length + 1 := hlen.symm
        rw [show ∀ L, wpAny P .any ops Q' ops.size L a { w with drawn := w.drawn + 1 } = wpAny P .any ops Q' (π.length + 1) L a { w with drawn := w.drawn + 1 } by intro L; rw [hfuel]]
        refine wpAny_take (v := .int k' n') ho hsel hfr hrd (fun _ _ _ h => h) (.inl ⟨by unfold Region.wanted; rw [hgd], fun w => by simp [execOp, hop, Act.eval]⟩) ?_
        rw [hdst]
        refine wpAny_sub hp π.length _ _ _ _ (by simp) (by simp) (fun j q hjq => ?_) (fun j hj hjn => ?_) hrest
        · have h1 := findIx_some π j q hjq
          have hq : q < π.length := (List.getElem?_eq_some_iff.1 h1).1
          simp only [permOkB, Bool.and_eq_true] at hp
          obtain ⟨_, hlt, _⟩ := hp
          rw [List.all_eq_true] at hlt
          have hj : j < ops.size := by simpa using hlt j (List.mem_of_getElem? h1)
          have hji : i ≠ j := by
            intro e; subst e
            rw [hjq] at hnone; cases hnone
          rw [Array.getD_eq_getD_getElem?, Array.getD_eq_getD_getElem?, Array.getElem?_setIfInBounds, if_neg hji, Array.getElem?_replicate, Array.getElem?_replicate, if_pos hj, if_pos hq]
        · have := hcov j (List.mem_range.2 hj)
          rw [hjn] at this
          simp only [Option.isSome_none, Bool.or_false, beq_iff_eq] at this
          subst this
          rw [Array.getD_eq_getD_getElem?, Array.getElem?_setIfInBounds, if_pos rfl]
          split <;> rfl
      · cases hf
    · cases hf
  · cases hf
def AV.nilTo (x : AV) : AV → List Bool → AV
 | .st a, p => .st (AV.nilTo x a p)
 | .cons a b, p =>
  match p with
  | false :: q => .cons (AV.nilTo x a q) b
  | true :: q => .cons a (AV.nilTo x b q)
  | [] => .cons a b
 | .pv c, p => .pv (AV.nilTo x c p)
 | .nilS, _ => x
 | a, _ => a
theorem nilTo_cells {w : World} {G G' : Gh} {x : AV} {n : Nat} (hk : Keeps G.fz G'.fz w w) (ha : ∀ r, r < n → Agree G G' r) (hx : CellsR w G' x [.slice none 0 0]) (a : AV) : ∀ (p : List Bool) (cs : List Value), (∀ r ∈ a.refs, r < n) → CellsR w G a cs → CellsR w G' (AV.nilTo x a p) cs := by
 induction a with
 | st a ih => intro p cs hr h; exact ih p cs hr h
 | cons a b iha ihb =>
  intro p cs hr h
  obtain ⟨c1, c2, e, h1, h2⟩ := h
  have ra : ∀ r ∈ a.refs, r < n := fun r hh => hr r (by simp [AV.refs, hh])
  have rb : ∀ r ∈ b.refs, r < n := fun r hh => hr r (by simp [AV.refs, hh])
  cases p with
  | nil => exact ⟨c1, c2, e, CellsR.keep hk a c1 (fun r hh => ha r (ra r hh)) h1, CellsR.keep hk b c2 (fun r hh => ha r (rb r hh)) h2⟩
  | cons y q =>
   cases y
   ·exact ⟨c1, c2, e, iha q c1 ra h1, CellsR.keep hk b c2 (fun r hh => ha r (rb r hh)) h2⟩
   ·exact ⟨c1, c2, e, CellsR.keep hk a c1 (fun r hh => ha r (ra r hh)) h1, ihb q c2 rb h2⟩
 | nilS =>
  intro p cs hr h
  have e : cs = [.slice none 0 0] := h
  rw [e]; exact hx
 | pv c ih =>
  intro p cs hr h
  obtain ⟨b, off, e, hf, hb, cells, hc, hcell⟩ := h
  exact ⟨b, off, e, hk.fz b hf, hb, cells, ih p cells hr hc, hcell⟩
 | _ => intro p cs hr h; exact CellsR.keep hk _ cs (fun r hh => ha r (hr r hh)) h
theorem nilTo_val {w : World} {G G' : Gh} {x : AV} {n : Nat} (hk : Keeps G.fz G'.fz w w) (ha : ∀ r, r < n → Agree G G' r) (hx : CellsR w G' x [.slice none 0 0]) (hxf : x.flat = true) (a : AV) (p : List Bool) (v : Value) (hr : ∀ r ∈ a.refs, r < n) (h : ValR w G a v) : ValR w G' (AV.nilTo x a p) v := by
 cases a with
 | st a => obtain ⟨cs, e, h1⟩ := h; exact ⟨cs, e, nilTo_cells hk ha hx a p _ hr h1⟩
 | cons a b =>
  have := nilTo_cells hk ha hx (.cons a b) p [v] hr h
  simp only [AV.nilTo] at this ⊢
  split at this <;> exact this
 | nilS =>
  have e : [v] = [Value.slice none 0 0] := h
  exact ValR_flat hxf (by rw [e]; exact hx)
 | pv c => exact nilTo_cells hk ha hx (.pv c) p [v] hr h
 | _ => exact ValR.keep hk _ v (fun r hh => ha r (hr r hh)) h
theorem nilTo_refs {x : AV} {r : Nat} (a : AV) : ∀ p, r ∈ (AV.nilTo x a p).refs → r ∈ x.refs ∨ r ∈ a.refs := by
 induction a with
 | st a ih => intro p h; exact ih p h
 | cons a b iha ihb =>
  intro p h
  cases p with
  | nil => exact .inr h
  | cons y q =>
   cases y
   ·rcases List.mem_append.1 (show r ∈ (AV.nilTo x a q).refs ++ b.refs from h) with h | h
    ·rcases iha q h with h | h
     ·exact .inl h
     ·exact .inr (List.mem_append.2 (.inl h))
    ·exact .inr (List.mem_append.2 (.inr h))
   ·rcases List.mem_append.1 (show r ∈ a.refs ++ (AV.nilTo x b q).refs from h) with h | h
    ·exact .inr (List.mem_append.2 (.inl h))
    ·rcases ihb q h with h | h
     ·exact .inl h
     ·exact .inr (List.mem_append.2 (.inr h))
 | nilS => intro p h; exact .inl h
 | pv c ih => intro p h; exact ih p h
 | _ => intro p h; exact .inr h
def Blk.nilTo (x : AV) (p : List Bool) : Blk → Blk
 | .box t c => .box t (AV.nilTo x c p)
 | .rowl t e l (some (z, c)) => .rowl t e l (some (z, AV.nilTo x c p))
 | b => b
def putNil (x : AV) (box : Bool) (i : Nat) (p : List Bool) (st : St) : St :=
 match box with
 | false => (st.1.set i (AV.nilTo x (st.1.getD i .unk) p), st.2)
 | true => (st.1, st.2.set i (Blk.nilTo x p (lk st.2 i)))
theorem MemR.seen {B : Nat} {w : World} {G : Gh} {mem : List Blk} {i : Nat} {t : TypeId} {c c' : AV} (hm : MemR B w G mem) (hl : lk mem i = .box t c) (h : ∀ cs, CellsR w G c cs → CellsR w G c' cs) : MemR B w G (mem.set i (.box t c')) := by
 have hb := hm.blk i
 rw [hl] at hb
 obtain ⟨h0, cs, h1, h2⟩ := hb
 exact (hm.write (x := .box t c') (g := (G.addr i).block) (by rw [hl]; rfl) rfl (fun _ _ => rfl) ⟨h0, cs, h1, h cs h2⟩ rfl).1
theorem MemR.seenL {B : Nat} {w : World} {G : Gh} {mem : List Blk} {i : Nat} {t : TypeId} {e : Sh} {l : List e.T} {z : Bool} {c c' : AV} (hm : MemR B w G mem) (hl : lk mem i = .rowl t e l (some (z, c))) (h : ∀ cs, CellsR w G c cs → CellsR w G c' cs) : MemR B w G (mem.set i (.rowl t e l (some (z, c')))) := by
 have hb := hm.blk i
 rw [hl] at hb
 obtain ⟨h0, c1, c2, h1, h2, h3⟩ := hb
 have hnew : BlkR B w G i (.rowl t e l (some (z, c'))) := ⟨h0, c1, c2, h1, h2, fun hz => h c2 (h3.1 hz), h3.2⟩
 have hlv : ∀ j, (lk (mem.set i (.rowl t e l (some (z, c')))) j).live G j = (lk mem j).live G j := by
  intro j
  rw [lk_set]
  split
  ·rename_i hh; obtain ⟨rfl, _⟩ := hh; rw [hl]; rfl
  ·rfl
 refine ⟨fun j => ?_, fun j k x hjk hj hk => ?_, fun j x hj => ?_, hm.fz, hm.base⟩
 ·rw [lk_set]
  split
  ·rename_i hh; obtain ⟨rfl, _⟩ := hh; exact hnew
  ·exact hm.blk j
 ·rw [hlv] at hj hk; exact hm.apart j k x hjk hj hk
 ·rw [hlv] at hj; exact hm.own j x hj
theorem getD_set {l : List AV} {i t : Nat} {x : AV} : (l.set i x).getD t .unk = if t = i ∧ i < l.length then x else l.getD t .unk := by
 simp only [List.getD_eq_getElem?_getD, List.getElem?_set]
 by_cases h : i = t
 ·subst h
  by_cases hlt : i < l.length
  ·simp [hlt]
  ·simp [hlt]
 ·have h' : ¬ t = i := fun e => h e.symm
  simp [h, h']
theorem putNil_ok {B : Nat} {w0 : World} {fz0 : Nat → Prop} {st : St} {G : Gh} {a : Act} {w : World} {x : AV} (hs : StR B w0 fz0 st.1 st.2 G a w) (hx : CellsR w G x [.slice none 0 0]) (hxf : x.flat = true) (hxr : ∀ r ∈ x.refs, r < st.2.length) (box : Bool) (i : Nat) (p : List Bool) : StR B w0 fz0 (putNil x box i p st).1 (putNil x box i p st).2 G a w := by
 have hk : Keeps G.fz G.fz w w := ⟨Nat.le_refl _, fun _ _ _ => rfl, fun _ h => h⟩
 cases box with
 | false =>
  refine ⟨fun t r hr => ?_, hs.rm, ⟨by simp only [putNil, List.length_set]; exact hs.tmps.size, fun t => ?_⟩, hs.mem, hs.below, hs.defers, hs.fz1, hs.fz2⟩
  ·simp only [putNil] at hr ⊢
   rw [getD_set] at hr
   split at hr
   ·rcases nilTo_refs _ p hr with h | h
    ·exact hxr r h
    ·exact hs.rt i r h
   ·exact hs.rt t r hr
  ·simp only [putNil]
   rw [getD_set]
   split
   ·rename_i h
    obtain ⟨rfl, _⟩ := h
    exact nilTo_val hk (fun _ _ => ⟨rfl, rfl⟩) hx hxf _ p _ (hs.rt t) (hs.tmps.val t)
   ·exact hs.tmps.val t
 | true =>
  cases hb : lk st.2 i with
  | box t c =>
   have e : (putNil x true i p st) = (st.1, st.2.set i (.box t (AV.nilTo x c p))) := by simp only [putNil, hb, Blk.nilTo]
   rw [e]
   have hrc : ∀ r ∈ c.refs, r < st.2.length := fun r hr => hs.rm i r (by rw [hb]; exact hr)
   refine ⟨fun t r hr => by rw [List.length_set]; exact hs.rt t r hr, fun j r hr => ?_, hs.tmps, hs.mem.seen hb (fun cs h => nilTo_cells hk (fun _ _ => ⟨rfl, rfl⟩) hx c p cs hrc h), hs.below, hs.defers, hs.fz1, hs.fz2⟩
   rw [List.length_set]
   simp only [lk_set] at hr
   split at hr
   ·rcases nilTo_refs c p hr with h | h
    ·exact hxr r h
    ·exact hrc r h
   ·exact hs.rm j r hr
  | rowl t e0 l0 y =>
   rcases y with _ | ⟨z, c⟩
   ·have e2 : ∀ j, lk (putNil x true i p st).2 j = lk st.2 j := by
     intro j
     simp only [putNil, hb, Blk.nilTo]
     rw [lk_set]
     split
     ·rename_i h; rw [h.1, hb]
     ·rfl
    have el : (putNil x true i p st).2.length = st.2.length := by simp [putNil]
    exact ⟨fun t r hr => by rw [el]; exact hs.rt t r hr, fun j r hr => by rw [el]; rw [e2] at hr; exact hs.rm j r hr, hs.tmps, hs.mem.congr (fun j => .inl (e2 j)), hs.below, hs.defers, hs.fz1, hs.fz2⟩
   ·have e : (putNil x true i p st) = (st.1, st.2.set i (.rowl t e0 l0 (some (z, AV.nilTo x c p)))) := by simp only [putNil, hb, Blk.nilTo]
    rw [e]
    have hrc : ∀ r ∈ c.refs, r < st.2.length := fun r hr => hs.rm i r (by rw [hb]; exact hr)
    refine ⟨fun t r hr => by rw [List.length_set]; exact hs.rt t r hr, fun j r hr => ?_, hs.tmps, hs.mem.seenL hb (fun cs h => nilTo_cells hk (fun _ _ => ⟨rfl, rfl⟩) hx c p cs hrc h), hs.below, hs.defers, hs.fz1, hs.fz2⟩
    rw [List.length_set]
    simp only [lk_set] at hr
    split at hr
    ·rcases nilTo_refs c p hr with h | h
     ·exact hxr r h
     ·exact hrc r h
    ·exact hs.rm j r hr
  | _ =>
   have e : (putNil x true i p st).2 = st.2 ∨ True := .inr trivial
   have e2 : ∀ j, lk (putNil x true i p st).2 j = lk st.2 j := by
    intro j
    simp only [putNil, hb, Blk.nilTo]
    rw [lk_set]
    split
    ·rename_i h; rw [h.1, hb]
    ·rfl
   have el : (putNil x true i p st).2.length = st.2.length := by simp [putNil]
   exact ⟨fun t r hr => by rw [el]; exact hs.rt t r hr, fun j r hr => by rw [el]; rw [e2] at hr; exact hs.rm j r hr, hs.tmps, hs.mem.congr (fun j => .inl (e2 j)), hs.below, hs.defers, hs.fz1, hs.fz2⟩
def ifcTo (k : Option (TypeId × Sh)) : AV → AV
 | .opq b =>
  match k, b with
  | some (t, e), false => .ifc t e e.dflt false
  | _, _ => .opq b
 | .ifc t e x b =>
  match k with
  | none => .opq b
  | some _ => .ifc t e x b
 | a => a
def AV.atI (k : Option (TypeId × Sh)) : AV → List Bool → AV
 | .st a, p => .st (AV.atI k a p)
 | .tup a, p => .tup (AV.atI k a p)
 | .cons a b, p =>
  match p with
  | false :: q => .cons (AV.atI k a q) b
  | true :: q => .cons a (AV.atI k b q)
  | [] => .cons a b
 | .opq b, _ => ifcTo k (.opq b)
 | .ifc t e x b, _ => ifcTo k (.ifc t e x b)
 | a, _ => a
theorem ifcTo_cells {w : World} {G : Gh} (k : Option (TypeId × Sh)) (a : AV) (cs : List Value) (h : CellsR w G a cs) : CellsR w G (ifcTo k a) cs := by
 cases a with
 | opq b =>
  cases k with
  | none => exact h
  | some y =>
   obtain ⟨t, e⟩ := y
   cases b with
   | true => exact h
   | false => exact ⟨fun hh => (by cases hh), fun _ => h.2 rfl⟩
 | ifc t e x b =>
  cases k with
  | some _ => exact h
  | none =>
   refine ⟨fun hb => ?_, fun hb => h.2 hb⟩
   obtain ⟨v, h1, _⟩ := h.1 hb
   exact ⟨t, v, h1⟩
 | _ => exact h
theorem atI_cells {w : World} {G : Gh} (k : Option (TypeId × Sh)) (a : AV) : ∀ (p : List Bool) (cs : List Value), CellsR w G a cs → CellsR w G (AV.atI k a p) cs := by
 induction a with
 | st a ih => intro p cs h; exact ih p cs h
 | cons a b iha ihb =>
  intro p cs h
  obtain ⟨c1, c2, e, h1, h2⟩ := h
  cases p with
  | nil => exact ⟨c1, c2, e, h1, h2⟩
  | cons y q =>
   cases y
   ·exact ⟨c1, c2, e, iha q c1 h1, h2⟩
   ·exact ⟨c1, c2, e, h1, ihb q c2 h2⟩
 | opq b => intro p cs h; exact ifcTo_cells k _ cs h
 | ifc t e x b => intro p cs h; exact ifcTo_cells k _ cs h
 | tup a ih => intro p cs h; exact h.elim
 | _ => intro p cs h; exact h
theorem ifcTo_flat (k : Option (TypeId × Sh)) (b : Bool) : ∃ c, (ifcTo k (.opq b) = .opq c) ∨ ∃ t e x, ifcTo k (.opq b) = .ifc t e x c := by
 cases k with
 | none => exact ⟨b, .inl rfl⟩
 | some y =>
  obtain ⟨t, e⟩ := y
  cases b with
  | true => exact ⟨true, .inl rfl⟩
  | false => exact ⟨false, .inr ⟨t, e, e.dflt, rfl⟩⟩
theorem atI_val0 {w : World} {G : Gh} (k : Option (TypeId × Sh)) (a : AV) (p : List Bool) (v : Value) (h : ValR0 w G a v) : ValR0 w G (AV.atI k a p) v := by
 cases a with
 | st a => obtain ⟨cs, e, h1⟩ := h; exact ⟨cs, e, atI_cells k a p _ h1⟩
 | cons a b =>
  have := atI_cells k (.cons a b) p [v] h
  simp only [AV.atI] at this ⊢
  split at this <;> exact this
 | opq b =>
  have h1 := ifcTo_cells (w := w) (G := G) k (.opq b) [v] h
  show ValR0 w G (ifcTo k (.opq b)) v
  obtain ⟨c, h2 | ⟨t, e, x, h2⟩⟩ := ifcTo_flat k b
  ·rw [h2] at h1 ⊢; exact h1
  ·rw [h2] at h1 ⊢; exact h1
 | ifc t e x b =>
  have h1 := ifcTo_cells (w := w) (G := G) k (.ifc t e x b) [v] h
  show ValR0 w G (ifcTo k (.ifc t e x b)) v
  cases k <;> exact h1
 | tup a => exact h.elim
 | _ => exact h
theorem atI_vals {w : World} {G : Gh} (k : Option (TypeId × Sh)) : ∀ (a : AV) (p : List Bool) (vs : List Value), ValsR w G a vs → ValsR w G (AV.atI k a p) vs
 | .nil, p, vs, h => h
 | .cons a b, p, vs, h => by
  obtain ⟨v, t, e, h1, h2⟩ := h
  cases p with
  | nil => exact ⟨v, t, e, h1, h2⟩
  | cons y q =>
   cases y
   ·exact ⟨v, t, e, atI_val0 k a q v h1, h2⟩
   ·exact ⟨v, t, e, h1, atI_vals k b q t h2⟩
 | .unk, _, _, h | .int .., _, _, h | .bool .., _, _, h | .str .., _, _, h | .st .., _, _, h | .arr .., _, _, h | .sl .., _, _, h | .nilS, _, _, h | .row .., _, _, h | .ptr .., _, _, h | .slf .., _, _, h | .nilP, _, _, h | .fn .., _, _, h | .tup .., _, _, h | .emp, _, _, h | .pv .., _, _, h | .sub .., _, _, h | .mp .., _, _, h | .ifc .., _, _, h | .opq .., _, _, h => h.elim
theorem atI_val {w : World} {G : Gh} (k : Option (TypeId × Sh)) (a : AV) (p : List Bool) (v : Value) (h : ValR w G a v) : ValR w G (AV.atI k a p) v := by
 cases a with
 | st a => obtain ⟨cs, e, h1⟩ := h; exact ⟨cs, e, atI_cells k a p _ h1⟩
 | cons a b =>
  have := atI_cells k (.cons a b) p [v] h
  simp only [AV.atI] at this ⊢
  split at this <;> exact this
 | opq b =>
  have h1 := ifcTo_cells (w := w) (G := G) k (.opq b) [v] h
  show ValR w G (ifcTo k (.opq b)) v
  obtain ⟨c, h2 | ⟨t, e, x, h2⟩⟩ := ifcTo_flat k b
  ·rw [h2] at h1 ⊢; exact h1
  ·rw [h2] at h1 ⊢; exact h1
 | ifc t e x b =>
  have h1 := ifcTo_cells (w := w) (G := G) k (.ifc t e x b) [v] h
  show ValR w G (ifcTo k (.ifc t e x b)) v
  cases k <;> exact h1
 | tup a => obtain ⟨vs, e, h1⟩ := h; exact ⟨vs, e, atI_vals k a p _ h1⟩
 | _ => exact h
theorem ifcTo_refs (k : Option (TypeId × Sh)) (b : Bool) : (ifcTo k (.opq b)).refs = [] := by
 obtain ⟨c, h2 | ⟨t, e, x, h2⟩⟩ := ifcTo_flat k b <;> rw [h2] <;> rfl
theorem atI_refs {k : Option (TypeId × Sh)} {r : Nat} (a : AV) : ∀ p, r ∈ (AV.atI k a p).refs → r ∈ a.refs := by
 induction a with
 | st a ih => intro p h; exact ih p h
 | tup a ih => intro p h; exact ih p h
 | cons a b iha ihb =>
  intro p h
  cases p with
  | nil => exact h
  | cons y q =>
   cases y
   ·rcases List.mem_append.1 (show r ∈ (AV.atI k a q).refs ++ b.refs from h) with h | h
    ·exact List.mem_append.2 (.inl (iha q h))
    ·exact List.mem_append.2 (.inr h)
   ·rcases List.mem_append.1 (show r ∈ a.refs ++ (AV.atI k b q).refs from h) with h | h
    ·exact List.mem_append.2 (.inl h)
    ·exact List.mem_append.2 (.inr (ihb q h))
 | opq b =>
  intro p h
  have h' : r ∈ (ifcTo k (.opq b)).refs := h
  rw [ifcTo_refs] at h'; cases h'
 | ifc t e x b =>
  intro p h
  have h' : r ∈ (ifcTo k (.ifc t e x b)).refs := h
  cases k <;> cases h'
 | _ => intro p h; exact h
def Blk.atI (k : Option (TypeId × Sh)) (p : List Bool) : Blk → Blk
 | .box t c => .box t (AV.atI k c p)
 | b => b
def putI (k : Option (TypeId × Sh)) (box : Bool) (i : Nat) (p : List Bool) (st : St) : St :=
 match box with
 | false => (st.1.set i (AV.atI k (st.1.getD i .unk) p), st.2)
 | true => (st.1, st.2.set i (Blk.atI k p (lk st.2 i)))
theorem putI_ok {B : Nat} {w0 : World} {fz0 : Nat → Prop} {st : St} {G : Gh} {a : Act} {w : World} (hs : StR B w0 fz0 st.1 st.2 G a w) (k : Option (TypeId × Sh)) (box : Bool) (i : Nat) (p : List Bool) : StR B w0 fz0 (putI k box i p st).1 (putI k box i p st).2 G a w := by
 cases box with
 | false =>
  refine ⟨fun t r hr => ?_, hs.rm, ⟨by simp only [putI, List.length_set]; exact hs.tmps.size, fun t => ?_⟩, hs.mem, hs.below, hs.defers, hs.fz1, hs.fz2⟩
  ·simp only [putI] at hr ⊢
   rw [getD_set] at hr
   split at hr
   ·exact hs.rt i r (atI_refs _ p hr)
   ·exact hs.rt t r hr
  ·simp only [putI]
   rw [getD_set]
   split
   ·rename_i h
    obtain ⟨rfl, _⟩ := h
    exact atI_val k _ p _ (hs.tmps.val t)
   ·exact hs.tmps.val t
 | true =>
  cases hb : lk st.2 i with
  | box t c =>
   have e : (putI k true i p st) = (st.1, st.2.set i (.box t (AV.atI k c p))) := by simp only [putI, hb, Blk.atI]
   rw [e]
   have hrc : ∀ r ∈ c.refs, r < st.2.length := fun r hr => hs.rm i r (by rw [hb]; exact hr)
   refine ⟨fun t r hr => by rw [List.length_set]; exact hs.rt t r hr, fun j r hr => ?_, hs.tmps, hs.mem.seen hb (fun cs h => atI_cells k c p cs h), hs.below, hs.defers, hs.fz1, hs.fz2⟩
   rw [List.length_set]
   simp only [lk_set] at hr
   split at hr
   ·exact hrc r (atI_refs c p hr)
   ·exact hs.rm j r hr
  | _ =>
   have e2 : ∀ j, lk (putI k true i p st).2 j = lk st.2 j := by
    intro j
    simp only [putI, hb, Blk.atI]
    rw [lk_set]
    split
    ·rename_i h; rw [h.1, hb]
    ·rfl
   have el : (putI k true i p st).2.length = st.2.length := by simp [putI]
   exact ⟨fun t r hr => by rw [el]; exact hs.rt t r hr, fun j r hr => by rw [el]; rw [e2] at hr; exact hs.rm j r hr, hs.tmps, hs.mem.congr (fun j => .inl (e2 j)), hs.below, hs.defers, hs.fz1, hs.fz2⟩
theorem addRow_ok {B : Nat} {w0 : World} {fz0 : Nat → Prop} {st : St} {G : Gh} {a : Act} {w : World} (hs : StR B w0 fz0 st.1 st.2 G a w) (T : TypeId) (e : Sh) :
  ∃ G', StR B w0 fz0 st.1 (st.2 ++ [.row T e []]) G' a w ∧ G'.rowv st.2.length = .slice none 0 0 := by
 let G' : Gh := { G with rowv := fun b => if b = st.2.length then .slice none 0 0 else G.rowv b }
 have hrow : G'.rowv st.2.length = .slice none 0 0 := by show (if st.2.length = st.2.length then _ else _) = _; rw [if_pos rfl]
 have hN : NewR w w G G' st.2.length [.row T e []] := by
  refine ⟨Below.refl _ _, fun i hi => ⟨rfl, ?_⟩, fun _ h => h, fun _ h => .inl h, fun j => ?_, fun j k x hjk h => ?_, fun j x h => ?_⟩
  ·show (if i = st.2.length then _ else _) = _
   rw [if_neg (by simp at hi; omega)]
  ·cases j with
   | zero =>
    refine ⟨fun g hg => ?_, [], .inl ⟨rfl, rfl, none, by rw [Nat.add_zero]; exact hrow⟩, rfl⟩
    rw [Nat.add_zero, hrow] at hg; cases hg
   | succ j => trivial
  ·cases j with
   | zero => simp only [Nat.add_zero, lk, List.getD_cons_zero, Blk.live, hrow] at h; cases h
   | succ j => cases h
  ·cases j with
   | zero => simp only [Nat.add_zero, lk, List.getD_cons_zero, Blk.live, hrow] at h; cases h
   | succ j => cases h
 have hm := hs.mem.more hN (fun i h1 _ => lk_big h1) (fun i r hr => .inl (hs.rm i r hr))
 rw [memPut_end] at hm
 refine ⟨G', ⟨fun t r hr => by have := hs.rt t r hr; simp; omega, fun i r hr => ?_, hs.tmps.keep hN.keeps (fun t r hr => hN.agree r (.inl (hs.rt t r hr))), hm, hs.below, hs.defers, hs.fz1, hs.fz2⟩, hrow⟩
 have hr' : r ∈ (lk (memPut st.2 st.2.length [.row T e []]) i).refs := by rw [memPut_end]; exact hr
 rw [lk_memPut] at hr'
 split at hr'
 ·rename_i h
  have : i - st.2.length = 0 := by simp at h; omega
  rw [this] at hr'; cases hr'
 ·have := hs.rm i r hr'; simp; omega
theorem addBuf_ok {B : Nat} {w0 : World} {fz0 : Nat → Prop} {st : St} {G : Gh} {a : Act} {w : World} (hs : StR B w0 fz0 st.1 st.2 G a w) (T : TypeId) (e : Sh) :
  ∃ G', StR B w0 fz0 st.1 (st.2 ++ [.bbuf T e []]) G' a w ∧ G'.rowv st.2.length = .slice none 0 0 := by
 obtain ⟨G', h1, h2⟩ := addRow_ok hs T e
 have k : ∀ (x : Blk) (i : Nat), lk (st.2 ++ [x]) i = if i = st.2.length then x else lk st.2 i := by
  intro x i
  rw [← memPut_end, lk_memPut]
  by_cases h : i = st.2.length
  ·subst h; rw [if_pos (by simp), if_pos rfl, Nat.sub_self]; rfl
  ·rw [if_neg (by simp; omega), if_neg h]
 refine ⟨G', ⟨fun t r hr => by have := h1.rt t r hr; simpa using this, fun i r hr => ?_, h1.tmps, ?_, h1.below, h1.defers, h1.fz1, h1.fz2⟩, h2⟩
 ·rw [k] at hr
  split at hr
  ·cases hr
  ·have := hs.rm i r hr; simp; omega
 ·exact h1.mem.swapB (r := st.2.length) (fun i hi => by rw [k, k, if_neg hi, if_neg hi]) (by rw [k, if_pos rfl]) (by rw [k, if_pos rfl]) (by rw [h2]; intro x n h; cases h)
def AV.frz (r : Nat) (e : Sh) (l : List e.T) : AV → AV
 | .st a => .st (a.frz r e l)
 | .cons a b => .cons (a.frz r e l) (b.frz r e l)
 | .fn f c => .fn f (c.frz r e l)
 | .tup a => .tup (a.frz r e l)
 | .pv c => .pv (c.frz r e l)
 | .row k => if k = r then .sl e l else .row k
 | .sub k size lo n => if k = r then (if size = e.size then .sl e ((l.take (lo + n)).drop lo) else .unk) else .sub k size lo n
 | .ptr b p => if b = r then .unk else .ptr b p
 | .slf b z => if b = r then .unk else .slf b z
 | a => a
def Blk.frz (r : Nat) (e : Sh) (l : List e.T) : Blk → Blk
 | .box t c => .box t (c.frz r e l)
 | .sav ts a => .sav (ts.map (AV.frz r e l)) a
 | .rowl t e' l' (some (z, c)) => .rowl t e' l' (some (z, c.frz r e l))
 | b => b
section
variable {w : World} {G : Gh} {r : Nat} {e : Sh} {l : List e.T} {fz' : Nat → Prop}
theorem frz_cells (hk : Keeps G.fz fz' w w) (hrow : ShR w fz' (.sl e) l [G.rowv r]) (a : AV) : ∀ cs, CellsR w G a cs → CellsR w { G with fz := fz' } (a.frz r e l) cs := by
 induction a with
 | st a ih => intro cs h; exact ih cs h
 | cons a b iha ihb => intro cs h; obtain ⟨c1, c2, e, h1, h2⟩ := h; exact ⟨c1, c2, e, iha c1 h1, ihb c2 h2⟩
 | fn f c ih => intro cs h; obtain ⟨vs, e, h1⟩ := h; exact ⟨vs, e, ih vs h1⟩
 | tup a ih => intro cs h; exact h.elim
 | pv c ih => intro cs h; obtain ⟨b, off, e, hf, hb, cells, hc, hx⟩ := h; exact ⟨b, off, e, hk.fz b hf, hb, cells, ih cells hc, hx⟩
 | row k =>
  intro cs h
  simp only [AV.frz]
  split
  ·rename_i hkr
   subst hkr
   obtain ⟨rfl, _⟩ := h
   exact hrow
  ·exact h
 | sub k size lo n =>
  intro cs h
  simp only [AV.frz]
  obtain ⟨v, h1, h2⟩ := h
  split
  ·rename_i hkr
   subst hkr
   split
   ·rename_i hz
    subst hz
    rw [h1]
    exact hrow.subv h2
   ·exact ⟨_, h1, h2.one⟩
  ·exact ⟨v, h1, h2⟩
 | ptr b p =>
  intro cs h
  simp only [AV.frz]
  split
  ·exact ⟨_, h, rfl⟩
  ·exact h
 | slf b z =>
  intro cs h
  simp only [AV.frz]
  split
  ·exact ⟨_, h, rfl⟩
  ·exact h
 | _ => intro cs h; exact CellsR.keep (G := G) (G' := { G with fz := fz' }) hk _ cs (fun _ hh => ⟨rfl, rfl⟩) h
theorem frz_val0 (hk : Keeps G.fz fz' w w) (hrow : ShR w fz' (.sl e) l [G.rowv r]) (a : AV) (v : Value) (h : ValR0 w G a v) : ValR0 w { G with fz := fz' } (a.frz r e l) v := by
 cases a with
 | st a => obtain ⟨cs, e1, h1⟩ := h; exact ⟨cs, e1, frz_cells hk hrow a _ h1⟩
 | arr n e2 l2 => obtain ⟨cs, e1, h1⟩ := h; exact ⟨cs, e1, ShR.keep hk _ _ _ h1⟩
 | unk => trivial
 | row k =>
  have := frz_cells hk hrow (.row k) [v] h
  simp only [AV.frz] at this ⊢
  split at this
  ·rename_i hh; rw [if_pos hh]; exact this
  ·rename_i hh; rw [if_neg hh]; exact this
 | sub k size lo n =>
  have := frz_cells hk hrow (.sub k size lo n) [v] h
  simp only [AV.frz] at this ⊢
  split at this
  ·rename_i hh
   rw [if_pos hh]
   split at this
   ·rename_i hz; rw [if_pos hz]; exact this
   ·rename_i hz; rw [if_neg hz]; trivial
  ·rename_i hh; rw [if_neg hh]; exact this
 | ptr b p =>
  have := frz_cells hk hrow (.ptr b p) [v] h
  simp only [AV.frz] at this ⊢
  split at this
  ·rename_i hh; rw [if_pos hh]; trivial
  ·rename_i hh; rw [if_neg hh]; exact this
 | slf b z =>
  have := frz_cells hk hrow (.slf b z) [v] h
  simp only [AV.frz] at this ⊢
  split at this
  ·rename_i hh; rw [if_pos hh]; trivial
  ·rename_i hh; rw [if_neg hh]; exact this
 | _ => exact frz_cells hk hrow _ [v] h
theorem frz_vals (hk : Keeps G.fz fz' w w) (hrow : ShR w fz' (.sl e) l [G.rowv r]) : ∀ (a : AV) (vs : List Value), ValsR w G a vs → ValsR w { G with fz := fz' } (a.frz r e l) vs
 | .nil, vs, h => h
 | .cons a b, vs, h => by
  obtain ⟨v, t, e1, h1, h2⟩ := h
  exact ⟨v, t, e1, frz_val0 hk hrow a v h1, frz_vals hk hrow b t h2⟩
 | .unk, _, h | .int .., _, h | .bool .., _, h | .str .., _, h | .st .., _, h | .arr .., _, h | .sl .., _, h | .nilS, _, h | .row .., _, h | .ptr .., _, h | .slf .., _, h | .nilP, _, h | .fn .., _, h | .tup .., _, h | .emp, _, h | .pv .., _, h | .sub .., _, h | .mp .., _, h | .ifc .., _, h | .opq .., _, h => h.elim
theorem frz_notup (a : AV) (h : ∀ b, a ≠ .tup b) : ∀ b, a.frz r e l ≠ .tup b := by
 intro b
 cases a with
 | tup a => exact absurd rfl (h a)
 | row k => simp only [AV.frz]; split <;> (intro e; cases e)
 | sub k size lo n =>
  simp only [AV.frz]
  split
  ·split <;> (intro e; cases e)
  ·intro e; cases e
 | ptr b p => simp only [AV.frz]; split <;> (intro e; cases e)
 | slf b z => simp only [AV.frz]; split <;> (intro e; cases e)
 | _ => intro e; cases e
theorem frz_val (hk : Keeps G.fz fz' w w) (hrow : ShR w fz' (.sl e) l [G.rowv r]) (a : AV) (v : Value) (h : ValR w G a v) : ValR w { G with fz := fz' } (a.frz r e l) v := by
 cases a with
 | tup a => obtain ⟨vs, e1, h1⟩ := h; exact ⟨vs, e1, frz_vals hk hrow a _ h1⟩
 | _ => exact ValR.of0 (frz_val0 hk hrow _ v h) (frz_notup _ (by intro b e; cases e))
end
theorem frz_refs {r x : Nat} {e : Sh} {l : List e.T} (a : AV) : x ∈ (a.frz r e l).refs → x ∈ a.refs := by
 induction a with
 | st a ih => exact ih
 | cons a b iha ihb =>
  intro h
  rcases List.mem_append.1 (show x ∈ (a.frz r e l).refs ++ (b.frz r e l).refs from h) with h | h
  ·exact List.mem_append.2 (.inl (iha h))
  ·exact List.mem_append.2 (.inr (ihb h))
 | fn f c ih => exact ih
 | tup a ih => exact ih
 | pv c ih => exact ih
 | row k =>
  simp only [AV.frz]
  split
  ·intro h; cases h
  ·exact id
 | sub k size lo n =>
  simp only [AV.frz]
  split
  ·split <;> (intro h; cases h)
  ·exact id
 | ptr b p =>
  simp only [AV.frz]
  split
  ·intro h; cases h
  ·exact id
 | slf b z =>
  simp only [AV.frz]
  split
  ·intro h; cases h
  ·exact id
 | _ => exact id
def frzSt (r : Nat) (st : St) : St :=
 match lk st.2 r with
 | .row _ e l => (st.1.map (AV.frz r e l), (st.2.map (Blk.frz r e l)).set r .dead)
 | .rowl _ e l none => (st.1.map (AV.frz r e l), (st.2.map (Blk.frz r e l)).set r .dead)
 | _ => st
theorem frzSt_core {B : Nat} {w0 : World} {fz0 : Nat → Prop} {st : St} {G : Gh} {a : Act} {w : World} (hs : StR B w0 fz0 st.1 st.2 G a w) (r : Nat) (e : Sh) (l : List e.T) (hnd : lk st.2 r ≠ .dead)
  (hlive : ∀ g, rowBlk (G.rowv r) = some g → (lk st.2 r).live G r = some g) (hrow : ShR w (fun b => G.fz b ∨ rowBlk (G.rowv r) = some b) (.sl e) l [G.rowv r]) : ∃ G', StR B w0 fz0 (st.1.map (AV.frz r e l)) ((st.2.map (Blk.frz r e l)).set r .dead) G' a w := by
 let fz' : Nat → Prop := fun b => G.fz b ∨ rowBlk (G.rowv r) = some b
 have hk : Keeps G.fz fz' w w := ⟨Nat.le_refl _, fun _ _ _ => rfl, fun _ h => .inl h⟩
 have hlkm : ∀ i, lk ((st.2.map (Blk.frz r e l)).set r .dead) i = if i = r then .dead else (lk st.2 i).frz r e l := by
  intro i
  have em : ∀ j, lk (st.2.map (Blk.frz r e l)) j = (lk st.2 j).frz r e l := by
   intro j
   simp only [lk, List.getD_eq_getElem?_getD, List.getElem?_map]
   cases st.2[j]? <;> rfl
  rw [lk_set, em]
  by_cases hi : i = r
  ·rw [if_pos hi]
   split
   ·rfl
   ·rename_i hh
    have : st.2.length ≤ i := by simp at hh; have := hh hi; omega
    rw [lk_big this]; rfl
  ·rw [if_neg hi, if_neg (by simp [hi])]
 have hlv : ∀ i, i ≠ r → ((lk st.2 i).frz r e l).live { G with fz := fz' } i = (lk st.2 i).live G i := by
  intro i hi
  cases lk st.2 i with
  | rowl t e2 l2 x => rcases x with _ | ⟨z, c⟩ <;> rfl
  | _ => rfl
 refine ⟨{ G with fz := fz' }, ⟨fun t x hx => ?_, fun i x hx => ?_, ⟨by rw [List.length_map]; exact hs.tmps.size, fun t => ?_⟩, ⟨fun i => ?_, fun i j x hij hi hj => ?_, fun i x hi => ?_, fun b hb => ?_, hs.mem.base⟩, hs.below, hs.defers, fun b h => .inl (hs.fz1 b h), fun b hb => ?_, hs.fz2.2⟩⟩
 ·rw [List.length_set, List.length_map]
  have e1 : (st.1.map (AV.frz r e l)).getD t .unk = (st.1.getD t .unk).frz r e l := by
   simp only [List.getD_eq_getElem?_getD, List.getElem?_map]
   cases st.1[t]? <;> rfl
  rw [e1] at hx
  exact hs.rt t x (frz_refs _ hx)
 ·rw [List.length_set, List.length_map]
  rw [hlkm] at hx
  split at hx
  ·cases hx
  ·refine hs.rm i x ?_
   revert hx
   cases lk st.2 i with
   | box t c => exact fun h => frz_refs c h
   | sav ts a =>
    intro h
    obtain ⟨c, hc, hx'⟩ := List.mem_flatMap.1 (show x ∈ (ts.map (AV.frz r e l)).flatMap AV.refs from h)
    obtain ⟨c', hc', rfl⟩ := List.mem_map.1 hc
    exact List.mem_flatMap.2 ⟨c', hc', frz_refs c' hx'⟩
   | rowl t e2 l2 y =>
    rcases y with _ | ⟨z, c⟩
    ·exact id
    ·exact fun h => frz_refs c h
   | _ => exact id
 ·have e1 : (st.1.map (AV.frz r e l)).getD t .unk = (st.1.getD t .unk).frz r e l := by
   simp only [List.getD_eq_getElem?_getD, List.getElem?_map]
   cases st.1[t]? <;> rfl
  rw [e1]
  exact frz_val hk hrow _ _ (hs.tmps.val t)
 ·rw [hlkm]
  split
  ·trivial
  ·have hbi := hs.mem.blk i
   revert hbi
   cases lk st.2 i with
   | dead => exact fun _ => trivial
   | iter s p => exact id
   | map t k e2 l2 =>
    rintro ⟨es, clock, b1, b2⟩
    exact ⟨es, clock, b1, AllR.mono (fun x y hxy => EntR.keep (G := G) (G' := { G with fz := fz' }) hk hxy) _ _ b2⟩
   | box t c => exact fun ⟨h1, cs', h2, h3⟩ => ⟨h1, cs', h2, frz_cells hk hrow c cs' h3⟩
   | sav ts a =>
    rintro ⟨⟨h1, h2⟩, h3⟩
    refine ⟨⟨by rw [List.length_map]; exact h1, fun t => ?_⟩, h3⟩
    have e1 : (ts.map (AV.frz r e l)).getD t .unk = (ts.getD t .unk).frz r e l := by
     simp only [List.getD_eq_getElem?_getD, List.getElem?_map]
     cases ts[t]? <;> rfl
    rw [e1]
    exact frz_val hk hrow _ _ (h2 t)
   | row t e2 l2 => exact fun ⟨h1, cs', h2, h3⟩ => ⟨h1, cs', h2, CatR.mono (fun y c hy => ShR.keep hk e2 y c hy) _ _ h3⟩
   | bbuf t e2 l2 => exact fun ⟨⟨h1, cs', h2, h3⟩, h4⟩ => ⟨⟨h1, cs', h2, CatR.mono (fun y c hy => ShR.keep hk e2 y c hy) _ _ h3⟩, h4⟩
   | rowl t e2 l2 y =>
    rintro ⟨h1, d1, d2, h2, h3, h4⟩
    rcases y with _ | ⟨z, c⟩
    ·exact ⟨h1, d1, d2, h2, CatR.mono (fun y c hy => ShR.keep hk e2 y c hy) _ _ h3, h4⟩
    ·exact ⟨h1, d1, d2, h2, CatR.mono (fun y c hy => ShR.keep hk e2 y c hy) _ _ h3, fun hz => frz_cells hk hrow c d2 (h4.1 hz), h4.2⟩
 ·rw [hlkm] at hi hj
  split at hi
  ·cases hi
  ·rename_i h1
   split at hj
   ·cases hj
   ·rename_i h2
    rw [hlv i h1] at hi
    rw [hlv j h2] at hj
    exact hs.mem.apart i j x hij hi hj
 ·rw [hlkm] at hi
  split at hi
  ·cases hi
  ·rename_i h1
   rw [hlv i h1] at hi
   have := hs.mem.own i x hi
   refine ⟨this.1, this.2.1, fun hf => ?_⟩
   rcases hf with hf | hf
   ·exact this.2.2 hf
   ·exact hs.mem.apart i r x h1 hi (hlive x hf)
 ·rcases hb with hb | hb
  ·exact hs.mem.fz b hb
  ·exact (hs.mem.own r b (hlive b hb)).2.1
 ·rcases hb with hb | hb
  ·exact hs.fz2.1 b hb
  ·exact .inr (hs.mem.own r b (hlive b hb)).1
theorem frzSt_ok {B : Nat} {w0 : World} {fz0 : Nat → Prop} {st : St} {G : Gh} {a : Act} {w : World} (hs : StR B w0 fz0 st.1 st.2 G a w) (r : Nat) : ∃ G', StR B w0 fz0 (frzSt r st).1 (frzSt r st).2 G' a w := by
 unfold frzSt
 split
 ·rename_i T e l hlk
  have hb := hs.mem.blk r
  rw [hlk] at hb
  obtain ⟨h0, cs, hrv, hcat⟩ := hb
  have hk : Keeps G.fz (fun b => G.fz b ∨ rowBlk (G.rowv r) = some b) w w := ⟨Nat.le_refl _, fun _ _ _ => rfl, fun _ h => .inl h⟩
  refine frzSt_core hs r e l (by rw [hlk]; exact fun h => by cases h) (fun g hg => by rw [hlk]; exact hg) ?_
  rcases hrv with ⟨hn, rfl, ad, hv⟩ | ⟨g, cap, rest, hv, hcap, hBg, hat, hnc, hcm, hcl, hcr⟩
  ·rw [hv]
   refine ⟨ad, 0, by rw [hn], by omega, Nat.zero_le _, fun h => by omega⟩
  ·refine ⟨some ⟨g, 0, none⟩, cap, by rw [hv], hnc, hcm, fun h0' => ⟨g, 0, cs, rfl, ?_, hat.lt, CatR.mono (fun y c hy => ShR.keep hk e y c hy) _ _ hcat, fun i v hi => ?_⟩⟩
   ·right
    rw [hv]
    cases cap with
    | zero => omega
    | succ c => rfl
   ·rw [Nat.zero_add]; exact hat.cell hi
 ·rename_i T e l hlk
  have hb := hs.mem.blk r
  rw [hlk] at hb
  obtain ⟨h0, cs, c2, hrv, hcat, hx⟩ := hb
  obtain rfl : c2 = [] := hx
  rw [List.append_nil, show lstN none = 0 from rfl, Nat.add_zero] at hrv
  have hk : Keeps G.fz (fun b => G.fz b ∨ rowBlk (G.rowv r) = some b) w w := ⟨Nat.le_refl _, fun _ _ _ => rfl, fun _ h => .inl h⟩
  refine frzSt_core hs r e l (by rw [hlk]; exact fun h => by cases h) (fun g hg => by rw [hlk]; exact hg) ?_
  rcases hrv with ⟨hn, rfl, ad, hv⟩ | ⟨g, pre, cap, rest, hv, hcap, hBg, hat, hnc, hcm, hcl, hcr⟩
  ·rw [hv]
   refine ⟨ad, 0, by rw [hn], by omega, Nat.zero_le _, fun h => by omega⟩
  ·refine ⟨some ⟨g, pre.length, none⟩, cap, by rw [hv], hnc, hcm, fun h0' => ⟨g, pre.length, cs, rfl, ?_, hat.lt, CatR.mono (fun y c hy => ShR.keep hk e y c hy) _ _ hcat, fun i v hi => ?_⟩⟩
   ·right
    rw [hv]
    cases cap with
    | zero => omega
    | succ c => rfl
   ·exact hat.cell (by rw [List.getElem?_append_right (by omega), Nat.add_sub_cancel_left]; exact hi)
 ·exact ⟨G, hs⟩
def AV.subAt (r : Nat) : AV → List Bool → Option (Nat × Nat)
 | .st a, p => AV.subAt r a p
 | .cons a b, p =>
  match p with
  | false :: q => AV.subAt r a q
  | true :: q => AV.subAt r b q
  | [] => none
 | .sub r' s lo n, p =>
  match p with
  | [] => if r' = r ∧ lo = 0 then some (s, n) else none
  | _ => none
 | _, _ => none
def AV.subTo (x : AV) : AV → List Bool → AV
 | .st a, p => .st (AV.subTo x a p)
 | .cons a b, p =>
  match p with
  | false :: q => .cons (AV.subTo x a q) b
  | true :: q => .cons a (AV.subTo x b q)
  | [] => .cons a b
 | .sub r s lo n, p =>
  match p with
  | [] => x
  | _ => .sub r s lo n
 | a, _ => a
theorem subTo_cells {w : World} {G : Gh} {r s n : Nat} (a : AV) : ∀ (p : List Bool) (cs : List Value), AV.subAt r a p = some (s, n) → CellsR w G a cs →
  ∃ v, SubR s 0 n (G.rowv r) v ∧ ∀ (x : AV) (G' : Gh), Keeps G.fz G'.fz w w → (∀ q ∈ a.refs, Agree G G' q) → CellsR w G' x [v] → CellsR w G' (AV.subTo x a p) cs := by
 induction a with
 | st a ih => intro p cs h hc; exact ih p cs h hc
 | cons a b iha ihb =>
  intro p cs h hc
  obtain ⟨c1, c2, rfl, h1, h2⟩ := hc
  cases p with
  | nil => cases h
  | cons d q =>
   cases d with
   | false =>
    obtain ⟨v, hv, hx⟩ := iha q c1 h h1
    exact ⟨v, hv, fun x G' hk hr h3 => ⟨c1, c2, rfl, hx x G' hk (fun q hq => hr q (by simp [AV.refs, hq])) h3, CellsR.keep hk b c2 (fun q hq => hr q (by simp [AV.refs, hq])) h2⟩⟩
   | true =>
    obtain ⟨v, hv, hx⟩ := ihb q c2 h h2
    exact ⟨v, hv, fun x G' hk hr h3 => ⟨c1, c2, rfl, CellsR.keep hk a c1 (fun q hq => hr q (by simp [AV.refs, hq])) h1, hx x G' hk (fun q hq => hr q (by simp [AV.refs, hq])) h3⟩⟩
 | sub r' s' lo n' =>
  intro p cs h hc
  cases p with
  | nil =>
   simp only [AV.subAt] at h
   split at h
   ·rename_i hh
    obtain ⟨rfl, rfl⟩ := hh
    simp only [Option.some.injEq, Prod.mk.injEq] at h
    obtain ⟨rfl, rfl⟩ := h
    obtain ⟨v, rfl, hs⟩ := hc
    exact ⟨v, hs, fun x G' hk hr hx => hx⟩
   ·cases h
  | cons d q => cases h
 | _ => intro p cs h hc; cases h
theorem subTo_refs {x : AV} {q : Nat} (a : AV) : ∀ p, q ∈ (AV.subTo x a p).refs → q ∈ x.refs ∨ q ∈ a.refs := by
 induction a with
 | st a ih => intro p h; exact ih p h
 | cons a b iha ihb =>
  intro p h
  cases p with
  | nil => exact .inr h
  | cons d p =>
   cases d with
   | false =>
    rcases List.mem_append.1 (show q ∈ (AV.subTo x a p).refs ++ b.refs from h) with h | h
    ·rcases iha p h with h | h
     ·exact .inl h
     ·exact .inr (List.mem_append.2 (.inl h))
    ·exact .inr (List.mem_append.2 (.inr h))
   | true =>
    rcases List.mem_append.1 (show q ∈ a.refs ++ (AV.subTo x b p).refs from h) with h | h
    ·exact .inr (List.mem_append.2 (.inl h))
    ·rcases ihb p h with h | h
     ·exact .inl h
     ·exact .inr (List.mem_append.2 (.inr h))
 | sub r s lo n =>
  intro p h
  cases p with
  | nil => exact .inl h
  | cons d p => exact .inr h
 | _ => intro p h; exact .inr h
theorem subTo_val {w : World} {G : Gh} {r s n : Nat} (a : AV) (p : List Bool) (v : Value) (h : AV.subAt r a p = some (s, n)) (hv : ValR w G a v) :
  ∃ u, SubR s 0 n (G.rowv r) u ∧ ∀ (k : Nat) (G' : Gh), Keeps G.fz G'.fz w w → (∀ q ∈ a.refs, Agree G G' q) → CellsR w G' (.row k) [u] → ValR w G' (AV.subTo (.row k) a p) v := by
 cases a with
 | st a =>
  obtain ⟨cs, e, h1⟩ := hv
  obtain ⟨u, hu, hx⟩ := subTo_cells a p cs.toList h h1
  exact ⟨u, hu, fun k G' hk hr h3 => ⟨cs, e, hx _ G' hk hr h3⟩⟩
 | sub r' s' lo n' =>
  cases p with
  | nil =>
   obtain ⟨u, hu, hx⟩ := subTo_cells (.sub r' s' lo n') [] [v] h hv
   exact ⟨u, hu, fun k G' hk hr h3 => hx _ G' hk hr h3⟩
  | cons d q => cases h
 | cons a b =>
  obtain ⟨u, hu, hx⟩ := subTo_cells (.cons a b) p [v] h hv
  refine ⟨u, hu, fun k G' hk hr h3 => ?_⟩
  have := hx _ G' hk hr h3
  cases p with
  | nil => exact this
  | cons d q => cases d <;> exact this
 | _ => cases h
def placeAV (box : Bool) (i : Nat) (st : St) : AV :=
 match box with
 | false => st.1.getD i .unk
 | true => match lk st.2 i with | .box _ c => c | _ => .unk
def cutSt (r : Nat) (box : Bool) (i : Nat) (p : List Bool) (st : St) : St :=
 match lk st.2 r, AV.subAt r (placeAV box i st) p with
 | .row T e l, some (s, n) =>
  if s = e.size ∧ r < st.2.length then
   match box with
   | false => (st.1.set i (AV.subTo (.row st.2.length) (st.1.getD i .unk) p), st.2.set r .dead ++ [.row T e (l.take n)])
   | true => match lk st.2 i with
    | .box t c => (st.1, (st.2.set r .dead).set i (.box t (AV.subTo (.row st.2.length) c p)) ++ [.row T e (l.take n)])
    | _ => st
  else st
 | _, _ => st
theorem cutSt_ok {B : Nat} {w0 : World} {fz0 : Nat → Prop} {st : St} {G : Gh} {a : Act} {w : World} (hs : StR B w0 fz0 st.1 st.2 G a w) (r : Nat) (box : Bool) (i : Nat) (p : List Bool) : ∃ G', StR B w0 fz0 (cutSt r box i p st).1 (cutSt r box i p st).2 G' a w := by
 unfold cutSt
 split
 ·rename_i T e l s n hlk hat
  split
  ·rename_i hc
   obtain ⟨rfl, hrl⟩ := hc
   have hrow := hs.mem.blk r
   rw [hlk] at hrow
   obtain ⟨hra, cs0, hrv, hcat⟩ := hrow
   have hlt : ∀ q, q < st.2.length → q ≠ st.2.length := fun q h => by omega
   have core : ∀ v, SubR e.size 0 n (G.rowv r) v → ∃ G' : Gh, Keeps G.fz G'.fz w w ∧ (∀ q, q < st.2.length → Agree G G' q) ∧ G'.fz = G.fz ∧ G'.rowv st.2.length = v ∧ MemR B w G' (st.2.set r .dead ++ [.row T e (l.take n)]) := by
    intro v hv
    obtain ⟨ad, N, cap, a', e1, hN, hcm, rfl, hle, ha⟩ := hv
    let G' : Gh := { G with rowv := fun b => if b = st.2.length then .slice a' n (cap - 0) else G.rowv b, addr := fun b => if b = st.2.length then G.addr r else G.addr b }
    have hag : ∀ q, q < st.2.length → Agree G G' q := fun q hq => ⟨by show (if q = st.2.length then _ else _) = _; rw [if_neg (hlt q hq)], by show (if q = st.2.length then _ else _) = _; rw [if_neg (hlt q hq)]⟩
    have hk : Keeps G.fz G'.fz w w := ⟨Nat.le_refl _, fun _ _ _ => rfl, fun _ h => h⟩
    have erow : G'.rowv st.2.length = .slice a' n (cap - 0) := by show (if st.2.length = st.2.length then _ else _) = _; rw [if_pos rfl]
    have eaddr : G'.addr st.2.length = G.addr r := by show (if st.2.length = st.2.length then _ else _) = _; rw [if_pos rfl]
    refine ⟨G', hk, hag, rfl, erow, ?_⟩
    have hlk' : ∀ j, lk (st.2.set r .dead ++ [.row T e (l.take n)]) j = if j = st.2.length then .row T e (l.take n) else if j = r then .dead else lk st.2 j := by
     intro j
     by_cases h1 : j = st.2.length
     ·subst h1
      rw [if_pos rfl]
      simp only [lk, List.getD_eq_getElem?_getD]
      rw [List.getElem?_append_right (by simp)]
      simp
     ·rw [if_neg h1]
      by_cases h2 : j < st.2.length
      ·simp only [lk, List.getD_eq_getElem?_getD]
       rw [List.getElem?_append_left (by simpa using h2), List.getElem?_set]
       by_cases h3 : r = j
       ·subst h3; simp [h2]
       ·rw [if_neg h3, if_neg (fun e => h3 e.symm)]
      ·rw [lk_big (by simp; omega)]
       split
       ·rfl
       ·exact (lk_big (by omega)).symm
    have hnb : ∀ g, rowBlk (.slice a' n (cap - 0)) = some g → rowBlk (G.rowv r) = some g := by
     intro g hg
     rw [e1]
     cases cap with
     | zero => simp [rowBlk] at hg
     | succ c =>
      rw [ha (by omega)] at hg
      cases ad with
      | none => simp [rowBlk] at hg
      | some b => simp [rowBlk, Addr.add] at hg ⊢; exact hg
    have hnew : BlkR B w G' st.2.length (.row T e (l.take n)) := by
     rcases hrv with ⟨hn0, hnil, ax, hval⟩ | ⟨g, cap2, rest, hval, hcap, hBg, ho, h1, h2, h3, h4⟩
     ·rw [hval] at e1
      obtain ⟨rfl, rfl, rfl⟩ := Value.slice.inj e1
      obtain rfl : n = 0 := by omega
      refine ⟨fun g hg => ?_, [], .inl ⟨by simp, rfl, a', by rw [erow]⟩, by rw [List.take_zero]; rfl⟩
      rw [erow] at hg; simp [rowBlk] at hg
     ·rw [hval] at e1
      obtain ⟨rfl, rfl, rfl⟩ := Value.slice.inj e1
      have hnl : n ≤ l.length := by omega
      have hcat2 := hcat
      rw [← List.take_append_drop n l] at hcat2
      obtain ⟨ca, cb, rfl, k1, k2⟩ := CatR.split hcat2
      have hla := CatR.length (fun y c hy => ShR.length e y c hy) _ _ k1
      have hltk : (l.take n).length = n := by rw [List.length_take]; omega
      have ha' : a' = some ⟨g, 0, none⟩ := by rw [ha (by omega)]; simp [Addr.add]
      refine ⟨fun g' hg' => ?_, ca, .inr ⟨g, cap2, cb ++ rest, ?_, hcap, hBg, ?_, by rw [hltk]; omega, h2, hla, ?_⟩, CatR.mono (fun y c hy => ShR.keep hk e y c hy) _ _ k1⟩
      ·rw [erow] at hg'
       rw [eaddr]
       exact hra g' (hnb g' hg')
      ·rw [erow, ha', hltk]; rfl
      ·obtain ⟨fr, ho, hfr⟩ := ho
       refine ⟨fr, ?_, ?_⟩
       ·rw [← List.append_assoc]; exact ho
       ·rw [← List.append_assoc]; exact hfr
      ·rw [← List.append_assoc]; exact h4
    have hlive : ∀ j x, (lk (st.2.set r .dead ++ [.row T e (l.take n)]) j).live G' j = some x → ∃ j', (lk st.2 j').live G j' = some x ∧ (j = st.2.length ∧ j' = r ∨ j ≠ st.2.length ∧ j' = j ∧ j ≠ r) := by
     intro j x hx
     rw [hlk'] at hx
     split at hx
     ·rename_i hj
      subst hj
      refine ⟨r, ?_, .inl ⟨rfl, rfl⟩⟩
      rw [hlk]
      simp only [Blk.live, erow] at hx ⊢
      exact hnb x hx
     ·rename_i hj
      split at hx
      ·cases hx
      ·rename_i hjr
       refine ⟨j, ?_, .inr ⟨hj, rfl, hjr⟩⟩
       have hjl : j < st.2.length := by
        rcases Nat.lt_or_ge j st.2.length with h | h
        ·exact h
        ·rw [lk_big h] at hx; cases hx
       rw [← live_agree (lk st.2 j) (hag j hjl)]
       exact hx
    refine ⟨fun j => ?_, fun j1 j2 x h12 hx1 hx2 => ?_, fun j x hx => ?_, hs.mem.fz, hs.mem.base⟩
    ·rw [hlk']
     split
     ·rename_i hj; subst hj; exact hnew
     ·rename_i hj
      split
      ·trivial
      ·rcases Nat.lt_or_ge j st.2.length with h | h
       ·exact (hs.mem.blk j).keep hk (hag j h) (fun q hq => hag q (hs.rm j q hq)) (Nat.le_refl _) (fun _ _ => rfl)
       ·rw [lk_big h]; trivial
    ·obtain ⟨i1, a1, b1⟩ := hlive j1 x hx1
     obtain ⟨i2, a2, b2⟩ := hlive j2 x hx2
     refine hs.mem.apart i1 i2 x ?_ a1 a2
     rcases b1 with ⟨c1, c2⟩ | ⟨c1, c2, c3⟩ <;> rcases b2 with ⟨d1, d2⟩ | ⟨d1, d2, d3⟩ <;> omega
    ·obtain ⟨i1, a1, _⟩ := hlive j x hx
     exact hs.mem.own i1 x a1
   cases box with
   | false =>
    obtain ⟨v, hv, hx⟩ := subTo_val (st.1.getD i .unk) p _ hat (hs.tmps.val i)
    obtain ⟨G', hk, hag, hfz, hrow', hm⟩ := core v hv
    have hv1 : v.oneCell' = true := hv.one
    have hcell : CellsR w G' (.row st.2.length) [v] := ⟨by rw [hrow'], by rw [hrow']; exact hv1⟩
    have hlen : (st.2.set r .dead ++ [Blk.row T e (l.take n)]).length = st.2.length + 1 := by simp
    refine ⟨G', ⟨fun t q hq => ?_, fun j q hq => ?_, ⟨by rw [List.length_set]; exact hs.tmps.size, fun t => ?_⟩, hm, hs.below, hs.defers, by rw [hfz]; exact hs.fz1, by rw [hfz]; exact hs.fz2⟩⟩
    ·rw [hlen]
     rw [getD_set] at hq
     split at hq
     ·rcases subTo_refs _ p hq with h | h
      ·simp [AV.refs] at h; omega
      ·have := hs.rt i q h; omega
     ·have := hs.rt t q hq; omega
    ·rw [hlen]
     have : (lk (st.2.set r .dead ++ [Blk.row T e (l.take n)]) j).refs = [] ∨ lk (st.2.set r .dead ++ [Blk.row T e (l.take n)]) j = lk st.2 j := by
      by_cases h1 : j = st.2.length
      ·left
       subst h1
       have : lk (st.2.set r .dead ++ [Blk.row T e (l.take n)]) st.2.length = .row T e (l.take n) := by
        simp only [lk, List.getD_eq_getElem?_getD]
        rw [List.getElem?_append_right (by simp)]
        simp
       rw [this]; rfl
      ·rcases Nat.lt_or_ge j st.2.length with h2 | h2
       ·by_cases h3 : r = j
        ·left
         subst h3
         have : lk (st.2.set r .dead ++ [Blk.row T e (l.take n)]) r = .dead := by
          simp only [lk, List.getD_eq_getElem?_getD]
          rw [List.getElem?_append_left (by simpa using h2), List.getElem?_set]
          simp [h2]
         rw [this]; rfl
        ·right
         simp only [lk, List.getD_eq_getElem?_getD]
         rw [List.getElem?_append_left (by simpa using h2), List.getElem?_set, if_neg h3]
       ·left
        rw [lk_big (by simp; omega)]; rfl
     rcases this with h | h
     ·rw [h] at hq; cases hq
     ·rw [h] at hq; have := hs.rm j q hq; omega
    ·rw [getD_set]
     split
     ·rename_i h
      obtain ⟨rfl, _⟩ := h
      exact hx _ G' hk (fun q hq => hag q (hs.rt t q hq)) hcell
     ·exact ValR.keep hk _ _ (fun q hq => hag q (hs.rt t q hq)) (hs.tmps.val t)
   | true =>
    cases hb : lk st.2 i with
    | box t c =>
     simp only [placeAV, hb] at hat
     have hbi := hs.mem.blk i
     rw [hb] at hbi
     obtain ⟨h0, cs, h1, h2⟩ := hbi
     obtain ⟨v, hv, hx⟩ := subTo_cells c p cs hat h2
     obtain ⟨G', hk, hag, hfz, hrow', hm⟩ := core v hv
     have hcell : CellsR w G' (.row st.2.length) [v] := ⟨by rw [hrow'], by rw [hrow']; exact hv.one⟩
     have hil : i < st.2.length := by
      rcases Nat.lt_or_ge i st.2.length with h | h
      ·exact h
      ·rw [lk_big h] at hb; cases hb
     have hir : r ≠ i := fun h => by subst h; rw [hlk] at hb; cases hb
     have hrc : ∀ q ∈ c.refs, q < st.2.length := fun q hq => hs.rm i q (by rw [hb]; exact hq)
     have emem : (st.2.set r .dead).set i (.box t (AV.subTo (.row st.2.length) c p)) ++ [Blk.row T e (l.take n)] = (st.2.set r .dead ++ [Blk.row T e (l.take n)]).set i (.box t (AV.subTo (.row st.2.length) c p)) := by
      rw [List.set_append_left _ _ (by simpa using hil)]
     have hlen : (st.2.set r .dead ++ [Blk.row T e (l.take n)]).length = st.2.length + 1 := by simp
     have hlki : lk (st.2.set r .dead ++ [Blk.row T e (l.take n)]) i = .box t c := by
      rw [← hb]
      simp only [lk, List.getD_eq_getElem?_getD]
      rw [List.getElem?_append_left (by simpa using hil), List.getElem?_set, if_neg hir]
     have hnb : BlkR B w G' i (.box t (AV.subTo (.row st.2.length) c p)) := by
      have ha := (hag i hil).addr
      exact ⟨by rw [ha]; exact h0, cs, by rw [ha]; exact h1, hx _ G' hk (fun q hq => hag q (hrc q hq)) hcell⟩
     have hm2 := (hm.write (x := .box t (AV.subTo (.row st.2.length) c p)) (g := (G'.addr i).block) (by rw [hlki]; rfl) rfl (fun _ _ => rfl) hnb rfl).1
     simp only [hb]
     rw [emem]
     refine ⟨G', ⟨fun t' q hq => ?_, fun j q hq => ?_, hs.tmps.keep hk (fun t' q hq => hag q (hs.rt t' q hq)), hm2, hs.below, hs.defers, by rw [hfz]; exact hs.fz1, by rw [hfz]; exact hs.fz2⟩⟩
     ·rw [List.length_set, hlen]; have := hs.rt t' q hq; omega
     ·rw [List.length_set, hlen]
      simp only [lk_set] at hq
      split at hq
      ·rcases subTo_refs c p hq with h | h
       ·simp [AV.refs] at h; omega
       ·have := hrc q h; omega
      ·have : (lk (st.2.set r .dead ++ [Blk.row T e (l.take n)]) j).refs = [] ∨ lk (st.2.set r .dead ++ [Blk.row T e (l.take n)]) j = lk st.2 j := by
        by_cases h1 : j = st.2.length
        ·left
         subst h1
         have : lk (st.2.set r .dead ++ [Blk.row T e (l.take n)]) st.2.length = .row T e (l.take n) := by
          simp only [lk, List.getD_eq_getElem?_getD]
          rw [List.getElem?_append_right (by simp)]
          simp
         rw [this]; rfl
        ·rcases Nat.lt_or_ge j st.2.length with h2 | h2
         ·by_cases h3 : r = j
          ·left
           subst h3
           have : lk (st.2.set r .dead ++ [Blk.row T e (l.take n)]) r = .dead := by
            simp only [lk, List.getD_eq_getElem?_getD]
            rw [List.getElem?_append_left (by simpa using h2), List.getElem?_set]
            simp [h2]
           rw [this]; rfl
          ·right
           simp only [lk, List.getD_eq_getElem?_getD]
           rw [List.getElem?_append_left (by simpa using h2), List.getElem?_set, if_neg h3]
         ·left
          rw [lk_big (by simp; omega)]; rfl
       rcases this with h | h
       ·rw [h] at hq; cases hq
       ·rw [h] at hq; have := hs.rm j q hq; omega
    | _ =>
     simp only [placeAV, hb] at hat
     cases hat
  ·exact ⟨G, hs⟩
 ·exact ⟨G, hs⟩
def AV.slfAt (b : Nat) : AV → List Bool → AV
 | .st a, p => .st (AV.slfAt b a p)
 | .cons a c, p =>
  match p with
  | false :: q => .cons (AV.slfAt b a q) c
  | true :: q => .cons a (AV.slfAt b c q)
  | [] => .cons a c
 | .nilP, _ => .slf b true
 | .ptr x [], _ => if x = b then .slf b false else .ptr x []
 | a, _ => a
theorem slfAt_cells {w : World} {G : Gh} (b : Nat) : ∀ (a : AV) (p : List Bool) (cs : List Value), CellsR w G a cs → CellsR w G (AV.slfAt b a p) cs
 | .st a, p, cs, h => slfAt_cells b a p cs h
 | .cons a c, p, cs, h => by
  obtain ⟨c1, c2, e, h1, h2⟩ := h
  cases p with
  | nil => exact ⟨c1, c2, e, h1, h2⟩
  | cons y q =>
   cases y
   ·exact ⟨c1, c2, e, slfAt_cells b a q c1 h1, h2⟩
   ·exact ⟨c1, c2, e, h1, slfAt_cells b c q c2 h2⟩
 | .nilP, _, _, h => h
 | .ptr x [], _, cs, h => by
  simp only [AV.slfAt]
  split
  ·rename_i hx; subst hx; exact h
  ·exact h
 | .ptr x (y :: q), _, _, h => h
 | .unk, _, _, h | .int .., _, _, h | .bool .., _, _, h | .str .., _, _, h | .nil, _, _, h | .arr .., _, _, h | .sl .., _, _, h | .nilS, _, _, h | .row .., _, _, h | .slf .., _, _, h | .fn .., _, _, h | .tup .., _, _, h | .emp, _, _, h | .pv .., _, _, h | .sub .., _, _, h | .mp .., _, _, h | .ifc .., _, _, h | .opq .., _, _, h => h
theorem slfAt_refs (b r : Nat) : ∀ (a : AV) (p : List Bool), r ∈ (AV.slfAt b a p).refs → r = b ∨ r ∈ a.refs
 | .st a, p, h => slfAt_refs b r a p h
 | .cons a c, p, h => by
  cases p with
  | nil => exact .inr h
  | cons y q =>
   cases y
   ·rcases List.mem_append.1 (show r ∈ (AV.slfAt b a q).refs ++ c.refs from h) with h | h
    ·exact (slfAt_refs b r a q h).imp id fun h => List.mem_append.2 (.inl h)
    ·exact .inr (List.mem_append.2 (.inr h))
   ·rcases List.mem_append.1 (show r ∈ a.refs ++ (AV.slfAt b c q).refs from h) with h | h
    ·exact .inr (List.mem_append.2 (.inl h))
    ·exact (slfAt_refs b r c q h).imp id fun h => List.mem_append.2 (.inr h)
 | .nilP, _, h => .inl (List.mem_singleton.1 h)
 | .ptr x [], _, h => by
  simp only [AV.slfAt] at h
  split at h
  ·exact .inl (List.mem_singleton.1 h)
  ·exact .inr h
 | .ptr x (y :: q), _, h => .inr h
 | .unk, _, h | .int .., _, h | .bool .., _, h | .str .., _, h | .nil, _, h | .arr .., _, h | .sl .., _, h | .nilS, _, h | .row .., _, h | .slf .., _, h | .fn .., _, h | .tup .., _, h | .emp, _, h | .pv .., _, h | .sub .., _, h | .mp .., _, h | .ifc .., _, h | .opq .., _, h => .inr h
def slfSt (b i : Nat) (p : List Bool) (st : St) : St :=
 match lk st.2 i with
 | .box t c => if b < st.2.length then (st.1, st.2.set i (.box t (AV.slfAt b c p))) else st
 | _ => st
theorem slfSt_ok {B : Nat} {w0 : World} {fz0 : Nat → Prop} {st : St} {G : Gh} {a : Act} {w : World} (hs : StR B w0 fz0 st.1 st.2 G a w) (b i : Nat) (p : List Bool) : StR B w0 fz0 (slfSt b i p st).1 (slfSt b i p st).2 G a w := by
 unfold slfSt
 split
 ·rename_i t c hb
  split
  ·rename_i hlt
   have hrc : ∀ r ∈ c.refs, r < st.2.length := fun r hr => hs.rm i r (by rw [hb]; exact hr)
   refine ⟨fun t r hr => by rw [List.length_set]; exact hs.rt t r hr, fun j r hr => ?_, hs.tmps, hs.mem.seen hb (fun cs h => slfAt_cells b c p cs h), hs.below, hs.defers, hs.fz1, hs.fz2⟩
   rw [List.length_set]
   simp only [lk_set] at hr
   split at hr
   ·rcases slfAt_refs b r c p hr with rfl | h
    ·exact hlt
    ·exact hrc r h
   ·exact hs.rm j r hr
  ·exact hs
 ·exact hs
inductive Wk where
 | row (box : Bool) (i : Nat) (p : List Bool) (T : TypeId) (e : Sh)
 | view (box : Bool) (i : Nat) (p : List Bool) (e : Sh)
 | frz (r : Nat)
 | ifc (box : Bool) (i : Nat) (p : List Bool) (k : Option (TypeId × Sh))
 | cut (r : Nat) (box : Bool) (i : Nat) (p : List Bool)
 | slf (b i : Nat) (p : List Bool)
 | buf (box : Bool) (i : Nat) (p : List Bool) (T : TypeId) (e : Sh)
def wk1 (k : Wk) (st : St) : St :=
 match k with
 | .row box i p T e => putNil (.row st.2.length) box i p (st.1, st.2 ++ [.row T e []])
 | .view box i p e => putNil (.sl e []) box i p st
 | .frz r => frzSt r st
 | .ifc box i p k => putI k box i p st
 | .cut r box i p => cutSt r box i p st
 | .slf b i p => slfSt b i p st
 | .buf box i p T e => putNil (.row st.2.length) box i p (st.1, st.2 ++ [.bbuf T e []])
theorem wk1_ok {B : Nat} {w0 : World} {fz0 : Nat → Prop} {st : St} {G : Gh} {a : Act} {w : World} (hs : StR B w0 fz0 st.1 st.2 G a w) (k : Wk) : ∃ G', StR B w0 fz0 (wk1 k st).1 (wk1 k st).2 G' a w := by
  cases k with
  | row box i p T e =>
   obtain ⟨G', h1, h2⟩ := addRow_ok hs T e
   exact ⟨G', putNil_ok (st := (st.1, st.2 ++ [.row T e []])) h1 (show CellsR w G' (.row st.2.length) [.slice none 0 0] from ⟨by rw [h2], by rw [h2]; rfl⟩) rfl (fun r hr => by simp [AV.refs] at hr; subst hr; simp) box i p⟩
  | view box i p e => exact ⟨G, putNil_ok hs (show CellsR w G (.sl e []) [.slice none 0 0] from ⟨none, 0, rfl, Nat.le_refl _, Nat.zero_le _, fun h => absurd h (by simp)⟩) rfl (fun r hr => by simp [AV.refs] at hr) box i p⟩
  | frz r => exact frzSt_ok hs r
  | ifc box i p k => exact ⟨G, putI_ok hs k box i p⟩
  | cut r box i p => exact cutSt_ok hs r box i p
  | slf b i p => exact ⟨G, slfSt_ok hs b i p⟩
  | buf box i p T e =>
   obtain ⟨G', h1, h2⟩ := addBuf_ok hs T e
   exact ⟨G', putNil_ok (st := (st.1, st.2 ++ [.bbuf T e []])) h1 (show CellsR w G' (.row st.2.length) [.slice none 0 0] from ⟨by rw [h2], by rw [h2]; rfl⟩) rfl (fun r hr => by simp [AV.refs] at hr; subst hr; simp) box i p⟩
theorem XS.wk {P : Program} {w0 : World} {fz0 : Nat → Prop} {x : Exit} {st : St} {Q : Exit → Act → World → Prop} (k : Wk) (h : XS P w0 fz0 x (wk1 k st) Q) : XS P w0 fz0 x st Q := by
 intro G a w hs
 obtain ⟨G', hs'⟩ := wk1_ok hs k
 exact h G' a w hs'
theorem TS.wk {P : Program} {w0 : World} {fz0 : Nat → Prop} {c : Code} {st : St} {Q : Exit → Act → World → Prop} (k : Wk) (h : TS P w0 fz0 c (wk1 k st) Q) : TS P w0 fz0 c st Q := by
 intro G a w hs
 obtain ⟨G', hs'⟩ := wk1_ok hs k
 exact h G' a w hs'
def nilPre (P : Program) (k : Nat) (ops : Array Oper) (hs : List Hint) (st : St) : Option (List AV × List Blk × Option Tmp × Tmp × Prop) :=
 match evOps P ops.toList (ops.toList.take k) hs st.1 st.2 with
 | some (ts1, mem1, C) =>
  match ops.toList.drop k with
  | [o] =>
   match o.guard with
   | none =>
    match o.op with
    | .binOp .eql t (.tmp x) (.const (.slice none 0 0)) _ =>
     match P.underlying t with
     | some (.slice _) => some (ts1, mem1, o.dst, x, C)
     | _ => none
    | _ => none
   | some _ => none
  | _ => none
 | none => none
def nilOk (P : Program) (k : Nat) (ops : Array Oper) (hs : List Hint) (st : St) : Prop := match nilPre P k ops hs st with | some (_, _, _, _, C) => C | none => False
def nilVal (P : Program) (k : Nat) (ops : Array Oper) (hs : List Hint) (st : St) : AV := match nilPre P k ops hs st with | some (ts1, _, _, x, _) => ts1.getD x .unk | none => .unk
def nilR (P : Program) (k : Nat) (ops : Array Oper) (hs : List Hint) (st : St) (b : Bool) : St := match nilPre P k ops hs st with | some (ts1, mem1, d, _, _) => (tput ts1 d (.bool b), mem1) | none => ([], [])
theorem TS.nilReg {P : Program} {w0 : World} {fz0 : Nat → Prop} {st : St} {Q : Exit → Act → World → Prop} {id : Nat} {ops : Array Oper} (k : Nat) (hs : List Hint) (e : Sh) (l : List e.T) (hok : nilOk P k ops hs st) (hv : nilVal P k ops hs st = .sl e l)
  (hn : ∀ b, (b = true → l = []) → XS P w0 fz0 .normal (nilR P k ops hs st b) Q) : TS P w0 fz0 (.region id ops false) st Q := by
 unfold nilOk at hok
 unfold nilVal at hv
 unfold XS nilR at hn
 cases hp : nilPre P k ops hs st with
 | none => rw [hp] at hok; exact hok.elim
 | some r =>
  obtain ⟨ts1, mem1, d, x, C⟩ := r
  rw [hp] at hok hv
  simp only [hp] at hok hv hn
  unfold nilPre at hp
  split at hp
  ·rename_i ts2 mem2 C2 hev
   split at hp
   ·rename_i o hdrop
    split at hp
    ·rename_i hg
     split at hp
     ·rename_i t x' ty ho
      split at hp
      ·rename_i E hu
       simp only [Option.some.injEq, Prod.mk.injEq] at hp
       obtain ⟨rfl, rfl, rfl, rfl, rfl⟩ := hp
       have hlen : ops.toList.length = k + 1 := by
        have := congrArg List.length hdrop
        rw [List.length_drop] at this
        simp only [List.length_singleton] at this
        omega
       have hsz : ops.size = k + 1 := by simpa using hlen
       have hok2 : ops[k]? = some o := by
        have : (ops.toList.drop k)[0]? = some o := by rw [hdrop]; rfl
        rw [List.getElem?_drop] at this
        simpa using this
       refine T.region (TO.run (ops.toList.take k) 0 hs st.1 _ st.2 _ _ (by rw [List.drop_zero, List.length_take, Nat.min_eq_left (by omega)]) hev hok ?_)
       rw [List.length_take, Nat.min_eq_left (by omega), Nat.zero_add]
       intro G a w hst
       rw [show ops.size - k = (ops.size - (k + 1)) + 1 by omega, List.range'_succ]
       simp only [wpOps, hok2]
       have hgd : evGuard ops.toList ts2 o = some true := by unfold evGuard; rw [hg]
       rw [evGuard_ok hst.tmps hgd]
       simp only [if_true]
       refine .inl ?_
       have hx : ValR w G (.sl e l) (a.eval (.tmp x')) := by rw [← hv]; exact ev_ok hst.tmps (show ev ts2 (.tmp x') = some (ts2.getD x' .unk) from rfl)
       obtain ⟨ad, cap, e1, _, _, hpos⟩ := (show ShR w G.fz (.sl e) l [a.eval (.tmp x')] from hx)
       have e2 : a.eval (.tmp x') = .slice ad l.length cap := by simpa using e1
       have hb : ad.isNone = true → l = [] := by
        intro hh
        rcases Nat.eq_zero_or_pos l.length with h | h
        ·exact List.length_eq_zero_iff.1 h
        ·obtain ⟨b, off, _, hb, _⟩ := hpos h
         rw [hb] at hh; cases hh
       have hr : (execOp a.eval o).run P w = .ok (.value (.bool ad.isNone)) w := by
        have eg : (eqGuard .eql t (.tmp x') (.const (.slice none 0 0)) (.slice ad l.length cap) (.slice none 0 0)).run P w = .ok () w := rfl
        simp only [execOp, ho, e2]
        rw [show a.eval (.const (.slice none 0 0)) = Value.slice none 0 0 from rfl]
        simp only [Sem.run_bind, eg, Result.andThen_ok, Lib.run_eql_slice_nil w t E ad l.length cap 0 0 hu, Sem.run_pure]
       unfold Oper.wp
       rw [hr]
       refine TO.nil (ops := ops) (k := k + 1) (by omega) (hn ad.isNone hb) G _ w ?_
       exact ⟨tput_refs hst.rt (Nat.le_refl _) (by simp [AV.refs]), hst.rm, hst.tmps.put _ rfl, hst.mem, hst.below, by rw [put_defers]; exact hst.defers, hst.fz1, hst.fz2⟩
      ·cases hp
     ·cases hp
    ·cases hp
   ·cases hp
  ·cases hp
def Back (P : Program) (fn : Func) (d : Option Tmp) (a : Act) (K : Act → World → Prop) : Exit → Act → World → Prop :=
 bodyPost P fn fun e w' => ∃ v, e = .returned v ∧ K (a.put d v) w'
def maskTs : List AV → List Bool → List AV
 | [], _ => []
 | a :: l, m => (if m.headD false then a else .unk) :: maskTs l m.tail
theorem maskTs_length : ∀ (l : List AV) (m : List Bool), (maskTs l m).length = l.length
 | [], _ => rfl
 | a :: l, m => by simp [maskTs, maskTs_length l]
theorem maskTs_get : ∀ (l : List AV) (m : List Bool) (t : Nat), (maskTs l m).getD t .unk = l.getD t .unk ∨ (maskTs l m).getD t .unk = .unk
 | [], m, t => .inr rfl
 | a :: l, m, 0 => by
  simp only [maskTs, List.getD_cons_zero]
  split
  ·exact .inl rfl
  ·exact .inr rfl
 | a :: l, m, t + 1 => by simpa [maskTs] using maskTs_get l m.tail t
def callSt (P : Program) (o : Oper) (f nt : Nat) (mask : List Bool) (ts : List AV) (mem : List Blk) (a : Act) : Option St :=
 match o.op with
 | .call { callee := .value x, args := args, argTypes := _ } =>
  match ev ts x, evArgs ts args.toList with
  | some (.fn g caps), some as =>
   match capsL caps with
   | some cs =>
    if g = f ∧ (callable P g && (cs.all (·.flat) && ((as ++ cs).all (fun x => refsLt mem.length x && notTup x) && (maskTs ts mask).all (refsLt mem.length)))) = true then
     some ((as ++ cs) ++ List.replicate (nt - (as ++ cs).length) .unk, mem ++ [.sav (maskTs ts mask) a])
    else none
   | none => none
  | _, _ => none
 | _ => none
theorem args_tmps {w : World} {G : Gh} : ∀ (l : List AV) (vs : List Value), (∀ a ∈ l, notTup a = true) → ArgsR w G l vs → ∀ t, t < l.length → ValR w G (l.getD t .unk) (vs.getD t undef)
 | [], vs, _, _, t, ht => by simp at ht
 | a :: l, vs, hn, hA, t, ht => by
  obtain ⟨v, t', rfl, h1, h2⟩ := hA
  cases t with
  | zero => exact ValR.of0 h1 (notTup_ok (hn a (by simp)))
  | succ t => simpa using args_tmps l t' (fun x hx => hn x (by simp [hx])) h2 t (by simpa using ht)
theorem enter_tmps {w : World} {G : Gh} {l : List AV} {vs : List Value} (n : Nat) (hn : ∀ a ∈ l, notTup a = true) (hA : ArgsR w G l vs) : TmpsR w G (l ++ List.replicate (n - l.length) .unk) { tmps := vs.toArray ++ Array.replicate (n - vs.toArray.size) undef, defers := [] } := by
 have hlen := args_length _ _ hA
 refine ⟨by simp [hlen], fun t => ?_⟩
 rcases Nat.lt_or_ge t l.length with h1 | h1
 ·have := args_tmps l vs hn hA t h1
  have e1 : (l ++ List.replicate (n - l.length) AV.unk).getD t .unk = l.getD t .unk := by
   simp only [List.getD_eq_getElem?_getD, List.getElem?_append_left h1]
  have e2 : (vs.toArray ++ Array.replicate (n - vs.toArray.size) undef).getD t undef = vs.getD t undef := by
   have h2 : t < vs.toArray.size := by simp [hlen]; exact h1
   simp only [Array.getD_eq_getD_getElem?, List.getD_eq_getElem?_getD, Array.getElem?_append_left h2]
   simp
  rw [e1]
  show ValR w G (l.getD t .unk) ((vs.toArray ++ Array.replicate (n - vs.toArray.size) undef).getD t undef)
  rw [e2]
  exact this
 ·have e1 : (l ++ List.replicate (n - l.length) AV.unk).getD t .unk = .unk := by
   simp only [List.getD_eq_getElem?_getD, List.getElem?_append_right h1, List.getElem?_replicate]
   split <;> rfl
  rw [e1]
  trivial
theorem addSav_ok {B : Nat} {w0 : World} {fz0 : Nat → Prop} {ts ts' : List AV} {mem : List Blk} {G : Gh} {a : Act} {w : World} (hs : StR B w0 fz0 ts mem G a w) (mask : List Bool) (hr : (maskTs ts mask).all (refsLt mem.length) = true)
  {a' : Act} (ht : TmpsR w G ts' a') (hd : a'.defers = []) (hrt : ts'.all (refsLt mem.length) = true) : StR B w0 fz0 ts' (mem ++ [.sav (maskTs ts mask) a]) G a' w := by
 have hsav : ∀ r ∈ (Blk.sav (maskTs ts mask) a).refs, r < mem.length := by
  intro r h
  obtain ⟨x, hx, hr'⟩ := List.mem_flatMap.1 (show r ∈ (maskTs ts mask).flatMap AV.refs from h)
  rw [List.all_eq_true] at hr
  exact refsLt_ok (hr x hx) r hr'
 have hN : NewR w w G G mem.length [.sav (maskTs ts mask) a] := by
  refine ⟨Below.refl _ _, fun i hi => ⟨rfl, rfl⟩, fun _ h => h, fun _ h => .inl h, fun j => ?_, fun j k x hjk h => ?_, fun j x h => ?_⟩
  ·cases j with
   | zero =>
    refine ⟨⟨by rw [maskTs_length]; exact hs.tmps.size, fun t => ?_⟩, hs.defers⟩
    rcases maskTs_get ts mask t with e | e
    ·rw [e]; exact hs.tmps.val t
    ·rw [e]; trivial
   | succ j => trivial
  ·cases j <;> cases h
  ·cases j <;> cases h
 have hm := hs.mem.more hN (fun i h1 _ => lk_big h1) (fun i r hr => .inl (hs.rm i r hr))
 rw [memPut_end] at hm
 refine ⟨fun t r h => ?_, fun i r h => ?_, ht, hm, hs.below, hd, hs.fz1, hs.fz2⟩
 ·rw [List.length_append]
  rcases Nat.lt_or_ge t ts'.length with h1 | h1
  ·rw [List.getD_eq_getElem?_getD, List.getElem?_eq_getElem h1] at h
   rw [List.all_eq_true] at hrt
   have := refsLt_ok (hrt ts'[t] (List.getElem_mem h1)) r h
   omega
  ·rw [List.getD_eq_getElem?_getD, List.getElem?_eq_none h1] at h; cases h
 ·rw [List.length_append]
  have h' : r ∈ (lk (memPut mem mem.length [.sav (maskTs ts mask) a]) i).refs := by rw [memPut_end]; exact h
  rw [lk_memPut] at h'
  split at h'
  ·rename_i hh
   have : i - mem.length = 0 := by simp at hh; omega
   rw [this] at h'
   have := hsav r h'
   simp; omega
  ·have := hs.rm i r h'; simp; omega
theorem TO.inl {P : Program} {B : Nat} {w0 : World} {fz0 : Nat → Prop} {ops : Array Oper} {k f : Nat} {ts : List AV} {mem : List Blk} {Q : Exit → Act → World → Prop} {o : Oper} {fn : Func} {c : Code} (mask : List Bool) (K : Act → World → Prop)
  (hok : ops[k]? = some o) (hg : evGuard ops.toList ts o = some true) (hf : P.funcs[f]? = some fn) (hb : fn.body = some c)
  (hK : ∀ a w, K a w → wpOps P ops Q (List.range' (k + 1) (ops.size - (k + 1))) a w)
  (h : ∀ a, ∃ st, callSt P o f fn.ntmps mask ts mem a = some st ∧ T P B w0 fz0 c st.1 st.2 (Back P fn o.dst a K)) : TO P B w0 fz0 ops k ts mem Q := by
 intro G a w hs
 obtain ⟨st, hst, hT⟩ := h a
 have hlt : k < ops.size := (Array.getElem?_eq_some_iff.1 hok).1
 rw [show ops.size - k = (ops.size - (k + 1)) + 1 by omega, List.range'_succ]
 simp only [wpOps, hok]
 rw [evGuard_ok hs.tmps hg]
 simp only [if_true]
 refine .inl ?_
 unfold callSt at hst
 split at hst
 ·rename_i x args tys ho
  split at hst
  ·rename_i g caps as hx has
   split at hst
   ·rename_i cs hcs
    split at hst
    ·rename_i hcond
     obtain ⟨rfl, hc⟩ := hcond
     simp only [Bool.and_eq_true] at hc
     obtain ⟨hcall, hflat, hargs, hmask⟩ := hc
     simp only [Option.some.injEq] at hst
     subst hst
     rw [List.all_eq_true] at hflat
     obtain ⟨vs, e1, hcv⟩ := (show ∃ vs : List Value, [a.eval x] = [Value.func (.func g) #[] vs.toArray] ∧ CellsR w G caps vs from ev_ok hs.tmps hx)
     have ef : a.eval x = .func (.func g) #[] vs.toArray := by simpa using e1
     have hA := evArgs_ok hs.tmps args.toList as has
     have hB := capsL_ok caps cs vs hcs hflat hcv
     have hAB := ArgsR.append hA hB
     have hrun : (execOp a.eval o).run P w = .ok (.enter g (args.toList.map a.eval ++ vs).toArray) w := by
      have e2 : (#[] ++ args.map a.eval ++ vs.toArray : Array Value) = (args.toList.map a.eval ++ vs).toArray := by
       apply Array.ext'; simp
      simp only [execOp, ho, resolve, ef, Deferred.ofValue, Sem.run_bind, Sem.run_pure, Result.andThen_ok, invoke]
      rw [run_callFunc hcall, e2]
     unfold Oper.wp
     rw [hrun]
     refine calls_of_wp hf hb ?_
     rw [List.all_eq_true] at hargs
     have hr1 : ((as ++ cs) ++ List.replicate (fn.ntmps - (as ++ cs).length) AV.unk).all (refsLt mem.length) = true := by
      rw [List.all_eq_true]
      intro y hy
      rcases List.mem_append.1 hy with hy | hy
      ·have := hargs y hy
       simp only [Bool.and_eq_true] at this
       exact this.1
      ·rw [(List.mem_replicate.1 hy).2]; rfl
     have hst := addSav_ok hs mask hmask (enter_tmps fn.ntmps (fun y hy => by have := hargs y hy; simp only [Bool.and_eq_true] at this; exact this.2) hAB) rfl hr1
     refine wp_mono (hT G _ w hst) fun e a' w' hq => ?_
     cases e with
     | normal =>
      obtain ⟨h1, v, h2, v', h3, h4⟩ := hq
      cases h3
      exact ⟨h1, v, h2, hK _ _ h4⟩
     | ret =>
      obtain ⟨h1, v, h2, v', h3, h4⟩ := hq
      cases h3
      exact ⟨h1, v, h2, hK _ _ h4⟩
     | panic chain => obtain ⟨_, v', h3, _⟩ := hq; cases h3
     | outgrown => obtain ⟨v', h3, _⟩ := hq; cases h3
     | _ => exact hq.elim
    ·cases hst
   ·cases hst
  ·cases hst
 ·cases hst
theorem X.back {P : Program} {B : Nat} {w0 : World} {fz0 : Nat → Prop} {ts ts0 : List AV} {mem : List Blk} {fn : Func} {d : Option Tmp} {a : Act} {K : Act → World → Prop} {res : AV} {C : Prop} {j : Nat} (hr : evRes P ts mem fn.results.toList = some (res, C)) (hC : C)
  (hj : lk mem j = .sav ts0 a) (hlt : refsLt mem.length res = true) (h : ∀ G a' w', StR B w0 fz0 (tput ts0 d res) (mem.set j .dead) G a' w' → K a' w') :
  X P B w0 fz0 .ret ts mem (Back P fn d a K) ∧ X P B w0 fz0 .normal ts mem (Back P fn d a K) := by
 have main : ∀ G x w, StR B w0 fz0 ts mem G x w → x.defers = [] ∧ ∃ v, (results fn x.tmps).run P w = .ok v w ∧ ∃ v', Ending.returned v = .returned v' ∧ K (a.put d v') w := by
  intro G x w hs
  obtain ⟨v, h1, h2⟩ := evRes_ok hr hC hs.mem hs.tmps
  have hb := hs.mem.blk j
  rw [hj] at hb
  obtain ⟨ht0, hd0⟩ := hb
  refine ⟨hs.defers, v, h1, v, rfl, h G _ w ⟨fun t r hr' => ?_, fun i r hr' => ?_, ht0.put d h2, hs.mem.congr (fun i => ?_), hs.below, by rw [put_defers]; exact hd0, hs.fz1, hs.fz2⟩⟩
  ·rw [List.length_set]
   exact tput_refs (fun t r h' => hs.rm j r (by rw [hj]; exact sav_refs h')) (Nat.le_refl _) (refsLt_ok hlt) t r hr'
  ·rw [List.length_set]
   rw [lk_set] at hr'
   split at hr'
   ·cases hr'
   ·exact hs.rm i r hr'
  ·rw [lk_set]
   split
   ·exact .inr rfl
   ·exact .inl rfl
 exact ⟨fun G x w hs => main G x w hs, fun G x w hs => main G x w hs⟩
def TOS (P : Program) (w0 : World) (fz0 : Nat → Prop) (ops : Array Oper) (k : Nat) (st : St) (Q : Exit → Act → World → Prop) : Prop := TO P w0.drawn w0 fz0 ops k st.1 st.2 Q
def KS (P : Program) (w0 : World) (fz0 : Nat → Prop) (K : Act → World → Prop) (st : St) : Prop := ∀ G a w, StR w0.drawn w0 fz0 st.1 st.2 G a w → K a w
def evK (P : Program) (ops : Array Oper) (k m : Nat) (hs : List Hint) (st : St) : St :=
 match st with
 | (ts, mem) =>
  match evOps P ops.toList ((ops.toList.drop k).take m) hs ts mem with
  | some (t, m, _) => (t, m)
  | none => ([], [])
def okK (P : Program) (ops : Array Oper) (k m : Nat) (hs : List Hint) (st : St) : Prop :=
 match st with
 | (ts, mem) =>
  match evOps P ops.toList ((ops.toList.drop k).take m) hs ts mem with
  | some (_, _, C) => C
  | none => False
def callK (P : Program) (ops : Array Oper) (k f nt : Nat) (mask : List Bool) (st : St) (a : Act) : Option St :=
 match ops[k]? with
 | some o =>
  match evGuard ops.toList st.1 o with
  | some true => callSt P o f nt mask st.1 st.2 a
  | _ => none
 | none => none
def dstK (ops : Array Oper) (k : Nat) : Option Tmp := (ops[k]?).bind (·.dst)
def backSt (P : Program) (fn : Func) (d : Option Tmp) (j : Nat) (ts0 : List AV) (st : St) : Option (St × Prop) :=
 match evRes P st.1 st.2 fn.results.toList with
 | some (res, C) => if refsLt st.2.length res = true then some ((tput ts0 d res, st.2.set j .dead), C) else none
 | none => none
section
variable {P : Program} {w0 : World} {fz0 : Nat → Prop} {st : St} {Q : Exit → Act → World → Prop} {ops : Array Oper} {k : Nat}
theorem TS.opsOf {id : Nat} (h : TOS P w0 fz0 ops 0 st Q) : TS P w0 fz0 (.region id ops false) st Q := T.region h
theorem TS.drawH {id : Nat} (m : Nat) (kill : List (Nat × Nat)) (hs : List Hint) (hmo : P.follows .mixedOrders = true) (hok : hdOk P m kill ops hs st) (hn : TOS P w0 fz0 ops m (hdR P m kill ops hs st) Q) : TS P w0 fz0 (.region id ops true) st Q := TS.head m kill hs hmo hok hn
theorem TOS.run (m : Nat) (hs : List Hint) (hm : Nat.ble (k + m) ops.size = true) (hok : okK P ops k m hs st) (hn : TOS P w0 fz0 ops (k + m) (evK P ops k m hs st) Q) : TOS P w0 fz0 ops k st Q := by
 obtain ⟨ts, mem⟩ := st
 have hm' := Nat.le_of_ble_eq_true hm
 have hl : ((ops.toList.drop k).take m).length = m := by simp; omega
 unfold okK at hok
 simp only at hok
 cases he : evOps P ops.toList ((ops.toList.drop k).take m) hs ts mem with
 | none => rw [he] at hok; exact hok.elim
 | some r =>
  obtain ⟨t, mm, C⟩ := r
  rw [he] at hok
  unfold TOS evK at hn
  simp only [he] at hn
  exact TO.run _ k hs ts t mem mm C (by rw [hl]) he hok (by rw [hl]; exact hn)
theorem TOS.nil (h : Nat.ble ops.size k = true) (hn : XS P w0 fz0 .normal st Q) : TOS P w0 fz0 ops k st Q := TO.nil (Nat.le_of_ble_eq_true h) hn
theorem TOS.callK {fn : Func} {c : Code} (f : Nat) (mask : List Bool) (K : Act → World → Prop) (hf : P.funcs[f]? = some fn) (hb : fn.body = some c) (hK : ∀ a w, K a w → wpOps P ops Q (List.range' (k + 1) (ops.size - (k + 1))) a w)
  (h : ∀ a, ∃ st', Go.Proofs.YtghbnolfadnoaaaGreat.callK P ops k f fn.ntmps mask st a = some st' ∧ TS P w0 fz0 c st' (Back P fn (dstK ops k) a K)) : TOS P w0 fz0 ops k st Q := by
 cases ho : ops[k]? with
 | none =>
  obtain ⟨st', h1, _⟩ := h ⟨#[], []⟩
  unfold Go.Proofs.YtghbnolfadnoaaaGreat.callK at h1
  rw [ho] at h1; cases h1
 | some o =>
  have hg : evGuard ops.toList st.1 o = some true := by
   obtain ⟨st', h1, _⟩ := h ⟨#[], []⟩
   unfold Go.Proofs.YtghbnolfadnoaaaGreat.callK at h1
   rw [ho] at h1
   simp only at h1
   split at h1
   ·assumption
   ·cases h1
  refine TO.inl mask K ho hg hf hb hK fun a => ?_
  obtain ⟨st', h1, h2⟩ := h a
  unfold Go.Proofs.YtghbnolfadnoaaaGreat.callK at h1
  rw [ho] at h1
  simp only [hg] at h1
  unfold dstK at h2
  rw [ho] at h2
  exact ⟨st', h1, h2⟩
theorem TOS.call {fn : Func} {c : Code} (f : Nat) (mask : List Bool) (hf : P.funcs[f]? = some fn) (hb : fn.body = some c)
  (h : ∀ a, ∃ st', Go.Proofs.YtghbnolfadnoaaaGreat.callK P ops k f fn.ntmps mask st a = some st' ∧ TS P w0 fz0 c st' (Back P fn (dstK ops k) a (wpOps P ops Q (List.range' (k + 1) (ops.size - (k + 1)))))) : TOS P w0 fz0 ops k st Q :=
 TOS.callK f mask _ hf hb (fun _ _ h => h) h
theorem TOS.callJ {D : Type} {fn : Func} {c : Code} (tm : D → St) (I : D → Prop) (f : Nat) (mask : List Bool) (hf : P.funcs[f]? = some fn) (hb : fn.body = some c) (h1 : ∀ d, I d → TOS P w0 fz0 ops (k + 1) (tm d) Q)
  (h : ∀ a, ∃ st', Go.Proofs.YtghbnolfadnoaaaGreat.callK P ops k f fn.ntmps mask st a = some st' ∧ TS P w0 fz0 c st' (Back P fn (dstK ops k) a (AnyS P w0 fz0 tm I))) : TOS P w0 fz0 ops k st Q :=
 TOS.callK f mask _ hf hb (fun a w ⟨d, G, hi, hs⟩ => h1 d hi G a w hs) h
theorem XS.back {fn : Func} {d : Option Tmp} {a : Act} {K : Act → World → Prop} (j : Nat) (ts0 : List AV) (st' : St) (C : Prop) (hj : lk st.2 j = .sav ts0 a) (h : backSt P fn d j ts0 st = some (st', C)) (hC : C) (hn : KS P w0 fz0 K st') : XS P w0 fz0 .ret st (Back P fn d a K) ∧ XS P w0 fz0 .normal st (Back P fn d a K) := by
 unfold backSt at h
 split at h
 ·rename_i res D hr
  split at h
  ·rename_i hlt
   simp only [Option.some.injEq, Prod.mk.injEq] at h
   obtain ⟨rfl, rfl⟩ := h
   exact X.back hr hC hj hlt hn
  ·cases h
 ·cases h
theorem TOS.wk (x : Wk) (h : TOS P w0 fz0 ops k (wk1 x st) Q) : TOS P w0 fz0 ops k st Q := by
 intro G a w hs
 obtain ⟨G', hs'⟩ := wk1_ok hs x
 exact h G' a w hs'
theorem KS.opsOf (h : TOS P w0 fz0 ops k st Q) : KS P w0 fz0 (wpOps P ops Q (List.range' k (ops.size - k))) st := h
end
end Go.Proofs.YtghbnolfadnoaaaGreat
