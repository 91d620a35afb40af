/- A machine of values, part 20: drawn regions, reckoned. -/
import Derived.Test.YtdomallemkbinaaGreatDoorAm19
namespace Go.Proofs.YtdomallemkbinaaGreatDoor
open Go Go.RowKit
set_option linter.unusedVariables false

/-- what lies ahead of each operation, as bits -/
def maskOf (acc : List Nat) (es : List Edge) : Nat := es.foldl (fun s e => if Region.binds .any e then s ||| (2 ^ e.on ||| acc.getD e.on 0) else s) 0
def befs (acc : List Nat) : List Oper → List Nat
  | [] => acc
  | o :: l => befs (acc ++ [maskOf acc o.after.toList]) l
theorem maskOf_bit (acc : List Nat) (es : List Edge) (j : Nat) (h : (maskOf acc es).testBit j = true) : ∃ e ∈ es, Region.binds .any e = true ∧ (j = e.on ∨ (acc.getD e.on 0).testBit j = true) := by
  have main : ∀ (es : List Edge) (s : Nat), (es.foldl (fun s e => if Region.binds .any e then s ||| (2 ^ e.on ||| acc.getD e.on 0) else s) s).testBit j = true → s.testBit j = true ∨ ∃ e ∈ es, Region.binds .any e = true ∧ (j = e.on ∨ (acc.getD e.on 0).testBit j = true) := by
    intro es
    induction es with
    | nil => intro s h; exact .inl h
    | cons e es ih =>
      intro s h
      rw [List.foldl_cons] at h
      rcases ih _ h with h1 | ⟨e', he', h1⟩
      · split at h1
        · rename_i hb
          rw [Nat.testBit_or, Nat.testBit_or, Bool.or_eq_true, Bool.or_eq_true] at h1
          rcases h1 with h1 | h1 | h1
          · exact .inl h1
          · refine .inr ⟨e, by simp, hb, .inl ?_⟩
            rw [Nat.testBit_two_pow] at h1
            exact (of_decide_eq_true h1).symm
          · exact .inr ⟨e, by simp, hb, .inr h1⟩
        · exact .inl h1
      · exact .inr ⟨e', by simp [he'], h1⟩
  rcases main es 0 h with h1 | h1
  · simp at h1
  · exact h1
theorem befs_prefix : ∀ (l : List Oper) (acc : List Nat), ∃ r, befs acc l = acc ++ r ∧ r.length = l.length
  | [], acc => ⟨[], by simp [befs], rfl⟩
  | o :: l, acc => by
    obtain ⟨r, h1, h2⟩ := befs_prefix l (acc ++ [maskOf acc o.after.toList])
    exact ⟨maskOf acc o.after.toList :: r, by simp [befs, h1], by simp [h2]⟩
theorem befs_get : ∀ (l : List Oper) (acc : List Nat) (i : Nat) (o : Oper), l[i]? = some o → ∀ j, ((befs acc l).getD (acc.length + i) 0).testBit j = true →
    ∃ e ∈ o.after.toList, Region.binds .any e = true ∧ (j = e.on ∨ ((befs acc l).getD e.on 0).testBit j = true)
  | [], acc, i, o, h, j, _ => by simp at h
  | o' :: l, acc, 0, o, h, j, hj => by
    simp at h; subst h
    obtain ⟨r, h1, h2⟩ := befs_prefix l (acc ++ [maskOf acc o'.after.toList])
    have e1 : befs acc (o' :: l) = acc ++ (maskOf acc o'.after.toList :: r) := by simp [befs, h1]
    rw [e1] at hj ⊢
    have e2 : (acc ++ (maskOf acc o'.after.toList :: r)).getD (acc.length + 0) 0 = maskOf acc o'.after.toList := by
      simp [List.getD_eq_getElem?_getD]
    rw [e2] at hj
    obtain ⟨e, he, hb, hor⟩ := maskOf_bit acc _ j hj
    refine ⟨e, he, hb, hor.imp id (fun h => ?_)⟩
    rcases Nat.lt_or_ge e.on acc.length with hlt | hge
    · rw [List.getD_eq_getElem?_getD, List.getElem?_append_left hlt]
      rwa [List.getD_eq_getElem?_getD] at h
    · rw [List.getD_eq_getElem?_getD, List.getElem?_eq_none hge] at h
      simp at h
  | o' :: l, acc, i + 1, o, h, j, hj => by
    have := befs_get l (acc ++ [maskOf acc o'.after.toList]) i o (by simpa using h) j
    simp only [befs] at hj ⊢
    refine this ?_
    rw [List.length_append, List.length_singleton, show acc.length + 1 + i = acc.length + (i + 1) by omega]
    exact hj

/-- the outcome of an operation that only reads or makes -/
structure PR where
  dst : Option Tmp
  av : AV
  base : Nat
  new : List Blk
  eff : Option (Nat × Blk)
def minTs (b : Nat → Bool) : Nat → List PR → List AV → List AV
  | _, [], ts => ts
  | k, r :: rs, ts => minTs b (k + 1) rs (if b k then tput ts r.dst r.av else ts)
def minMem (b : Nat → Bool) : Nat → List PR → List Blk → List Blk
  | _, [], m => m
  | k, r :: rs, m => minMem b (k + 1) rs (if b k then memPut m r.base r.new else m)
theorem tput_get (ts : List AV) (d : Option Tmp) (v : AV) (t : Nat) : (d = some t ∧ t < ts.length ∧ (tput ts d v).getD t .unk = v) ∨ (tput ts d v).getD t .unk = ts.getD t .unk := by
  cases d with
  | none => exact .inr rfl
  | some d =>
    simp only [tput, List.getD_eq_getElem?_getD, List.getElem?_set]
    by_cases e : d = t
    · subst e
      by_cases hlt : d < ts.length
      · exact .inl ⟨rfl, hlt, by simp [hlt]⟩
      · exact .inr (by simp [hlt])
    · exact .inr (by rw [if_neg e])
theorem tput_length (ts : List AV) (d : Option Tmp) (v : AV) : (tput ts d v).length = ts.length := by cases d <;> simp [tput]
theorem minTs_length (b : Nat → Bool) : ∀ (rs : List PR) (k : Nat) (ts : List AV), (minTs b k rs ts).length = ts.length
  | [], k, ts => rfl
  | r :: rs, k, ts => by
    simp only [minTs, minTs_length b rs (k + 1)]
    split
    · rw [tput_length]
    · rfl
theorem minTs_get (b : Nat → Bool) : ∀ (rs : List PR) (k : Nat) (ts : List AV) (t : Nat), (∃ (j : Nat) (r : PR), rs[j]? = some r ∧ b (k + j) = true ∧ r.dst = some t ∧ (minTs b k rs ts).getD t .unk = r.av) ∨ (minTs b k rs ts).getD t .unk = ts.getD t .unk
  | [], k, ts, t => .inr rfl
  | r :: rs, k, ts, t => by
    simp only [minTs]
    rcases minTs_get b rs (k + 1) (if b k then tput ts r.dst r.av else ts) t with ⟨j, r', h1, h2, h3, h4⟩ | h
    · exact .inl ⟨j + 1, r', by simpa using h1, by rw [show k + (j + 1) = k + 1 + j by omega]; exact h2, h3, h4⟩
    · rw [h]
      split
      · rename_i hb
        rcases tput_get ts r.dst r.av t with ⟨h1, _, h2⟩ | h2
        · exact .inl ⟨0, r, rfl, hb, h1, h2⟩
        · exact .inr h2
      · exact .inr rfl
def inRg (r : PR) (x : Nat) : Prop := r.base ≤ x ∧ x < r.base + r.new.length
theorem minMem_get (b : Nat → Bool) : ∀ (rs : List PR) (k : Nat) (m : List Blk) (x : Nat), (∃ (j : Nat) (r : PR), rs[j]? = some r ∧ b (k + j) = true ∧ inRg r x ∧ lk (minMem b k rs m) x = lk r.new (x - r.base)) ∨ ((∀ (j : Nat) (r : PR), rs[j]? = some r → b (k + j) = true → ¬ inRg r x) ∧ lk (minMem b k rs m) x = lk m x)
  | [], k, m, x => .inr ⟨fun j r h => by simp at h, rfl⟩
  | r :: rs, k, m, x => by
    simp only [minMem]
    rcases minMem_get b rs (k + 1) (if b k then memPut m r.base r.new else m) x with ⟨j, r', h1, h2, h3, h4⟩ | ⟨h1, h2⟩
    · exact .inl ⟨j + 1, r', by simpa using h1, by rw [show k + (j + 1) = k + 1 + j by omega]; exact h2, h3, h4⟩
    · rw [h2]
      by_cases hb : b k = true
      · rw [if_pos hb, lk_memPut]
        by_cases hx : r.base ≤ x ∧ x < r.base + r.new.length
        · rw [if_pos hx]; exact .inl ⟨0, r, rfl, hb, hx, rfl⟩
        · rw [if_neg hx]
          refine .inr ⟨fun j r' hj hbj => ?_, rfl⟩
          cases j with
          | zero => simp at hj; subst hj; exact hx
          | succ j => exact h1 j r' (by simpa using hj) (by rw [show k + 1 + j = k + (j + 1) by omega]; exact hbj)
      · rw [if_neg hb]
        refine .inr ⟨fun j r' hj hbj => ?_, rfl⟩
        cases j with
        | zero => exact absurd hbj (by simpa using hb)
        | succ j => exact h1 j r' (by simpa using hj) (by rw [show k + 1 + j = k + (j + 1) by omega]; exact hbj)
/-- ranges one behind the other -/
def asc : Nat → List PR → Bool
  | _, [] => true
  | b, r :: rs => decide (b ≤ r.base) && asc (r.base + r.new.length) rs
theorem asc_ge : ∀ (rs : List PR) (b : Nat), asc b rs = true → ∀ (j : Nat) (r : PR), rs[j]? = some r → b ≤ r.base
  | [], b, _, j, r, h => by simp at h
  | r' :: rs, b, h, j, r, hj => by
    simp only [asc, Bool.and_eq_true, decide_eq_true_eq] at h
    cases j with
    | zero => simp at hj; subst hj; exact h.1
    | succ j => have := asc_ge rs _ h.2 j r (by simpa using hj); omega
theorem asc_apart : ∀ (rs : List PR) (b : Nat), asc b rs = true → ∀ (i j : Nat) (p q : PR) (x : Nat), rs[i]? = some p → rs[j]? = some q → inRg p x → inRg q x → i = j
  | [], b, _, i, j, p, q, x, h, _, _, _ => by simp at h
  | r :: rs, b, h, i, j, p, q, x, hi, hj, hp, hq => by
    simp only [asc, Bool.and_eq_true, decide_eq_true_eq] at h
    cases i with
    | zero =>
      cases j with
      | zero => rfl
      | succ j =>
        simp at hi; subst hi
        have := asc_ge rs _ h.2 j q (by simpa using hj)
        unfold inRg at hp hq; omega
    | succ i =>
      cases j with
      | zero =>
        simp at hj; subst hj
        have := asc_ge rs _ h.2 i p (by simpa using hi)
        unfold inRg at hp hq; omega
      | succ j => rw [asc_apart rs _ h.2 i j p q x (by simpa using hi) (by simpa using hj) hp hq]
/-- different destinations -/
def okDst (len : Nat) : List PR → Bool
  | [] => true
  | r :: rs => (match r.dst with | some d => decide (d < len) && rs.all (fun q => q.dst != some d) | none => true) && okDst len rs
theorem okDst_lt {len : Nat} : ∀ (rs : List PR), okDst len rs = true → ∀ (j : Nat) (r : PR) (d : Nat), rs[j]? = some r → r.dst = some d → d < len
  | [], _, j, r, d, h, _ => by simp at h
  | r' :: rs, h, j, r, d, hj, hd => by
    simp only [okDst, Bool.and_eq_true] at h
    cases j with
    | zero =>
      simp at hj; subst hj
      rw [hd] at h
      simp only [Bool.and_eq_true, decide_eq_true_eq] at h
      exact h.1.1
    | succ j => exact okDst_lt rs h.2 j r d (by simpa using hj) hd
theorem okDst_ne {len : Nat} : ∀ (rs : List PR), okDst len rs = true → ∀ (i j : Nat) (p q : PR) (d : Nat), rs[i]? = some p → rs[j]? = some q → p.dst = some d → q.dst = some d → i = j
  | [], _, i, j, p, q, d, h, _, _, _ => by simp at h
  | r :: rs, h, i, j, p, q, d, hi, hj, hp, hq => by
    simp only [okDst, Bool.and_eq_true] at h
    have one : ∀ (s : PR) (t : PR) (k : Nat), r.dst = some d → rs[k]? = some t → t.dst = some d → False := by
      intro s t k h1 h2 h3
      rw [h1] at h
      simp only [Bool.and_eq_true, List.all_eq_true] at h
      have := h.1.2 t (List.mem_of_getElem? h2)
      rw [h3] at this
      simp at this
    cases i with
    | zero =>
      cases j with
      | zero => rfl
      | succ j => simp at hi; subst hi; exact (one r q j hp (by simpa using hj) hq).elim
    | succ i =>
      cases j with
      | zero => simp at hj; subst hj; exact (one r p i hq (by simpa using hi) hp).elim
      | succ j => rw [okDst_ne rs h.2 i j p q d (by simpa using hi) (by simpa using hj) hp hq]
/-- what a result names was made by itself, or by what lies ahead -/
def okRef1 (mask : Nat) (j : Nat) (x : Nat) : Nat → List PR → Bool
  | _, [] => true
  | k, p :: l => (decide (k = j) || (mask.testBit k || !(decide (p.base ≤ x) && decide (x < p.base + p.new.length)))) && okRef1 mask j x (k + 1) l
theorem okRef1_ok {mask j x : Nat} : ∀ (l : List PR) (k : Nat), okRef1 mask j x k l = true → ∀ (i : Nat) (p : PR), l[i]? = some p → k + i = j ∨ mask.testBit (k + i) = true ∨ ¬ inRg p x
  | [], k, _, i, p, h => by simp at h
  | q :: l, k, h, i, p, hi => by
    simp only [okRef1, Bool.and_eq_true, Bool.or_eq_true, decide_eq_true_eq, Bool.not_eq_true'] at h
    cases i with
    | zero =>
      simp at hi; subst hi
      rcases h.1 with h1 | h1 | h1
      · exact .inl h1
      · exact .inr (.inl h1)
      · refine .inr (.inr fun hr => ?_)
        unfold inRg at hr
        simp [hr.1, hr.2] at h1
    | succ i =>
      have := okRef1_ok l (k + 1) h.2 i p (by simpa using hi)
      rwa [show k + 1 + i = k + (i + 1) by omega] at this
def effRefs : Option (Nat × Blk) → List Nat
  | some (_, b) => b.refs
  | none => []
def prRefs (r : PR) : List Nat := r.av.refs ++ (r.new.flatMap Blk.refs ++ effRefs r.eff)
def okRefs (masks : List Nat) (rs : List PR) : Nat → List PR → Bool
  | _, [] => true
  | j, r :: l => (prRefs r).all (fun x => okRef1 (masks.getD j 0) j x 0 rs) && okRefs masks rs (j + 1) l
theorem okRefs_ok {masks : List Nat} {rs : List PR} : ∀ (l : List PR) (j : Nat), okRefs masks rs j l = true → ∀ (i : Nat) (r : PR), l[i]? = some r → ∀ x ∈ prRefs r, ∀ (k : Nat) (p : PR), rs[k]? = some p → k = j + i ∨ (masks.getD (j + i) 0).testBit k = true ∨ ¬ inRg p x
  | [], j, _, i, r, h => by simp at h
  | q :: l, j, h, i, r, hi => by
    simp only [okRefs, Bool.and_eq_true, List.all_eq_true] at h
    cases i with
    | zero =>
      simp at hi; subst hi
      intro x hx k p hk
      have := okRef1_ok rs 0 (h.1 x hx) k p hk
      simpa using this
    | succ i =>
      have := okRefs_ok l (j + 1) h.2 i r (by simpa using hi)
      rwa [show j + 1 + i = j + (i + 1) by omega] at this
def tsUnk (ops : List Oper) (ts : List AV) : List AV := ops.foldl (fun ts o => tput ts o.dst .unk) ts
theorem tsUnk_length : ∀ (ops : List Oper) (ts : List AV), (tsUnk ops ts).length = ts.length
  | [], ts => rfl
  | o :: l, ts => by simp only [tsUnk, List.foldl_cons]; rw [show List.foldl _ (tput ts o.dst .unk) l = tsUnk l (tput ts o.dst .unk) from rfl, tsUnk_length l, tput_length]
theorem tsUnk_get : ∀ (ops : List Oper) (ts : List AV) (t : Nat), (tsUnk ops ts).getD t .unk = .unk ∨ ((∀ o ∈ ops, o.dst ≠ some t) ∧ (tsUnk ops ts).getD t .unk = ts.getD t .unk)
  | [], ts, t => .inr ⟨fun _ h => by simp at h, rfl⟩
  | o :: l, ts, t => by
    have h := tsUnk_get l (tput ts o.dst .unk) t
    simp only [tsUnk, List.foldl_cons] at h ⊢
    rcases h with h | ⟨h1, h2⟩
    · exact .inl h
    · rcases tput_get ts o.dst .unk t with ⟨_, _, h3⟩ | h3
      · exact .inl (by rw [h2, h3])
      · by_cases hd : o.dst = some t
        · left
          rw [h2]
          rw [hd]
          simp only [tput, List.getD_eq_getElem?_getD, List.getElem?_set]
          split <;> (try split) <;> simp_all
        · refine .inr ⟨fun q hq => ?_, by rw [h2, h3]⟩
          rcases List.mem_cons.1 hq with rfl | hq
          · exact hd
          · exact h1 q hq
/-- the blocks that an operation may look at: not those that another writes behind it or ahead of it, nobody knows which -/
def killMem (masks : List Nat) (i : Nat) : List (Nat × Nat) → List Blk → List Blk
  | [], m => m
  | (j, b) :: l, m => killMem masks i l (if j = i then m else if (masks.getD j 0).testBit i || (masks.getD i 0).testBit j then m else m.set b .dead)
theorem killMem_dead (masks : List Nat) (i : Nat) : ∀ (kill : List (Nat × Nat)) (mem : List Blk) (x : Nat), lk mem x = .dead → lk (killMem masks i kill mem) x = .dead
  | [], mem, x, h => h
  | (j, b) :: kill, mem, x, h => by
    simp only [killMem]
    refine killMem_dead masks i kill _ x ?_
    split
    · exact h
    · split
      · exact h
      · rw [lk_set]; split
        · rfl
        · exact h
theorem killMem_get (masks : List Nat) (i : Nat) : ∀ (kill : List (Nat × Nat)) (mem : List Blk) (x : Nat), lk (killMem masks i kill mem) x = .dead ∨ ((∀ j, (j, x) ∈ kill → j = i ∨ ((masks.getD j 0).testBit i || (masks.getD i 0).testBit j) = true) ∧ lk (killMem masks i kill mem) x = lk mem x)
  | [], mem, x => .inr ⟨fun j h => by simp at h, rfl⟩
  | (j, b) :: kill, mem, x => by
    simp only [killMem]
    have next : ∀ m2 : List Blk, lk m2 x = lk mem x → (b = x → j = i ∨ ((masks.getD j 0).testBit i || (masks.getD i 0).testBit j) = true) → lk (killMem masks i kill m2) x = .dead ∨ ((∀ j', (j', x) ∈ (j, b) :: kill → j' = i ∨ ((masks.getD j' 0).testBit i || (masks.getD i 0).testBit j') = true) ∧ lk (killMem masks i kill m2) x = lk mem x) := by
      intro m2 h1 h2
      rcases killMem_get masks i kill m2 x with h | ⟨h3, h4⟩
      · exact .inl h
      · refine .inr ⟨fun j' hj => ?_, by rw [h4, h1]⟩
        rcases List.mem_cons.1 hj with e | hj
        · simp only [Prod.mk.injEq] at e
          obtain ⟨rfl, rfl⟩ := e
          exact h2 rfl
        · exact h3 j' hj
    split
    · rename_i e; exact next mem rfl (fun _ => .inl e)
    · split
      · rename_i e; exact next mem rfl (fun _ => .inr e)
      · by_cases hx : x = b
        · subst hx
          left
          refine killMem_dead masks i kill _ x ?_
          rw [lk_set]; split
          · rfl
          · rename_i h
            exact lk_big (by simp at h; omega)
        · exact next _ (by rw [lk_set, if_neg (by simp [hx])]) (fun e => absurd e.symm hx)
/-- the blocks that were written -/
def effMem (b : Nat → Bool) : Nat → List PR → List Blk → List Blk
  | _, [], m => m
  | k, r :: rs, m => effMem b (k + 1) rs (if b k then (match r.eff with | some (x, y) => memPut m x [y] | none => m) else m)
theorem effMem_get (b : Nat → Bool) : ∀ (rs : List PR) (k : Nat) (m : List Blk) (x : Nat), (∃ (j : Nat) (r : PR) (y : Blk), rs[j]? = some r ∧ b (k + j) = true ∧ r.eff = some (x, y) ∧ lk (effMem b k rs m) x = y ∧ ∀ (j' : Nat) (r' : PR) (y' : Blk), rs[j']? = some r' → b (k + j') = true → r'.eff = some (x, y') → j' ≤ j) ∨
    ((∀ (j : Nat) (r : PR) (y : Blk), rs[j]? = some r → b (k + j) = true → r.eff ≠ some (x, y)) ∧ lk (effMem b k rs m) x = lk m x)
  | [], k, m, x => .inr ⟨fun j r y h => by simp at h, rfl⟩
  | r :: rs, k, m, x => by
    simp only [effMem]
    rcases effMem_get b rs (k + 1) (if b k then (match r.eff with | some (x, y) => memPut m x [y] | none => m) else m) x with ⟨j, r', y, h1, h2, h3, h5, h6⟩ | ⟨h1, h2⟩
    · refine .inl ⟨j + 1, r', y, by simpa using h1, by rw [show k + (j + 1) = k + 1 + j by omega]; exact h2, h3, h5, fun j' r2 y' hj hbj he => ?_⟩
      cases j' with
      | zero => omega
      | succ j' =>
        have := h6 j' r2 y' (by simpa using hj) (by rw [show k + 1 + j' = k + (j' + 1) by omega]; exact hbj) he
        omega
    · rw [h2]
      have rest : ∀ (j : Nat) (r' : PR) (y : Blk), (r :: rs)[j + 1]? = some r' → b (k + (j + 1)) = true → r'.eff ≠ some (x, y) := fun j r' y hj hbj => h1 j r' y (by simpa using hj) (by rw [show k + 1 + j = k + (j + 1) by omega]; exact hbj)
      by_cases hb : b k = true
      · rw [if_pos hb]
        cases he : r.eff with
        | none =>
          refine .inr ⟨fun j r' y hj hbj he' => ?_, rfl⟩
          cases j with
          | zero => simp at hj; subst hj; rw [he] at he'; cases he'
          | succ j => exact rest j r' y hj hbj he'
        | some q =>
          obtain ⟨z, y⟩ := q
          simp only
          rw [lk_memPut]
          by_cases hx : x = z
          · subst hx
            refine .inl ⟨0, r, y, rfl, hb, he, by simp [lk], fun j' r2 y' hj hbj he' => ?_⟩
            cases j' with
            | zero => exact Nat.le_refl _
            | succ j' => exact absurd he' (rest j' r2 y' hj hbj)
          · rw [if_neg (by simp only [List.length_cons, List.length_nil]; omega)]
            refine .inr ⟨fun j r' y' hj hbj he' => ?_, rfl⟩
            cases j with
            | zero =>
              simp at hj; subst hj; rw [he] at he'
              simp only [Option.some.injEq, Prod.mk.injEq] at he'
              exact hx he'.1.symm
            | succ j => exact rest j r' y' hj hbj he'
      · rw [if_neg hb]
        refine .inr ⟨fun j r' y hj hbj he' => ?_, rfl⟩
        cases j with
        | zero => exact absurd hbj (by simpa using hb)
        | succ j => exact rest j r' y hj hbj he'
/-- who writes a block after another has it behind itself -/
def ordAll (masks : List Nat) (k x : Nat) : Nat → List PR → Bool
  | _, [] => true
  | k2, q :: l => (match q.eff with | some (y, _) => y != x || (masks.getD k2 0).testBit k | none => true) && ordAll masks k x (k2 + 1) l
theorem ordAll_ok {masks : List Nat} {k x : Nat} : ∀ (l : List PR) (k2 : Nat), ordAll masks k x k2 l = true → ∀ (j : Nat) (q : PR) (z : Blk), l[j]? = some q → q.eff = some (x, z) → (masks.getD (k2 + j) 0).testBit k = true
  | [], k2, _, j, q, z, h, _ => by simp at h
  | p :: l, k2, h, j, q, z, hj, he => by
    simp only [ordAll, Bool.and_eq_true] at h
    cases j with
    | zero =>
      simp at hj; subst hj
      have h1 := h.1
      rw [he] at h1
      simpa using h1
    | succ j =>
      have := ordAll_ok l (k2 + 1) h.2 j q z (by simpa using hj) he
      rwa [show k2 + 1 + j = k2 + (j + 1) by omega] at this
/-- a block that an operation ahead of this one makes -/
def okNew (mask x : Nat) : Nat → List PR → Bool
  | _, [] => false
  | k, r :: rs => (mask.testBit k && (decide (r.base ≤ x) && decide (x < r.base + r.new.length))) || okNew mask x (k + 1) rs
theorem okNew_ok {mask x : Nat} : ∀ (rs : List PR) (k : Nat), okNew mask x k rs = true → ∃ (j : Nat) (r : PR), rs[j]? = some r ∧ inRg r x ∧ mask.testBit (k + j) = true
  | [], k, h => by simp [okNew] at h
  | r :: rs, k, h => by
    simp only [okNew, Bool.or_eq_true, Bool.and_eq_true, decide_eq_true_eq] at h
    rcases h with h | h
    · exact ⟨0, r, rfl, h.2, h.1⟩
    · obtain ⟨j, q, h1, h2, h3⟩ := okNew_ok rs (k + 1) h
      exact ⟨j + 1, q, by simpa using h1, h2, by rw [show k + (j + 1) = k + 1 + j by omega]; exact h3⟩
/-- each killed block is written by those that are in an order -/
def okEff (n : Nat) (kill : List (Nat × Nat)) (masks : List Nat) (all : List PR) : Nat → List PR → Bool
  | _, [] => true
  | k, r :: rs => (match r.eff with | some (x, _) => (decide (x < n) || okNew (masks.getD k 0) x 0 all) && (kill.contains (k, x) && ordAll masks k x (k + 1) rs) | none => true) && okEff n kill masks all (k + 1) rs
theorem okEff_in {n : Nat} {kill : List (Nat × Nat)} {masks : List Nat} {all : List PR} : ∀ (rs : List PR) (k : Nat), okEff n kill masks all k rs = true → ∀ (j : Nat) (r : PR) (x : Nat) (y : Blk), rs[j]? = some r → r.eff = some (x, y) → (x < n ∨ ∃ (j' : Nat) (r' : PR), all[j']? = some r' ∧ inRg r' x ∧ (masks.getD (k + j) 0).testBit j' = true) ∧ (k + j, x) ∈ kill
  | [], k, _, j, r, x, y, h, _ => by simp at h
  | r' :: rs, k, h, j, r, x, y, hj, he => by
    simp only [okEff, Bool.and_eq_true] at h
    cases j with
    | zero =>
      simp at hj; subst hj
      rw [he] at h
      simp only [Bool.and_eq_true, Bool.or_eq_true, decide_eq_true_eq, List.contains_iff_mem] at h
      refine ⟨h.1.1.imp id fun hh => ?_, h.1.2.1⟩
      obtain ⟨j', r', h1, h2, h3⟩ := okNew_ok all 0 hh
      exact ⟨j', r', h1, h2, by rw [Nat.zero_add] at h3; exact h3⟩
    | succ j => rw [show k + (j + 1) = k + 1 + j by omega]; exact okEff_in rs (k + 1) h.2 j r x y (by simpa using hj) he
theorem okEff_ord {n : Nat} {kill : List (Nat × Nat)} {masks : List Nat} {all : List PR} : ∀ (rs : List PR) (k0 : Nat), okEff n kill masks all k0 rs = true → ∀ (i j : Nat) (p q : PR) (x : Nat) (y z : Blk), i < j → rs[i]? = some p → rs[j]? = some q → p.eff = some (x, y) → q.eff = some (x, z) → (masks.getD (k0 + j) 0).testBit (k0 + i) = true
  | [], k0, _, i, j, p, q, x, y, z, _, h, _, _, _ => by simp at h
  | r :: rs, k0, h, i, j, p, q, x, y, z, hij, hi, hj, hp, hq => by
    simp only [okEff, Bool.and_eq_true] at h
    cases j with
    | zero => omega
    | succ j =>
      cases i with
      | zero =>
        simp at hi; subst hi
        rw [hp] at h
        simp only [Bool.and_eq_true] at h
        have := ordAll_ok rs (k0 + 1) h.1.2.2 j q z (by simpa using hj) hq
        rwa [show k0 + 1 + j = k0 + (j + 1) by omega] at this
      | succ i =>
        have := okEff_ord rs (k0 + 1) h.2 i j p q x y z (by omega) (by simpa using hi) (by simpa using hj) hp hq
        rwa [show k0 + 1 + j = k0 + (j + 1) by omega, show k0 + 1 + i = k0 + (i + 1) by omega] at this
/-- the temporaries as an operation finds them: what may or may not have been written is unknown -/
def tsUnkI (masks : List Nat) (i : Nat) : Nat → List Oper → List AV → List AV
  | _, [], ts => ts
  | j, o :: l, ts => tsUnkI masks i (j + 1) l (if j = i then ts else if (masks.getD j 0).testBit i then ts else tput ts o.dst .unk)
theorem tsUnkI_length (masks : List Nat) (i : Nat) : ∀ (ops : List Oper) (j : Nat) (ts : List AV), (tsUnkI masks i j ops ts).length = ts.length
  | [], j, ts => rfl
  | o :: l, j, ts => by
    simp only [tsUnkI]
    rw [tsUnkI_length masks i l]
    split
    · rfl
    · split
      · rfl
      · rw [tput_length]
theorem tsUnkI_unk (masks : List Nat) (i : Nat) : ∀ (ops : List Oper) (j : Nat) (ts : List AV) (t : Nat), ts.getD t .unk = .unk → (tsUnkI masks i j ops ts).getD t .unk = .unk
  | [], j, ts, t, h => h
  | o :: l, j, ts, t, h => by
    simp only [tsUnkI]
    refine tsUnkI_unk masks i l _ _ t ?_
    split
    · exact h
    · split
      · exact h
      · rcases tput_get ts o.dst .unk t with ⟨_, _, h3⟩ | h3
        · exact h3
        · rw [h3]; exact h
theorem tsUnkI_get (masks : List Nat) (i : Nat) : ∀ (ops : List Oper) (j : Nat) (ts : List AV) (t : Nat), (tsUnkI masks i j ops ts).getD t .unk = .unk ∨ ((∀ (q : Nat) (o : Oper), ops[q]? = some o → o.dst = some t → j + q = i ∨ (masks.getD (j + q) 0).testBit i = true) ∧ (tsUnkI masks i j ops ts).getD t .unk = ts.getD t .unk)
  | [], j, ts, t => .inr ⟨fun q o h => by simp at h, rfl⟩
  | o :: l, j, ts, t => by
    simp only [tsUnkI]
    have next : ∀ (ts2 : List AV), ts2.getD t .unk = ts.getD t .unk → (o.dst = some t → j = i ∨ (masks.getD j 0).testBit i = true) → (tsUnkI masks i (j + 1) l ts2).getD t .unk = .unk ∨
        ((∀ (q : Nat) (o' : Oper), (o :: l)[q]? = some o' → o'.dst = some t → j + q = i ∨ (masks.getD (j + q) 0).testBit i = true) ∧ (tsUnkI masks i (j + 1) l ts2).getD t .unk = ts.getD t .unk) := by
      intro ts2 h1 h2
      rcases tsUnkI_get masks i l (j + 1) ts2 t with h | ⟨h3, h4⟩
      · exact .inl h
      · refine .inr ⟨fun q o' hq hd => ?_, by rw [h4, h1]⟩
        cases q with
        | zero => simp at hq; subst hq; rw [Nat.add_zero]; exact h2 hd
        | succ q => have := h3 q o' (by simpa using hq) hd; rwa [show j + 1 + q = j + (q + 1) by omega] at this
    split
    · rename_i e; exact next ts rfl (fun _ => .inl e)
    · split
      · rename_i e; exact next ts rfl (fun _ => .inr e)
      · by_cases hd : o.dst = some t
        · left
          refine tsUnkI_unk masks i l _ _ t ?_
          rw [hd]
          simp only [tput, List.getD_eq_getElem?_getD, List.getElem?_set, if_true]
          by_cases hlt : t < ts.length
          · rw [if_pos hlt]; rfl
          · rw [if_neg hlt]; rfl
        · refine next _ ?_ (fun h => absurd h hd)
          rcases tput_get ts o.dst .unk t with ⟨h1, _, _⟩ | h1
          · exact absurd h1 hd
          · exact h1
def vTs (masks : List Nat) (pre : List Oper) (ts : List AV) (rs : List PR) (k : Nat) : List AV := minTs (fun j => (masks.getD k 0).testBit j) 0 rs (tsUnkI masks k 0 pre ts)
def vMem (masks : List Nat) (kill : List (Nat × Nat)) (mem : List Blk) (rs : List PR) (k : Nat) : List Blk := killMem masks k kill (effMem (fun j => (masks.getD k 0).testBit j) 0 rs (minMem (fun j => (masks.getD k 0).testBit j) 0 rs mem))
def evPreGo (P : Program) (all : List Oper) (masks : List Nat) (kill : List (Nat × Nat)) (pre : List Oper) (ts : List AV) (mem : List Blk) : Nat → List Oper → List Hint → List PR → Nat → Option (List PR × Prop)
  | _, [], _, rs, _ => some (rs, True)
  | k, o :: l, hs, rs, base =>
    match evGuard all (vTs masks pre ts rs k) o with
    | some true =>
      match fxB P (vTs masks pre ts rs k) (vMem masks kill mem rs k) o (hs.headD .none) with
      | some (b, blk, av, C) =>
        match evPreGo P all masks kill pre ts mem (k + 1) l hs.tail (rs ++ [⟨o.dst, av, base, [], some (b, blk)⟩]) base with
        | some (r, D) => some (r, C ∧ D)
        | none => none
      | none =>
      match evGrow P (vTs masks pre ts rs k) (vMem masks kill mem rs k) o (hs.headD .none) with
      | some (old, row, C) =>
        match evPreGo P all masks kill pre ts mem (k + 1) l hs.tail (rs ++ [⟨o.dst, .row base, base, [row], old.map fun r => (r, .dead)⟩]) (base + 1) with
        | some (r, D) => some (r, C ∧ D)
        | none => none
      | none =>
        match evDec P (vTs masks pre ts rs k) (vMem masks kill mem rs k) base o (hs.headD .none) with
        | some (av, new, C) =>
          if (vTs masks pre ts rs k).all (refsLt base) = true ∧ (vMem masks kill mem rs k).all (blkLt base) = true then
            match evPreGo P all masks kill pre ts mem (k + 1) l hs.tail (rs ++ [⟨o.dst, av, base, new, none⟩]) (base + new.length) with
            | some (r, D) => some (r, C ∧ D)
            | none => none
          else none
        | none => none
    | some false => evPreGo P all masks kill pre ts mem (k + 1) l hs.tail (rs ++ [⟨o.dst, .tup .nil, base, [], none⟩]) base
    | none => none
/-- what is known of each of them -/
def Good (P : Program) (all : List Oper) (masks : List Nat) (kill : List (Nat × Nat)) (pre : List Oper) (ts : List AV) (mem : List Blk) (k : Nat) (o : Oper) (r : PR) (rs : List PR) : Prop :=
  r.dst = o.dst ∧
  ((evGuard all (vTs masks pre ts rs k) o = some true ∧ (∃ h C, evDec P (vTs masks pre ts rs k) (vMem masks kill mem rs k) r.base o h = some (r.av, r.new, C) ∧ C) ∧ r.eff = none ∧
    (vTs masks pre ts rs k).all (refsLt r.base) = true ∧ (vMem masks kill mem rs k).all (blkLt r.base) = true) ∨
   (evGuard all (vTs masks pre ts rs k) o = some false ∧ r.av = .tup .nil ∧ r.new = [] ∧ r.eff = none) ∨
   (evGuard all (vTs masks pre ts rs k) o = some true ∧ r.new = [] ∧ ∃ h b blk C, fxB P (vTs masks pre ts rs k) (vMem masks kill mem rs k) o h = some (b, blk, r.av, C) ∧ C ∧ r.eff = some (b, blk)) ∨
   (evGuard all (vTs masks pre ts rs k) o = some true ∧ r.av = .row r.base ∧ ∃ h old row C, evGrow P (vTs masks pre ts rs k) (vMem masks kill mem rs k) o h = some (old, row, C) ∧ C ∧ r.new = [row] ∧ r.eff = old.map fun r => (r, .dead)))
theorem evPreGo_ok {P : Program} {all : List Oper} {masks : List Nat} {kill : List (Nat × Nat)} {pre : List Oper} {ts : List AV} {mem : List Blk} : ∀ (l : List Oper) (k : Nat) (hs : List Hint) (rs0 : List PR) (base : Nat) (rs : List PR) (C : Prop), evPreGo P all masks kill pre ts mem k l hs rs0 base = some (rs, C) → C → rs0.length = k →
    rs.length = k + l.length ∧ rs.take k = rs0 ∧ ∀ (j : Nat) (o : Oper), l[j]? = some o → ∃ r, rs[k + j]? = some r ∧ Good P all masks kill pre ts mem (k + j) o r (rs.take (k + j))
  | [], k, hs, rs0, base, rs, C, h, _, hl => by
    simp only [evPreGo, Option.some.injEq, Prod.mk.injEq] at h
    obtain ⟨rfl, _⟩ := h
    exact ⟨by simp [hl], by rw [← hl, List.take_length], fun j o hj => by simp at hj⟩
  | o :: l, k, hs, rs0, base, rs, C, h, hC, hl => by
    have next : ∀ (r : PR) (base' : Nat) (D : Prop), evPreGo P all masks kill pre ts mem (k + 1) l hs.tail (rs0 ++ [r]) base' = some (rs, D) → D → Good P all masks kill pre ts mem k o r rs0 →
        rs.length = k + (o :: l).length ∧ rs.take k = rs0 ∧ ∀ (j : Nat) (o' : Oper), (o :: l)[j]? = some o' → ∃ r, rs[k + j]? = some r ∧ Good P all masks kill pre ts mem (k + j) o' r (rs.take (k + j)) := by
      intro r base' D hd hD hg
      obtain ⟨h1, h2, h3⟩ := evPreGo_ok l (k + 1) hs.tail (rs0 ++ [r]) base' rs D hd hD (by simp [hl])
      have htk : rs.take k = rs0 := by
        have := congrArg (List.take k) h2
        rw [List.take_take, Nat.min_eq_left (by omega), List.take_append_of_le_length (by omega), ← hl, List.take_length] at this
        rw [hl] at this
        exact this
      have hk : rs[k]? = some r := by
        have : (rs.take (k + 1))[k]? = some r := by rw [h2, List.getElem?_append_right (by omega), hl, Nat.sub_self]; rfl
        rwa [List.getElem?_take, if_pos (by omega)] at this
      refine ⟨by rw [h1, List.length_cons]; omega, htk, fun j o' hj => ?_⟩
      cases j with
      | zero =>
        simp at hj; subst hj
        exact ⟨r, by simpa using hk, by rw [Nat.add_zero, htk]; exact hg⟩
      | succ j =>
        have := h3 j o' (by simpa using hj)
        rwa [show k + 1 + j = k + (j + 1) by omega] at this
    unfold evPreGo at h
    split at h
    · rename_i hg
      split at h
      · rename_i b blk av D hst
        split at h
        · rename_i r E he
          simp only [Option.some.injEq, Prod.mk.injEq] at h
          obtain ⟨rfl, rfl⟩ := h
          exact next ⟨o.dst, av, base, [], some (b, blk)⟩ _ E he hC.2 ⟨rfl, .inr (.inr (.inl ⟨hg, rfl, _, b, blk, D, hst, hC.1, rfl⟩))⟩
        · cases h
      split at h
      · rename_i old row D hap
        split at h
        · rename_i r E he
          simp only [Option.some.injEq, Prod.mk.injEq] at h
          obtain ⟨rfl, rfl⟩ := h
          exact next ⟨o.dst, .row base, base, [row], old.map fun r => (r, .dead)⟩ _ E he hC.2 ⟨rfl, .inr (.inr (.inr ⟨hg, rfl, _, old, row, D, hap, hC.1, rfl, rfl⟩))⟩
        · cases h
      · split at h
        · rename_i av new D hd
          split at h
          · rename_i hc
            split at h
            · rename_i r E he
              simp only [Option.some.injEq, Prod.mk.injEq] at h
              obtain ⟨rfl, rfl⟩ := h
              exact next ⟨o.dst, av, base, new, none⟩ _ E he hC.2 ⟨rfl, .inl ⟨hg, ⟨_, D, hd, hC.1⟩, rfl, hc.1, hc.2⟩⟩
            · cases h
          · cases h
        · cases h
    · rename_i hg
      exact next ⟨o.dst, .tup .nil, base, [], none⟩ _ C h hC ⟨rfl, .inr (.inl ⟨hg, rfl, rfl, rfl⟩)⟩
    · cases h
end Go.Proofs.YtdomallemkbinaaGreatDoor
