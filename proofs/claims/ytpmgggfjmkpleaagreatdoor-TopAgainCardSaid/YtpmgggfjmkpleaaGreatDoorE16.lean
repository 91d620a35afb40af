/- An exact machine, part 16: any order that keeps the edges. -/
import Derived.Test.YtpmgggfjmkpleaaGreatDoorE15
import Derived.Orders
namespace Go.Proofs.YtpmgggfjmkpleaaGreatDoor.E
open Go Go.RowKit
set_option linter.unusedVariables false

def updB (D : Nat → Bool) (i : Nat) : Nat → Bool := fun j => if j = i then true else D j
def cntU (f : Nat → Bool) : Nat → Nat
  | 0 => 0
  | n + 1 => (if f n then 0 else 1) + cntU f n
theorem cntU_eq (f g : Nat → Bool) : ∀ n, (∀ j, j < n → f j = g j) → cntU f n = cntU g n
  | 0, _ => rfl
  | n + 1, h => by rw [cntU, cntU, h n (by omega), cntU_eq f g n (fun j hj => h j (by omega))]
theorem cntU_set (f g : Nat → Bool) (i : Nat) (hi : f i = false) (gi : g i = true) (hne : ∀ j, j ≠ i → g j = f j) : ∀ n, i < n → cntU g n + 1 = cntU f n
  | 0, h => by omega
  | n + 1, h => by
    rw [cntU, cntU]
    by_cases e : n = i
    · subst e
      rw [hi, gi, cntU_eq g f n (fun j hj => hne j (by omega))]
      simp; omega
    · rw [hne n e]
      have := cntU_set f g i hi gi hne n (by omega)
      omega
theorem cntU_zero (f : Nat → Bool) : ∀ n, cntU f n = 0 → ∀ j, j < n → f j = true
  | 0, _, j, hj => by omega
  | n + 1, h, j, hj => by
    rw [cntU] at h
    by_cases e : j = n
    · subst e
      cases hf : f j with
      | true => rfl
      | false => rw [hf] at h; simp at h
    · exact cntU_zero f n (by omega) j (by omega)
theorem cntU_le (f : Nat → Bool) : ∀ n, cntU f n ≤ n
  | 0 => Nat.le_refl _
  | n + 1 => by have := cntU_le f n; rw [cntU]; split <;> omega
/-- one operation's turn -/
def Turn (P : Program) (ops : Array Oper) (Q : Exit → Act → World → Prop) (o : Oper) (a : Act) (w : World) (K : Act → World → Prop) : Prop :=
  if Region.wanted o (yielded ops a.tmps) then o.wp P a w K Q ∨ (o.asks P a w ∧ LetsOut Q) else K (a.put o.dst undef) w
/-- the schedule: any order that keeps the edges is one of the first m operations in some order, then the others in theirs -/
theorem wpAny_two {P : Program} {ops : Array Oper} {Q : Exit → Act → World → Prop} (n m : Nat) (hn : ops.size = n) (hmn : m ≤ n) (hback : ∀ (i : Nat) (o : Oper), ops[i]? = some o → ∀ e ∈ o.after, Region.binds .any e = true → e.on < i)
    (bef : Nat → Nat → Bool) (hbef : ∀ (i : Nat) (o : Oper), ops[i]? = some o → ∀ j, bef i j = true → ∃ e ∈ o.after, Region.binds .any e = true ∧ (j = e.on ∨ bef e.on j = true))
    (htail : ∀ i, m ≤ i → i < n → ∀ j, j < i → bef i j = true)
    (J1 : (Nat → Bool) → Act → World → Prop) (J2 : Nat → Act → World → Prop)
    (step1 : ∀ D a w i o, i < m → ops[i]? = some o → D i = false → (∀ j, D j = true → j < m) → (∀ j, bef i j = true → D j = true) → (∀ k j, D k = true → bef k j = true → D j = true) → J1 D a w →
      ∀ K : Act → World → Prop, (∀ a' w', J1 (updB D i) a' w' → K a' w') → Turn P ops Q o a w K)
    (mid : ∀ D a w, (∀ j, j < m → D j = true) → (∀ j, D j = true → j < m) → J1 D a w → J2 m a w)
    (step2 : ∀ k a w o, m ≤ k → ops[k]? = some o → J2 k a w → ∀ K : Act → World → Prop, (∀ a' w', J2 (k + 1) a' w' → K a' w') → Turn P ops Q o a w K)
    (fin : ∀ a w, J2 n a w → Q .normal a w) {a : Act} {w : World} (h0 : J1 (fun _ => false) a w) : wpAny P .any ops Q ops.size (Array.replicate ops.size false) a w := by
  -- what holds of a list of what has been done
  let Sa : Array Bool → Act → World → Prop := fun listed a w => ∃ D : Nat → Bool, (∀ j, j < m → listed.getD j true = D j) ∧ (∀ j, D j = true → j < m) ∧ (∀ j, m ≤ j → j < n → listed.getD j true = false) ∧ (∀ k j, D k = true → bef k j = true → D j = true) ∧ J1 D a w
  let Sb : Array Bool → Act → World → Prop := fun listed a w => ∃ k, m ≤ k ∧ k ≤ n ∧ (∀ j, j < k → listed.getD j true = true) ∧ (∀ j, k ≤ j → j < n → listed.getD j true = false) ∧ J2 k a w
  have allDone : ∀ listed : Array Bool, listed.size = n → Region.ready .any ops listed = [] → ∀ k, k < n → listed.getD k true = true := by
    intro listed hsz hr k
    induction k using Nat.strongRecOn with
    | ind k ih =>
      intro hk
      cases hf : listed.getD k true with
      | true => rfl
      | false =>
        exfalso
        have hk' : k < ops.size := by omega
        have : k ∈ Region.ready .any ops listed := by
          refine mem_ready.2 ⟨hf, ops[k], by simp [hk'], fun e he hbe => ?_⟩
          have hlt := hback k ops[k] (by simp [hk']) e he hbe
          have := ih e.on hlt (by omega)
          have hin : e.on < listed.size := by omega
          simp only [Array.getD, hin, dif_pos] at this ⊢
          exact this
        rw [hr] at this
        cases this
  have fin' : ∀ listed a w, listed.size = n → Sa listed a w ∨ Sb listed a w → Region.ready .any ops listed = [] → Q .normal a w := by
    intro listed a w hsz hS hr
    have all := allDone listed hsz hr
    rcases hS with ⟨D, h1, h2, h3, h4, h5⟩ | ⟨k, h1, h2, h3, h4, h5⟩
    · have hm : m = n := by
        rcases Nat.lt_or_ge m n with h | h
        · have := h3 m (Nat.le_refl _) h; rw [all m h] at this; cases this
        · omega
      subst hm
      exact fin a w (mid D a w (fun j hj => by rw [← h1 j hj]; exact all j hj) h2 h5)
    · have hk : k = n := by
        rcases Nat.lt_or_ge k n with h | h
        · have := h4 k (Nat.le_refl _) h; rw [all k h] at this; cases this
        · omega
      subst hk
      exact fin a w h5
  have main : ∀ (fuel : Nat) (listed : Array Bool) (a : Act) (w : World), listed.size = n → cntU (fun j => listed.getD j true) n ≤ fuel → Sa listed a w ∨ Sb listed a w → wpAny P .any ops Q fuel listed a w := by
    intro fuel
    induction fuel with
    | zero =>
      intro listed a w hsz hc hS
      have all := cntU_zero _ _ (Nat.le_zero.1 hc)
      have hr : Region.ready .any ops listed = [] := by
        apply List.eq_nil_iff_forall_not_mem.2
        intro k hk
        obtain ⟨h1, o, ho, _⟩ := mem_ready.1 hk
        have hlt : k < n := by have := (Array.getElem?_eq_some_iff.1 ho).1; omega
        rw [all k hlt] at h1
        cases h1
      exact ⟨hr, fin' listed a w hsz hS hr⟩
    | succ fuel ih =>
      intro listed a w hsz hc hS
      refine ⟨fin' listed a w hsz hS, fun i hi => ?_⟩
      obtain ⟨h1, o, ho, hdep⟩ := mem_ready.1 hi
      have hlt : i < n := by have := (Array.getElem?_eq_some_iff.1 ho).1; omega
      have hset : ∀ j, (listed.setIfInBounds i true).getD j true = if j = i then true else listed.getD j true := by
        intro j
        by_cases e : j = i
        · subst e; simp [Array.getD, hsz, hlt]
        · rw [if_neg e]; exact getD_set_ne true (Ne.symm e)
      have hcnt : cntU (fun j => (listed.setIfInBounds i true).getD j true) n ≤ fuel := by
        have := cntU_set (fun j => listed.getD j true) (fun j => (listed.setIfInBounds i true).getD j true) i h1 (by simp only [hset]; simp) (fun j hj => by simp only [hset]; rw [if_neg hj]) n hlt
        omega
      have go : ∀ K' : (Act → World → Prop), Turn P ops Q o a w K' → wpOp P ops Q i K' a w := by
        intro K' ht
        unfold wpOp
        rw [ho]
        simp only
        unfold Turn at ht
        split
        · rename_i hw; rw [if_pos hw] at ht; exact ht
        · rename_i hw; rw [if_neg hw] at ht; exact ht
      refine go _ ?_
      -- the k-th of the tail, from a state of the tail
      have tailStep : ∀ k, m ≤ k → k ≤ n → (∀ j, j < k → listed.getD j true = true) → (∀ j, k ≤ j → j < n → listed.getD j true = false) → J2 k a w → i = k → Turn P ops Q o a w (wpAny P .any ops Q fuel (listed.setIfInBounds i true)) := by
        intro k hk1 hk2 hl1 hl2 hJ hik
        subst hik
        refine step2 i a w o hk1 ho hJ _ (fun a' w' hJ' => ih _ a' w' (by simpa using hsz) hcnt (.inr ⟨i + 1, by omega, by omega, fun j hj => ?_, fun j hj1 hj2 => ?_, hJ'⟩))
        · rw [hset]; split
          · rfl
          · exact hl1 j (by omega)
        · rw [hset, if_neg (by omega)]; exact hl2 j (by omega) hj2
      rcases hS with ⟨D, g1, g2, g3, g4, g5⟩ | ⟨k, g1, g2, g3, g4, g5⟩
      · have hD : ∀ j, bef i j = true → D j = true := by
          intro j hj
          obtain ⟨e, he, hb, hor⟩ := hbef i o ho j hj
          have hlist := hdep e he hb
          have hlt2 := hback i o ho e he hb
          have hin : e.on < listed.size := by omega
          have hl2 : listed.getD e.on true = true := by
            simp only [Array.getD, hin, dif_pos] at hlist ⊢
            exact hlist
          have hon : D e.on = true := by
            rcases Nat.lt_or_ge e.on m with h | h
            · rw [← g1 _ h]; exact hl2
            · have := g3 e.on h (by omega); rw [hl2] at this; cases this
          rcases hor with rfl | hor
          · exact hon
          · exact g4 _ _ hon hor
        rcases Nat.lt_or_ge i m with him | him
        · have hDi : D i = false := by rw [← g1 i him]; exact h1
          refine step1 D a w i o him ho hDi g2 hD g4 g5 _ (fun a' w' hJ => ih _ a' w' (by simpa using hsz) hcnt (.inl ⟨updB D i, fun j hj => ?_, fun j hj => ?_, fun j hj1 hj2 => ?_, fun k j hk hj => ?_, hJ⟩))
          · rw [hset]; unfold updB; split
            · rfl
            · exact g1 j hj
          · unfold updB at hj; split at hj
            · rename_i e; subst e; exact him
            · exact g2 j hj
          · rw [hset, if_neg (by omega)]; exact g3 j hj1 hj2
          · unfold updB at hk ⊢
            split
            · rfl
            · split at hk
              · rename_i e; subst e; exact hD j hj
              · exact g4 k j hk hj
        · have hall : ∀ j, j < i → D j = true := fun j hj => hD j (htail i him hlt j hj)
          have him2 : i = m := by
            rcases Nat.lt_or_ge m i with h | h
            · have := g2 m (hall m h); omega
            · omega
          refine tailStep m (Nat.le_refl _) hmn (fun j hj => by rw [g1 j hj]; exact hall j (by omega)) g3 (mid D a w (fun j hj => hall j (by omega)) g2 g5) him2
      · have hik : i = k := by
          rcases Nat.lt_or_ge i k with h | h
          · have := g3 i h; rw [h1] at this; cases this
          · rcases Nat.lt_or_ge k i with h' | h'
            · -- k is not done, yet ahead of i
              have : ∀ j, bef i j = true → listed.getD j true = true := by
                intro j hj
                obtain ⟨e, he, hb, hor⟩ := hbef i o ho j hj
                have hlist := hdep e he hb
                have hlt2 := hback i o ho e he hb
                have hin : e.on < listed.size := by omega
                have hl2 : listed.getD e.on true = true := by
                  simp only [Array.getD, hin, dif_pos] at hlist ⊢
                  exact hlist
                rcases hor with rfl | hor
                · exact hl2
                · have hon : e.on < k := by
                    rcases Nat.lt_or_ge e.on k with h2 | h2
                    · exact h2
                    · have := g4 e.on h2 (by omega); rw [hl2] at this; cases this
                  have hlt3 : j < e.on := by
                    -- what is ahead lies below
                    have : ∀ (q : Nat), q < n → ∀ j, bef q j = true → j < q := by
                      intro q
                      induction q using Nat.strongRecOn with
                      | ind q ihq =>
                        intro hq j hj
                        have hq' : q < ops.size := by omega
                        obtain ⟨e', he', hb', hor'⟩ := hbef q ops[q] (by simp [hq']) j hj
                        have hlt4 := hback q ops[q] (by simp [hq']) e' he' hb'
                        rcases hor' with rfl | hor'
                        · exact hlt4
                        · have := ihq e'.on hlt4 (by omega) j hor'; omega
                    exact this e.on (by omega) j hor
                  exact g3 j (by omega)
              have h2 := this k (htail i (by omega) hlt k h')
              have h3 := g4 k (Nat.le_refl _) (by omega)
              rw [h2] at h3; cases h3
            · omega
        exact tailStep k g1 g2 g3 g4 g5 hik
  refine main _ _ a w (by simp [hn]) (by rw [hn]; exact cntU_le _ _) (.inl ⟨fun _ => false, fun j hj => ?_, (fun j hj => by cases hj), fun j h1 h2 => ?_, (fun k j hk _ => by cases hk), h0⟩)
  · have : j < ops.size := by omega
    simp [Array.getD, this]
  · have : j < ops.size := by omega
    simp [Array.getD, this]
def maskOf (acc : List Nat) (es : List Edge) : Nat := es.foldl (fun s e => if Region.binds .any e then s ||| (2 ^ e.on ||| acc.getD e.on 0) else s) 0
def befs (acc : List Nat) : List Oper → List Nat
  | [] => acc
  | o :: l => befs (acc ++ [maskOf acc o.after.toList]) l
theorem maskOf_bit (acc : List Nat) (es : List Edge) (j : Nat) (h : (maskOf acc es).testBit j = true) : ∃ e ∈ es, Region.binds .any e = true ∧ (j = e.on ∨ (acc.getD e.on 0).testBit j = true) := by
  have main : ∀ (es : List Edge) (s : Nat), (es.foldl (fun s e => if Region.binds .any e then s ||| (2 ^ e.on ||| acc.getD e.on 0) else s) s).testBit j = true → s.testBit j = true ∨ ∃ e ∈ es, Region.binds .any e = true ∧ (j = e.on ∨ (acc.getD e.on 0).testBit j = true) := by
    intro es
    induction es with
    | nil => intro s h; exact .inl h
    | cons e es ih =>
      intro s h
      rw [List.foldl_cons] at h
      rcases ih _ h with h1 | ⟨e', he', h1⟩
      · split at h1
        · rename_i hb
          rw [Nat.testBit_or, Nat.testBit_or, Bool.or_eq_true, Bool.or_eq_true] at h1
          rcases h1 with h1 | h1 | h1
          · exact .inl h1
          · refine .inr ⟨e, by simp, hb, .inl ?_⟩
            rw [Nat.testBit_two_pow] at h1
            exact (of_decide_eq_true h1).symm
          · exact .inr ⟨e, by simp, hb, .inr h1⟩
        · exact .inl h1
      · exact .inr ⟨e', by simp [he'], h1⟩
  rcases main es 0 h with h1 | h1
  · simp at h1
  · exact h1
theorem befs_prefix : ∀ (l : List Oper) (acc : List Nat), ∃ r, befs acc l = acc ++ r ∧ r.length = l.length
  | [], acc => ⟨[], by simp [befs], rfl⟩
  | o :: l, acc => by
    obtain ⟨r, h1, h2⟩ := befs_prefix l (acc ++ [maskOf acc o.after.toList])
    exact ⟨maskOf acc o.after.toList :: r, by simp [befs, h1], by simp [h2]⟩
theorem befs_get : ∀ (l : List Oper) (acc : List Nat) (i : Nat) (o : Oper), l[i]? = some o → ∀ j, ((befs acc l).getD (acc.length + i) 0).testBit j = true →
    ∃ e ∈ o.after.toList, Region.binds .any e = true ∧ (j = e.on ∨ ((befs acc l).getD e.on 0).testBit j = true)
  | [], acc, i, o, h, j, _ => by simp at h
  | o' :: l, acc, 0, o, h, j, hj => by
    simp at h; subst h
    obtain ⟨r, h1, h2⟩ := befs_prefix l (acc ++ [maskOf acc o'.after.toList])
    have e1 : befs acc (o' :: l) = acc ++ (maskOf acc o'.after.toList :: r) := by simp [befs, h1]
    rw [e1] at hj ⊢
    have e2 : (acc ++ (maskOf acc o'.after.toList :: r)).getD (acc.length + 0) 0 = maskOf acc o'.after.toList := by
      simp [List.getD_eq_getElem?_getD]
    rw [e2] at hj
    obtain ⟨e, he, hb, hor⟩ := maskOf_bit acc _ j hj
    refine ⟨e, he, hb, hor.imp id (fun h => ?_)⟩
    rcases Nat.lt_or_ge e.on acc.length with hlt | hge
    · rw [List.getD_eq_getElem?_getD, List.getElem?_append_left hlt]
      rwa [List.getD_eq_getElem?_getD] at h
    · rw [List.getD_eq_getElem?_getD, List.getElem?_eq_none hge] at h
      simp at h
  | o' :: l, acc, i + 1, o, h, j, hj => by
    have := befs_get l (acc ++ [maskOf acc o'.after.toList]) i o (by simpa using h) j
    simp only [befs] at hj ⊢
    refine this ?_
    rw [List.length_append, List.length_singleton, show acc.length + 1 + i = acc.length + (i + 1) by omega]
    exact hj

end Go.Proofs.YtpmgggfjmkpleaaGreatDoor.E
