/- A region that draws its order, walked once: each operation's result is told by a relation that later operations keep; each operation is shown once, from the results of those that it waits for. -/
import Derived.Test.YtglkfgfnnhbjeaaKit
import Derived.Orders
namespace Go.Proofs.Ytglkfgfnnhbjeaa
open Go.RowKit
set_option linter.unusedVariables false

def upd (x : Nat → Value) (i : Nat) (v : Value) : Nat → Value := fun j => if j = i then v else x j
def cntN (f : Nat → Bool) : Nat → Nat
  | 0 => 0
  | n + 1 => (if f n then 0 else 1) + cntN f n
theorem cntN_eq (f g : Nat → Bool) : ∀ n, (∀ j, j < n → f j = g j) → cntN f n = cntN g n
  | 0, _ => rfl
  | n + 1, h => by rw [cntN, cntN, h n (by omega), cntN_eq f g n (fun j hj => h j (by omega))]
theorem cntN_set (f g : Nat → Bool) (i : Nat) (hi : f i = false) (gi : g i = true) (hne : ∀ j, j ≠ i → g j = f j) : ∀ n, i < n → cntN g n + 1 = cntN f n
  | 0, h => by omega
  | n + 1, h => by
    rw [cntN, cntN]
    by_cases e : n = i
    · subst e
      rw [hi, gi, cntN_eq g f n (fun j hj => hne j (by omega))]
      simp; omega
    · rw [hne n e]
      have := cntN_set f g i hi gi hne n (by omega)
      omega
theorem cntN_zero (f : Nat → Bool) : ∀ n, cntN f n = 0 → ∀ j, j < n → f j = true
  | 0, _, j, hj => by omega
  | n + 1, h, j, hj => by
    rw [cntN] at h
    by_cases e : j = n
    · subst e
      cases hf : f j with
      | true => rfl
      | false => rw [hf] at h; simp at h
    · exact cntN_zero f n (by omega) j (by omega)

/-- the results of the operations that this one waits for -/
def DepsOk (R : Nat → Value → World → Prop) (x : Nat → Value) (w : World) : List Edge → Prop
  | [] => True
  | e :: es => (Region.binds .any e = true → R e.on (x e.on) w) ∧ DepsOk R x w es
theorem DepsOk.of {R : Nat → Value → World → Prop} {x : Nat → Value} {w : World} : ∀ (es : List Edge), (∀ e ∈ es, Region.binds .any e = true → R e.on (x e.on) w) → DepsOk R x w es
  | [], _ => trivial
  | e :: es, h => ⟨h e (by simp), DepsOk.of es (fun e' he => h e' (by simp [he]))⟩
/-- one operation: from any world that meets S and results that meet R, it comes to such ones -/
structure OpOk (P : Program) (ops : Array Oper) (Q : Exit → Act → World → Prop) (F : (Nat → Value) → Act) (S : World → Prop) (R : Nat → Value → World → Prop) (i : Nat) (o : Oper) : Prop where
  ok : ∀ (x : Nat → Value) (w : World), S w → DepsOk R x w o.after.toList → ∀ K : Act → World → Prop,
    (∀ v w', R i v w' → S w' → Below w.heap.size w w' → K ((F x).put o.dst v) w') →
    if Region.wanted o (yielded ops (F x).tmps) then o.wp P (F x) w K Q else K ((F x).put o.dst undef) w
def OpsOk (P : Program) (ops : Array Oper) (Q : Exit → Act → World → Prop) (F : (Nat → Value) → Act) (S : World → Prop) (R : Nat → Value → World → Prop) : Nat → List Oper → Prop
  | _, [] => True
  | i, o :: l => OpOk P ops Q F S R i o ∧ OpsOk P ops Q F S R (i + 1) l
theorem OpsOk.get {P : Program} {ops : Array Oper} {Q : Exit → Act → World → Prop} {F : (Nat → Value) → Act} {S : World → Prop} {R : Nat → Value → World → Prop} :
    ∀ (l : List Oper) (k : Nat), OpsOk P ops Q F S R k l → ∀ (i : Nat) (o : Oper), l[i]? = some o → OpOk P ops Q F S R (k + i) o
  | [], _, _, i, o, h => by simp at h
  | o' :: l, k, hk, 0, o, h => by simp at h; subst h; exact hk.1
  | o' :: l, k, hk, i + 1, o, h => by
    have := OpsOk.get l (k + 1) hk.2 i o (by simpa using h)
    rwa [show k + 1 + i = k + (i + 1) from by omega] at this
/-- each edge leads back -/
def backward (ops : List Oper) : Bool := (ops.zipIdx).all fun p => p.1.after.toList.all fun e => decide (e.on < p.2)
theorem backward_get {ops : List Oper} (h : backward ops = true) (i : Nat) (o : Oper) (ho : ops[i]? = some o) : ∀ e ∈ o.after, e.on < i := by
  intro e he
  unfold backward at h
  rw [List.all_eq_true] at h
  have hm : (o, i) ∈ ops.zipIdx := by
    rw [List.mem_zipIdx_iff_getElem?]
    exact ho
  have h2 := h _ hm
  rw [List.all_eq_true] at h2
  have h3 := h2 e (by simpa using he)
  simpa using h3
def AllR (R : Nat → Value → World → Prop) (x : Nat → Value) (w : World) : Nat → Nat → Prop
  | _, 0 => True
  | i, n + 1 => R i (x i) w ∧ AllR R x w (i + 1) n
theorem AllR.of {R : Nat → Value → World → Prop} {x : Nat → Value} {w : World} : ∀ (n i : Nat), (∀ j, i ≤ j → j < i + n → R j (x j) w) → AllR R x w i n
  | 0, _, _ => trivial
  | n + 1, i, h => ⟨h i (Nat.le_refl _) (by omega), AllR.of n (i + 1) (fun j h1 h2 => h j (by omega) (by omega))⟩

theorem wp_region_rel {P : Program} {id : Nat} {l : List Oper} {Q : Exit → Act → World → Prop} {a : Act} {w : World} (hm : P.follows .mixedOrders = true) (hb : backward l = true)
    (F : (Nat → Value) → Act) (x0 : Nat → Value) (ha : a = F x0) (S : World → Prop) (R : Nat → Value → World → Prop)
    (hstab : ∀ i v w w', R i v w → S w → S w' → Below w.heap.size w w' → R i v w')
    (hput : ∀ i o x v, l[i]? = some o → (F x).put o.dst v = F (upd x i v))
    (hS0 : S w.drew) (hop : OpsOk P l.toArray Q F S R 0 l)
    (hend : ∀ x w', S w' → AllR R x w' 0 l.length → Q .normal (F x) w') : (Code.region id l.toArray true).wp P Q a w := by
  refine wp_region_any hm ?_
  subst ha
  have main : ∀ (fuel : Nat) (listed : Array Bool) (x : Nat → Value) (w : World), listed.size = l.length → cntN (fun j => listed.getD j true) l.length ≤ fuel → S w →
      (∀ j, j < l.length → listed.getD j true = true → R j (x j) w) → wpAny P .any l.toArray Q fuel listed (F x) w := by
    intro fuel
    have fin : ∀ (listed : Array Bool) (x : Nat → Value) (w : World), listed.size = l.length → S w → (∀ j, j < l.length → listed.getD j true = true → R j (x j) w) → Region.ready .any l.toArray listed = [] → Q .normal (F x) w := by
      intro listed x w hsz hS hR hr
      refine hend x w hS (AllR.of _ 0 (fun j _ hj => hR j (by omega) ?_))
      have all : ∀ k, k < l.length → listed.getD k true = true := by
        intro k
        induction k using Nat.strongRecOn with
        | ind k ih =>
          intro hk
          cases hf : listed.getD k true with
          | true => rfl
          | false =>
            exfalso
            have : k ∈ Region.ready .any l.toArray listed := by
              refine mem_ready.2 ⟨hf, l[k], by simp [hk], fun e he _ => ?_⟩
              have hlt := backward_get hb k l[k] (by simp [hk]) e he
              have := ih e.on hlt (by omega)
              have hin : e.on < listed.size := by omega
              simp only [Array.getD, hin, dif_pos] at this ⊢
              exact this
            rw [hr] at this
            cases this
      exact all j (by omega)
    induction fuel with
    | zero =>
      intro listed x w hsz hc hS hR
      have all := cntN_zero _ _ (Nat.le_zero.1 hc)
      have hr : Region.ready .any l.toArray listed = [] := by
        apply List.eq_nil_iff_forall_not_mem.2
        intro k hk
        obtain ⟨h1, o, ho, _⟩ := mem_ready.1 hk
        have hlt : k < l.length := by
          have := (Array.getElem?_eq_some_iff.1 ho).1
          simpa using this
        rw [all k hlt] at h1
        cases h1
      exact ⟨hr, fin listed x w hsz hS hR hr⟩
    | succ fuel ih =>
      intro listed x w hsz hc hS hR
      refine ⟨fin listed x w hsz hS hR, fun i hi => ?_⟩
      obtain ⟨h1, o, ho, hdep⟩ := mem_ready.1 hi
      have ho' : l[i]? = some o := by simpa using ho
      have hlt : i < l.length := (List.getElem?_eq_some_iff.1 ho').1
      have hok := OpsOk.get l 0 hop i o ho'
      rw [Nat.zero_add] at hok
      have deps : DepsOk R x w o.after.toList := by
        refine DepsOk.of _ (fun e he hb' => ?_)
        have hin := backward_get hb i o ho' e (by simpa using he)
        refine hR e.on (by omega) ?_
        have := hdep e (by simpa using he) hb'
        have hin2 : e.on < listed.size := by omega
        simp only [Array.getD, hin2, dif_pos] at this ⊢
        exact this
      have step := hok.ok x w hS deps (wpAny P .any l.toArray Q fuel (listed.setIfInBounds i true)) (fun v w' hv hS' hle => by
        rw [hput i o x v ho']
        refine ih _ (upd x i v) w' (by simpa using hsz) ?_ hS' ?_
        · have hset := cntN_set (fun j => listed.getD j true) (fun j => (listed.setIfInBounds i true).getD j true) i h1 (by
            have : i < listed.size := by omega
            simp [Array.getD, this]) (fun j hj => getD_set_ne true (Ne.symm hj)) l.length hlt
          omega
        · intro j hj hlj
          unfold upd
          by_cases e : j = i
          · rw [if_pos e]; subst e; exact hv
          · rw [if_neg e]
            rw [getD_set_ne true (Ne.symm e)] at hlj
            exact hstab j _ w w' (hR j hj hlj) hS hS' hle)
      unfold wpOp
      rw [ho]
      simp only
      split
      · rename_i hw
        rw [if_pos hw] at step
        exact .inl step
      · rename_i hw
        rw [if_neg hw] at step
        exact step
  refine main _ _ x0 _ (by simp) ?_ hS0 (fun j hj hl => ?_)
  · have : ∀ n, cntN (fun j => (Array.replicate l.toArray.size false).getD j true) n ≤ n := by
      intro n
      induction n with
      | zero => exact Nat.le_refl _
      | succ n ih => rw [cntN]; split <;> omega
    simpa using this l.length
  · exfalso
    simp [Array.getD, hj] at hl

/-- the frame with every operation's result in its slot -/
def putAll (x : Nat → Value) : Nat → List Oper → Act → Act
  | _, [], a => a
  | i, o :: l, a => putAll x (i + 1) l (a.put o.dst (x i))
theorem put_same (a : Act) (d : Option Tmp) : a.put d (match d with | some t => a.tmps.getD t undef | none => undef) = a := by
  cases d with
  | none => rfl
  | some t =>
    simp only [Act.put]
    cases a with
    | mk tmps defers =>
      simp only [Act.mk.injEq, and_true]
      rw [Array.setIfInBounds]
      split
      · rename_i h
        apply Array.ext
        · simp
        · intro j h1 h2
          simp only [Array.getElem_set]
          split
          · rename_i e
            subst e
            simp
          · rfl
      · rfl
theorem putAll_same (a : Act) (x : Nat → Value) : ∀ (l : List Oper) (i : Nat), (∀ j o, l[j]? = some o → x (i + j) = (match o.dst with | some t => a.tmps.getD t undef | none => undef)) → putAll x i l a = a
  | [], _, _ => rfl
  | o :: l, i, h => by
    have h0 := h 0 o rfl
    rw [Nat.add_zero] at h0
    rw [putAll, h0, put_same]
    exact putAll_same a x l (i + 1) (fun j o' hj => by
      have := h (j + 1) o' (by simpa using hj)
      rwa [show i + (j + 1) = i + 1 + j from by omega] at this)
theorem put_put (a : Act) (d : Option Tmp) (u v : Value) : (a.put d u).put d v = a.put d v := by
  cases d with
  | none => rfl
  | some t => simp [Act.put]
def apartFrom (d : Option Tmp) (l : List Oper) : Bool := match d with | none => true | some t => l.all fun o => decide (o.dst ≠ some t)
theorem putAll_comm (d : Option Tmp) (v : Value) (x : Nat → Value) : ∀ (l : List Oper) (k : Nat) (a : Act), apartFrom d l = true → (putAll x k l a).put d v = putAll x k l (a.put d v)
  | [], _, _, _ => rfl
  | o :: l, k, a, h => by
    have h2 : apartFrom d l = true := by
      cases d with
      | none => rfl
      | some t => simp only [apartFrom, List.all_cons, Bool.and_eq_true] at h; exact h.2
    have h1 : ∀ t, o.dst = some t → d ≠ some t := by
      intro t ht hd
      subst hd
      simp only [apartFrom, List.all_cons, Bool.and_eq_true, decide_eq_true_eq] at h
      exact h.1 ht
    rw [putAll, putAll, putAll_comm d v x l (k + 1) _ h2, Act.put_comm a (x k) v h1]
theorem putAll_upd (x : Nat → Value) (i : Nat) (v : Value) : ∀ (l : List Oper) (k : Nat) (a : Act), i < k → putAll (upd x i v) k l a = putAll x k l a
  | [], _, _, _ => rfl
  | o :: l, k, a, h => by
    rw [putAll, putAll, putAll_upd x i v l (k + 1) _ (by omega)]
    unfold upd
    rw [if_neg (by omega)]
def lone : List Oper → Bool
  | [] => true
  | o :: l => apartFrom o.dst l && lone l
theorem apart_of {o : Oper} {l : List Oper} {i : Nat} {o' : Oper} (h : apartFrom o.dst l = true) (ho : l[i]? = some o') : ∀ t, o'.dst = some t → o.dst ≠ some t := by
  intro t ht hd
  rw [hd] at h
  simp only [apartFrom, List.all_eq_true, decide_eq_true_eq] at h
  exact h o' (List.mem_of_getElem? ho) ht
theorem putAll_put (v : Value) : ∀ (l : List Oper) (k i : Nat) (o : Oper) (x : Nat → Value) (a : Act), lone l = true → l[i]? = some o → (putAll x k l a).put o.dst v = putAll (upd x (k + i) v) k l a
  | [], _, _, _, _, _, _, h => by simp at h
  | o' :: l, k, 0, o, x, a, hl, h => by
    simp at h
    subst h
    simp only [lone, Bool.and_eq_true] at hl
    rw [putAll, putAll, putAll_comm _ _ _ _ _ _ hl.1, put_put]
    simp only [Nat.add_zero]
    rw [putAll_upd x k v l (k + 1) _ (by omega)]
    unfold upd
    rw [if_pos rfl]
  | o' :: l, k, i + 1, o, x, a, hl, h => by
    simp only [lone, Bool.and_eq_true] at hl
    have h' : l[i]? = some o := by simpa using h
    rw [putAll, putAll, putAll_put v l (k + 1) i o x _ hl.2 h', show k + 1 + i = k + (i + 1) from by omega]
    congr 1
    unfold upd
    rw [if_neg (by omega)]
theorem wp_region_relF {P : Program} {id : Nat} {l : List Oper} {Q : Exit → Act → World → Prop} {a : Act} {w : World} (hm : P.follows .mixedOrders = true) (hb : (backward l && lone l) = true)
    (S : World → Prop) (R : Nat → Value → World → Prop)
    (hstab : ∀ i v w w', R i v w → S w → S w' → Below w.heap.size w w' → R i v w')
    (hS0 : S w.drew) (hop : OpsOk P l.toArray Q (fun x => putAll x 0 l a) S R 0 l)
    (hend : ∀ x w', S w' → AllR R x w' 0 l.length → Q .normal (putAll x 0 l a) w') : (Code.region id l.toArray true).wp P Q a w :=
  wp_region_rel hm (by rw [Bool.and_eq_true] at hb; exact hb.1) (fun x => putAll x 0 l a) (fun i => match l[i]? with | some o => (match o.dst with | some t => a.tmps.getD t undef | none => undef) | none => undef)
    (putAll_same a _ l 0 (fun j o hj => by simp only [Nat.zero_add, hj])).symm S R hstab (fun i o x v ho => by have := putAll_put v l 0 i o x a (by rw [Bool.and_eq_true] at hb; exact hb.2) ho; rwa [Nat.zero_add] at this) hS0 hop hend

/-- from index k on each operation waits for all that stand ahead of it -/
def forced (k : Nat) : List Oper → Bool
  | [] => true
  | o :: t => (List.range k).all (fun j => o.after.toList.any fun e => e.on == j && Region.binds .any e) && forced (k + 1) t
theorem forced_get : ∀ (t : List Oper) (k : Nat), forced k t = true → ∀ (i : Nat) (o : Oper), t[i]? = some o → ∀ j, j < k + i → ∃ e ∈ o.after, e.on = j ∧ Region.binds .any e = true
  | [], _, _, i, o, h => by simp at h
  | o' :: t, k, hf, 0, o, h => by
    simp at h
    subst h
    intro j hj
    simp only [forced, Bool.and_eq_true, List.all_eq_true, List.mem_range] at hf
    have := hf.1 j (by omega)
    rw [List.any_eq_true] at this
    obtain ⟨e, he, h2⟩ := this
    simp only [Bool.and_eq_true, beq_iff_eq] at h2
    exact ⟨e, by simpa using he, h2.1, h2.2⟩
  | o' :: t, k, hf, i + 1, o, h => by
    intro j hj
    simp only [forced, Bool.and_eq_true] at hf
    exact forced_get t (k + 1) hf.2 i o (by simpa using h) j (by omega)
theorem ready_tail {ops : List Oper} {listed : Array Bool} {k : Nat} (hk : k < ops.length) (hsz : listed.size = ops.length) (hlo : ∀ j, j < k → listed.getD j true = true) (hhi : ∀ j, k ≤ j → j < ops.length → listed.getD j true = false)
    (hb : backward ops = true) (hf : ∀ i o, ops[i]? = some o → k ≤ i → ∀ j, j < i → ∃ e ∈ o.after, e.on = j ∧ Region.binds .any e = true) :
    ∀ i, i ∈ Region.ready .any ops.toArray listed ↔ i = k := by
  intro i
  rw [mem_ready]
  constructor
  · rintro ⟨h1, o, ho, hd⟩
    have ho' : ops[i]? = some o := by simpa using ho
    have hlt : i < ops.length := (List.getElem?_eq_some_iff.1 ho').1
    rcases Nat.lt_trichotomy i k with h | h | h
    · rw [hlo i h] at h1; cases h1
    · exact h
    · obtain ⟨e, he, hon, hbd⟩ := hf i o ho' (by omega) k h
      have := hd e he hbd
      rw [hon] at this
      have h3 := hhi k (Nat.le_refl _) hk
      have hin : k < listed.size := by omega
      simp only [Array.getD, hin, dif_pos] at this h3
      rw [h3] at this; cases this
  · rintro rfl
    refine ⟨hhi i (Nat.le_refl _) hk, ops[i], by simp [hk], fun e he _ => ?_⟩
    have := backward_get hb i ops[i] (by simp [hk]) e he
    have h3 := hlo e.on this
    have hin : e.on < listed.size := by omega
    simp only [Array.getD, hin, dif_pos] at h3 ⊢
    exact h3
theorem wpAny_tail {P : Program} {ops : List Oper} {Q : Exit → Act → World → Prop} (hb : backward ops = true) :
    ∀ (t : List Oper) (k : Nat) (fuel : Nat) (listed : Array Bool) (a : Act) (w : World), k + t.length = ops.length → (∀ i, t[i]? = ops[k + i]?) → t.length ≤ fuel → listed.size = ops.length → (∀ j, j < k → listed.getD j true = true) → (∀ j, k ≤ j → j < ops.length → listed.getD j true = false) →
      (∀ i o, ops[i]? = some o → k ≤ i → ∀ j, j < i → ∃ e ∈ o.after, e.on = j ∧ Region.binds .any e = true) → wpList P ops.toArray Q t a w → wpAny P .any ops.toArray Q fuel listed a w
  | [], k, fuel, listed, a, w, hkl, ht, hfu, hsz, hlo, hhi, hf, h => by
    have hr : Region.ready .any ops.toArray listed = [] := by
      apply List.eq_nil_iff_forall_not_mem.2
      intro i hi
      obtain ⟨h1, o, ho, _⟩ := mem_ready.1 hi
      have hlt : i < ops.length := by
        have := (Array.getElem?_eq_some_iff.1 ho).1
        simpa using this
      rw [hlo i (by simp at hkl; omega)] at h1
      cases h1
    exact wpAny_done hr h fuel
  | o :: t, k, 0, listed, a, w, hkl, ht, hfu, hsz, hlo, hhi, hf, h => by simp at hfu
  | o :: t, k, fuel + 1, listed, a, w, hkl, ht, hfu, hsz, hlo, hhi, hf, h => by
    have hk : k < ops.length := by simp at hkl; omega
    have hr := ready_tail hk hsz hlo hhi hb hf
    have hk0 : ops[k]? = some o := by have := ht 0; simpa using this.symm
    refine ⟨fun h0 => ?_, fun i hi => ?_⟩
    · have := (hr k).2 rfl
      rw [h0] at this
      cases this
    · obtain rfl := (hr i).1 hi
      have cont : ∀ a w, wpList P ops.toArray Q t a w → wpAny P .any ops.toArray Q fuel (listed.setIfInBounds i true) a w := fun a w h =>
        wpAny_tail hb t (i + 1) fuel _ a w (by simp at hkl; omega) (fun j => by have := ht (j + 1); simp at this; rw [this]; congr 1; omega) (by simp at hfu; omega) (by simpa using hsz)
          (fun j hj => by
            by_cases e : j = i
            · subst e
              have : j < listed.size := by omega
              simp [Array.getD, this]
            · rw [getD_set_ne true (Ne.symm e)]; exact hlo j (by omega))
          (fun j hj hl => by rw [getD_set_ne true (by omega)]; exact hhi j (by omega) hl)
          (fun i' o' ho' hk' => hf i' o' ho' (by omega)) h
      unfold wpOp
      have : ops.toArray[i]? = some o := by simpa using hk0
      rw [this]
      simp only
      unfold wpList at h
      split at h
      · rename_i hw
        rw [if_pos hw]
        rcases h with h | h
        · exact .inl (Oper.wp_mono cont h)
        · exact .inr h
      · rename_i hw
        rw [if_neg hw]
        exact cont _ _ h

/-- THE LAW, with a tail of operations that come last in every order: these are left to the plain walk -/
theorem wp_region_relT {P : Program} {id : Nat} (l t : List Oper) {ops : List Oper} (hops : ops = l ++ t) {Q : Exit → Act → World → Prop} {a : Act} {w : World} (hm : P.follows .mixedOrders = true) (hb : (backward ops && lone l && forced l.length t) = true)
    (S : World → Prop) (R : Nat → Value → World → Prop)
    (hstab : ∀ i v w w', R i v w → S w → S w' → Below w.heap.size w w' → R i v w')
    (hS0 : S w.drew) (hop : OpsOk P ops.toArray Q (fun x => putAll x 0 l a) S R 0 l)
    (hend : ∀ x w', S w' → AllR R x w' 0 l.length → wpList P ops.toArray Q t (putAll x 0 l a) w') : (Code.region id ops.toArray true).wp P Q a w := by
  simp only [Bool.and_eq_true] at hb
  obtain ⟨⟨hb, hlone⟩, hforce⟩ := hb
  refine wp_region_any hm ?_
  have hlen : ops.length = l.length + t.length := by rw [hops, List.length_append]
  have hf : ∀ i o, ops[i]? = some o → l.length ≤ i → ∀ j, j < i → ∃ e ∈ o.after, e.on = j ∧ Region.binds .any e = true := by
    intro i o ho hi j hj
    rw [hops, List.getElem?_append_right hi] at ho
    exact forced_get t l.length hforce (i - l.length) o ho j (by omega)
  have main : ∀ (fuel : Nat) (listed : Array Bool) (x : Nat → Value) (w : World), listed.size = ops.length → cntN (fun j => listed.getD j true) l.length + t.length ≤ fuel → S w →
      (∀ j, l.length ≤ j → j < ops.length → listed.getD j true = false) →
      (∀ j, j < l.length → listed.getD j true = true → R j (x j) w) → wpAny P .any ops.toArray Q fuel listed (putAll x 0 l a) w := by
    intro fuel
    have fin : ∀ (fuel : Nat) (listed : Array Bool) (x : Nat → Value) (w : World), listed.size = ops.length → t.length ≤ fuel → S w → (∀ j, l.length ≤ j → j < ops.length → listed.getD j true = false) → (∀ j, j < l.length → listed.getD j true = true → R j (x j) w) →
        (∀ j, j < l.length → listed.getD j true = true) → wpAny P .any ops.toArray Q fuel listed (putAll x 0 l a) w := by
      intro fuel listed x w hsz hfu hS hhi hR all
      refine wpAny_tail hb t l.length fuel listed _ w (by omega) (fun i => ?_) hfu hsz all hhi hf (hend x w hS (AllR.of _ 0 (fun j _ hj => hR j (by omega) (all j (by omega)))))
      rw [hops, List.getElem?_append_right (by omega)]
      congr 1; omega
    induction fuel with
    | zero =>
      intro listed x w hsz hc hS hhi hR
      exact fin 0 listed x w hsz (by omega) hS hhi hR (cntN_zero _ _ (by omega))
    | succ fuel ih =>
      intro listed x w hsz hc hS hhi hR
      by_cases hall : cntN (fun j => listed.getD j true) l.length = 0
      · exact fin _ listed x w hsz (by omega) hS hhi hR (cntN_zero _ _ hall)
      · -- some operation of l has not come up: the least of these is ready; no operation of the tail is
        have hex : ∃ k, k < l.length ∧ listed.getD k true = false ∧ ∀ j, j < k → listed.getD j true = true := by
          have : ∀ n, n ≤ l.length → cntN (fun j => listed.getD j true) n ≠ 0 → ∃ k, k < n ∧ listed.getD k true = false ∧ ∀ j, j < k → listed.getD j true = true := by
            intro n
            induction n with
            | zero => intro _ h; exact absurd rfl h
            | succ n ihn =>
              intro hn h
              by_cases h0 : cntN (fun j => listed.getD j true) n = 0
              · have hl := cntN_zero _ _ h0
                refine ⟨n, by omega, ?_, hl⟩
                rw [cntN, h0] at h
                cases hv : listed.getD n true with
                | false => rfl
                | true => rw [hv] at h; simp at h
              · obtain ⟨k, h1, h2⟩ := ihn (by omega) h0
                exact ⟨k, by omega, h2⟩
          exact this l.length (Nat.le_refl _) hall
        obtain ⟨k, hk, hkf, hkl⟩ := hex
        refine ⟨fun h0 => ?_, fun i hi => ?_⟩
        · exfalso
          have hko : k < ops.length := by omega
          have : k ∈ Region.ready .any ops.toArray listed := by
            refine mem_ready.2 ⟨hkf, ops[k], by simp [hko], fun e he _ => ?_⟩
            have hlt := backward_get hb k ops[k] (by simp [hko]) e he
            have h3 := hkl e.on hlt
            have hin : e.on < listed.size := by omega
            simp only [Array.getD, hin, dif_pos] at h3 ⊢
            exact h3
          rw [h0] at this
          cases this
        · obtain ⟨h1, o, ho, hdep⟩ := mem_ready.1 hi
          have ho' : ops[i]? = some o := by simpa using ho
          have hlt : i < ops.length := (List.getElem?_eq_some_iff.1 ho').1
          have hil : i < l.length := by
            rcases Nat.lt_or_ge i l.length with h | h
            · exact h
            · exfalso
              obtain ⟨e, he, hon, hbd⟩ := hf i o ho' h k (by omega)
              have := hdep e he hbd
              rw [hon] at this
              have hin : k < listed.size := by omega
              simp only [Array.getD, hin, dif_pos] at this hkf
              rw [hkf] at this; cases this
          have hol : l[i]? = some o := by rw [hops, List.getElem?_append_left hil] at ho'; exact ho'
          have hok := OpsOk.get l 0 hop i o hol
          rw [Nat.zero_add] at hok
          have deps : DepsOk R x w o.after.toList := by
            refine DepsOk.of _ (fun e he hb' => ?_)
            have hin := backward_get hb i o ho' e (by simpa using he)
            refine hR e.on (by omega) ?_
            have := hdep e (by simpa using he) hb'
            have hin2 : e.on < listed.size := by omega
            simp only [Array.getD, hin2, dif_pos] at this ⊢
            exact this
          have step := hok.ok x w hS deps (wpAny P .any ops.toArray Q fuel (listed.setIfInBounds i true)) (fun v w' hv hS' hle => by
            have hp := putAll_put v l 0 i o x a hlone hol
            rw [Nat.zero_add] at hp
            simp only [hp]
            refine ih _ (upd x i v) w' (by simpa using hsz) ?_ hS' ?_ ?_
            · have hset := cntN_set (fun j => listed.getD j true) (fun j => (listed.setIfInBounds i true).getD j true) i h1 (by
                have : i < listed.size := by omega
                simp [Array.getD, this]) (fun j hj => getD_set_ne true (Ne.symm hj)) l.length hil
              omega
            · intro j hj hjl
              rw [getD_set_ne true (by omega)]
              exact hhi j hj hjl
            · intro j hj hlj
              unfold upd
              by_cases e : j = i
              · rw [if_pos e]; subst e; exact hv
              · rw [if_neg e]
                rw [getD_set_ne true (Ne.symm e)] at hlj
                exact hstab j _ w w' (hR j hj hlj) hS hS' hle)
          unfold wpOp
          rw [ho]
          simp only
          split
          · rename_i hw
            rw [if_pos hw] at step
            exact .inl step
          · rename_i hw
            rw [if_neg hw] at step
            exact step
  have h0 := main ops.toArray.size (Array.replicate ops.toArray.size false) (fun i => match l[i]? with | some o => (match o.dst with | some t => a.tmps.getD t undef | none => undef) | none => undef) w.drew (by simp) ?_ hS0 (fun j h1 h2 => by simp [Array.getD, h2]) (fun j hj hl => ?_)
  · rw [putAll_same a _ l 0 (fun j o hj => by simp only [Nat.zero_add, hj])] at h0
    exact h0
  · have : ∀ n, cntN (fun j => (Array.replicate ops.toArray.size false).getD j true) n ≤ n := by
      intro n
      induction n with
      | zero => exact Nat.le_refl _
      | succ n ih => rw [cntN]; split <;> omega
    have := this l.length
    simp at this ⊢
    omega
  · exfalso
    have : j < ops.length := by omega
    simp [Array.getD, this] at hl

/-- an operation that runs by itself -/
theorem ok_run {P : Program} {ops : Array Oper} {Q : Exit → Act → World → Prop} {F : (Nat → Value) → Act} {S : World → Prop} {R : Nat → Value → World → Prop} {i : Nat} {o : Oper} (hg : o.guard = none)
    (h : ∀ x w, S w → DepsOk R x w o.after.toList → ∃ v w', (execOp (F x).eval o).run P w = .ok (.value v) w' ∧ R i v w' ∧ S w' ∧ Below w.heap.size w w') : OpOk P ops Q F S R i o := by
  refine ⟨?_⟩
  intro x w hS hd K hK
  obtain ⟨v, w', hrun, hR, hS', hle⟩ := h x w hS hd
  rw [if_pos (by simp [Region.wanted, hg])]
  unfold Oper.wp
  rw [hrun]
  exact hK v w' hR hS' hle
/-- a store -/
theorem ok_skip {P : Program} {ops : Array Oper} {Q : Exit → Act → World → Prop} {F : (Nat → Value) → Act} {S : World → Prop} {R : Nat → Value → World → Prop} {i : Nat} {o : Oper} (hg : o.guard = none)
    (h : ∀ x w, S w → DepsOk R x w o.after.toList → ∃ w', (execOp (F x).eval o).run P w = .ok .skip w' ∧ R i undef w' ∧ S w' ∧ Below w.heap.size w w') : OpOk P ops Q F S R i o := by
  refine ⟨?_⟩
  intro x w hS hd K hK
  obtain ⟨w', hrun, hR, hS', hle⟩ := h x w hS hd
  rw [if_pos (by simp [Region.wanted, hg])]
  unfold Oper.wp
  rw [hrun]
  exact hK undef w' hR hS' hle
/-- a call of a Go function -/
theorem ok_call {P : Program} {ops : Array Oper} {Q : Exit → Act → World → Prop} {F : (Nat → Value) → Act} {S : World → Prop} {R : Nat → Value → World → Prop} {i : Nat} {o : Oper} (hg : o.guard = none)
    (h : ∀ x w, S w → DepsOk R x w o.after.toList → ∃ f args, (execOp (F x).eval o).run P w = .ok (.enter f args) w ∧ Calls P f args w fun e w' => ∃ v, e = .returned v ∧ R i v w' ∧ S w' ∧ Below w.heap.size w w') : OpOk P ops Q F S R i o := by
  refine ⟨?_⟩
  intro x w hS hd K hK
  obtain ⟨f, args, hrun, hc⟩ := h x w hS hd
  rw [if_pos (by simp [Region.wanted, hg])]
  unfold Oper.wp
  rw [hrun]
  refine hc.mono ?_
  rintro e w' ⟨v, rfl, h1, h2, h3⟩
  exact hK v w' h1 h2 h3
end Go.Proofs.Ytglkfgfnnhbjeaa
