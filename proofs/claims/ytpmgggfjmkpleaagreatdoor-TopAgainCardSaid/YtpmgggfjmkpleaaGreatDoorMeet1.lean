/- The symbolic exact machine: a call whose arguments lie in a few blocks, run once in a small memory, holds in any memory. -/
import Derived.Test.YtpmgggfjmkpleaaGreatDoorE22
namespace Go.Proofs.YtpmgggfjmkpleaaGreatDoor.E
open Go Go.RowKit
set_option linter.unusedVariables false

/-! what a value tells without naming a block -/
noncomputable def wkV : Nat → V → V
  | 0, _ => .unk
  | _ + 1, .int k n => .int k n
  | _ + 1, .bool b => .bool b
  | _ + 1, .str s => .str s
  | f + 1, .agg l => .agg (l.map (wkV f))
  | f + 1, .tup l => .tup (l.map (wkV f))
  | _ + 1, _ => .unk
theorem map_get2 {G G' : Gh} {g : V → V} (hg : ∀ v x, CR G v x → CR G' (g v) x) (l : List V) (i : Nat) (x : Value) (h : CR G (l.getD i .unk) x) : CR G' ((l.map g).getD i .unk) x := by
  rw [List.getD_eq_getElem?_getD] at h ⊢
  rw [List.getElem?_map]
  cases e : l[i]? with
  | none => exact .unk _
  | some v => rw [e] at h; exact hg v x h
theorem wkV_ok {G G' : Gh} : ∀ (f : Nat) (v : V) (x : Value), CR G v x → CR G' (wkV f v) x
  | 0, v, x, h => .unk _
  | f + 1, v, x, h => by
    cases h with
    | int k n => exact .int _ _
    | bool b => exact .bool _
    | str s => exact .str _
    | agg l cs h1 h2 h3 => exact .agg _ cs (by rw [h1, List.length_map]) (fun i => map_get2 (wkV_ok f) l i _ (h2 i)) h3
    | tup l cs h1 h2 => exact .tup _ cs (by rw [h1, List.length_map]) (fun i => map_get2 (wkV_ok f) l i _ (h2 i))
    | _ => exact .unk _
/-! the same value, under other names -/
def cmp : Nat → List Nat → V → V → Bool
  | 0, _, _, _ => false
  | _ + 1, _, _, .unk => true
  | _ + 1, _, .int k a, .int k' b => (match kEq k k' with | true => ieq a b | false => false)
  | _ + 1, _, .bool a, .bool b => bEq a b
  | _ + 1, _, .str a, .str b => slEq a b
  | _ + 1, _, .nils, .nils => true
  | _ + 1, σ, .sl b o n c false, .sl b' o' n' c' false => (match σ[b']? with
    | some q => (match Nat.beq b q, Nat.beq o o', Nat.beq n n' with | true, true, true => Nat.beq c c' | _, _, _ => false)
    | none => false)
  | f + 1, σ, .agg l, .agg m => vsEq (cmp f σ) l m
  | _ + 1, _, _, _ => false
/-- the small memory's names -/
def Gh.small (G : Gh) (σ : List Nat) : Gh := ⟨fun i => i < σ.length ∧ G.al (σ.getD i 0), fun i => G.ρ (σ.getD i 0), fun i => G.κ (σ.getD i 0), G.θ, G.θlt, G.env⟩
theorem vsEq_get {eq : V → V → Bool} : ∀ {l m : List V}, vsEq eq l m = true → m.length = l.length ∧ ∀ (i : Nat) a b, l[i]? = some a → m[i]? = some b → eq a b = true
  | [], [], _ => ⟨rfl, fun i a b h => by cases h⟩
  | a :: l, b :: m, h => by
    unfold vsEq at h
    split at h
    · rename_i h1
      obtain ⟨h2, h3⟩ := vsEq_get h
      refine ⟨by simp [h2], fun i x y hx hy => ?_⟩
      cases i with
      | zero => cases hx; cases hy; exact h1
      | succ i => exact h3 i x y hx hy
    · cases h
  | [], _ :: _, h => by cases h
  | _ :: _, [], h => by cases h
theorem vsEq_lr {G G' : Gh} {eq : V → V → Bool} (he : ∀ a b x, eq a b = true → CR G a x → CR G' b x) {l m : List V} {cs : List Value} (h : vsEq eq l m = true) (hl : LR G l cs) : LR G' m cs := by
  obtain ⟨h1, h2⟩ := vsEq_get h
  refine ⟨by rw [hl.1, h1], fun i => ?_⟩
  have hi := hl.2 i
  rw [List.getD_eq_getElem?_getD] at hi ⊢
  cases em : m[i]? with
  | none => exact .unk _
  | some b =>
    have hlt : i < l.length := by rw [← h1]; exact (List.getElem?_eq_some_iff.1 em).1
    have el := List.getElem?_eq_getElem hlt
    rw [el] at hi
    exact he _ _ _ (h2 i _ _ el em) hi
theorem cmp_ok {G : Gh} {σ : List Nat} : ∀ (f : Nat) (v v0 : V) (x : Value), cmp f σ v v0 = true → CR G v x → CR (G.small σ) v0 x
  | 0, _, _, _, h, _ => by cases h
  | f + 1, v, v0, x, h, hx => by
    unfold cmp at h
    split at h
    · rename_i e; cases e
    · exact .unk _
    · split at h
      · rename_i hk
        rw [i_int hx, kEq_ok hk, beq_iff_eq.1 ((ieq_eq _ _).symm.trans h)]
        exact .int _ _
      · cases h
    · rw [i_bool hx, bEq_ok h]; exact .bool _
    · rw [i_str hx, slEq_ok h]; exact .str _
    · cases hx; exact .nils
    · rename_i σ x3 x2 x1 x0 n1 b o n c b' o' n' c' hq0
      split at h
      · rename_i q hq
        split at h
        · rename_i h1 h2 h3
          obtain rfl := Nat.eq_of_beq_eq_true h1
          obtain rfl := Nat.eq_of_beq_eq_true h2
          obtain rfl := Nat.eq_of_beq_eq_true h3
          obtain rfl := Nat.eq_of_beq_eq_true h
          have hg : σ.getD b' 0 = b := by rw [List.getD_eq_getElem?_getD, hq]; rfl
          obtain ⟨e, hal, hc⟩ := i_sl hx
          have := CR.sl (G := G.small σ) b' o n c false ⟨(List.getElem?_eq_some_iff.1 hq).1, by rw [hg]; exact hal⟩ hc
          rw [e]
          have e2 : (G.small σ).ρ b' = G.ρ b := by show G.ρ (σ.getD b' 0) = _; rw [hg]
          rw [e2] at this
          exact this
        · cases h
      · cases h
    · rename_i f1 l m hq
      obtain rfl : f = f1 := by omega
      cases hx with
      | agg _ cs h1 h2 h3 =>
        have hlr := vsEq_lr (fun a b x => cmp_ok f a b x) h ⟨h1, h2⟩
        exact .agg m cs hlr.1 hlr.2 h3
    · cases h
/-- a memory of a few blocks -/
noncomputable def setL : List Bk → Nat → M → M
  | [], _, m => m
  | b :: l, i, m => setL l (i + 1) (M.set m i b)
theorem setL_get : ∀ (l : List Bk) (k : Nat) (m : M) (i : Nat), (i < k ∨ k + l.length ≤ i → M.get (setL l k m) i = M.get m i) ∧ (∀ j b, l[j]? = some b → M.get (setL l k m) (k + j) = b ∨ M.get (setL l k m) (k + j) = .dead)
  | [], k, m, i => ⟨fun _ => rfl, fun j b h => by cases h⟩
  | b :: l, k, m, i => by
    obtain ⟨h1, h2⟩ := setL_get l (k + 1) (M.set m k b) i
    refine ⟨fun h => ?_, fun j c hc => ?_⟩
    · show M.get (setL l (k + 1) (M.set m k b)) i = _
      simp only [List.length_cons] at h
      rw [h1 (by omega), M.get_set m k i b (by omega)]
    · cases j with
      | zero =>
        cases hc
        have := (setL_get l (k + 1) (M.set m k b) k).1 (.inl (by omega))
        show M.get (setL l (k + 1) (M.set m k b)) k = b ∨ M.get (setL l (k + 1) (M.set m k b)) k = .dead
        rw [this]
        exact M.get_self m k b
      | succ j =>
        have := h2 j c hc
        rw [show k + 1 + j = k + (j + 1) by omega] at this
        exact this
noncomputable def bkEq (σ : List Nat) (s : Nat) : Bk → Bk → Bool
  | .cells t l op, .cells t' l' op' => (match Nat.beq t t', decide (op = op') with | true, true => vsEq (cmp 3 σ) (l.map (prj 5 0 s)) l' | _, _ => false)
  | _, _ => false
theorem bkEq_ok {w : World} {G : Gh} {σ : List Nat} {q i : Nat} {b b0 : Bk} (hq : σ[i]? = some q) (h : bkEq σ (G.θ 0) b b0 = true) (hb : BkR w G q b) : BkR w (G.small σ) i b0 := by
  have hg : σ.getD i 0 = q := by rw [List.getD_eq_getElem?_getD, hq]; rfl
  unfold bkEq at h
  split at h
  · rename_i t l op t' l' op'
    split at h
    · rename_i h1 h2
      obtain rfl := Nat.eq_of_beq_eq_true h1
      obtain rfl := of_decide_eq_true h2
      have hp := prjB_ok (d := 0) hb
      obtain ⟨cv, rest, fr, k1, k2, k3, k4, k5⟩ := hp
      refine ⟨cv, rest, fr, ?_, k2, ⟨vsEq_lr (fun a b x => cmp_ok 3 a b x) h k3.lr, k3.one⟩, k4, fun s hs => ?_⟩
      · show w.heap[G.ρ (σ.getD i 0)]? = _; rw [hg]; exact k1
      · show cv.length + rest.length = G.κ (σ.getD i 0) * s ∧ G.κ (σ.getD i 0) ≤ maxLen ∧ 0 < s
        rw [hg]; exact k5 s hs
    · cases h
  · cases h
noncomputable def bksEq (σ : List Nat) (s : Nat) (m : M) : List Nat → List Bk → Bool
  | [], [] => true
  | q :: l, b :: bs => (match bkEq σ s (M.get m q) b with | true => bksEq σ s m l bs | false => false)
  | _, _ => false
theorem bksEq_ok {σ : List Nat} {s : Nat} {m : M} : ∀ {l : List Nat} {bs : List Bk}, bksEq σ s m l bs = true → l.length = bs.length ∧ ∀ (i q : Nat) b, l[i]? = some q → bs[i]? = some b → bkEq σ s (M.get m q) b = true
  | [], [], _ => ⟨rfl, fun i q b h => by cases h⟩
  | q :: l, b :: bs, h => by
    unfold bksEq at h
    split at h
    · rename_i h1
      obtain ⟨h2, h3⟩ := bksEq_ok h
      refine ⟨by simp [h2], fun i x y hx hy => ?_⟩
      cases i with
      | zero => cases hx; cases hy; exact h1
      | succ i => exact h3 i x y hx hy
    · cases h
  | [], _ :: _, h => by cases h
  | _ :: _, [], h => by cases h
def noDup : List Nat → Bool
  | [] => true
  | a :: l => (match l.any (Nat.beq a) with | true => false | false => noDup l)
theorem noDup_ok : ∀ {l : List Nat}, noDup l = true → ∀ (i j a : Nat), l[i]? = some a → l[j]? = some a → i = j
  | [], _, i, j, a, h, _ => by cases h
  | b :: l, h, i, j, a, hi, hj => by
    unfold noDup at h
    split at h
    · cases h
    · rename_i h1
      have no : ∀ k, l[k]? ≠ some b := fun k hk => by
        have := List.any_eq_false.1 h1 b (List.mem_of_getElem? hk)
        exact this (Nat.beq_refl b)
      cases i with
      | zero =>
        cases j with
        | zero => rfl
        | succ j => cases hi; exact absurd hj (no j)
      | succ i =>
        cases j with
        | zero => cases hj; exact absurd hi (no i)
        | succ j => rw [noDup_ok h i j a hi hj]
/-- run once in a small memory -/
theorem frame_ok {P : Program} {call : CallT} (hc : CallOK P call) {f : Nat} {xs0 : List V} {bs : List Bk} {v0 : V} {n0 : Nat} {m0 : M} {k : Nat} (h : call bs.length f xs0 bs.length (setL bs 0 (mem0 k)) = .ok v0 n0 m0)
    {B n : Nat} {w : World} {G : Gh} {m : M} {xs : List V} {vs : List Value} {σ : List Nat} (hm : MemR B w G n m) (hl : LR G xs vs) (hs : vsEq (cmp 3 σ) (xs.map (prj 5 0 (G.θ 0))) xs0 = true) (hb : bksEq σ (G.θ 0) m σ bs = true) (hd : noDup σ = true) :
    Calls P f vs.toArray w fun e w' => ∃ x, e = .returned x ∧ Below w.heap.size w w' ∧ ∀ G', CR G' (wkV 4 v0) x := by
  obtain ⟨_, _, hfn⟩ := hc _ _ _ _ _ _ _ _ h
  obtain ⟨hlen, hbk⟩ := bksEq_ok hb
  have hget : ∀ i, live (setL bs 0 (mem0 k)) i → ∃ q b, σ[i]? = some q ∧ bs[i]? = some b ∧ M.get (setL bs 0 (mem0 k)) i = b := by
    intro i hi
    obtain ⟨h1, h2⟩ := setL_get bs 0 (mem0 k) i
    rcases Nat.lt_or_ge i bs.length with hlt | hge
    · have hb1 := List.getElem?_eq_getElem hlt
      refine ⟨_, _, List.getElem?_eq_getElem (by omega), hb1, ?_⟩
      rcases h2 i _ hb1 with h3 | h3
      · rw [Nat.zero_add] at h3; exact h3
      · rw [Nat.zero_add] at h3; exact absurd h3 hi
    · exact absurd ((h1 (.inr (by omega))).trans (get_mem0 k i)) hi
  have hlive : ∀ i q, live (setL bs 0 (mem0 k)) i → σ[i]? = some q → live m q := by
    intro i q hi hq
    obtain ⟨q', b, h1, h2, h3⟩ := hget i hi
    rw [h1] at hq; cases hq
    have := hbk i q b h1 h2
    unfold live
    intro hdd
    rw [hdd] at this
    unfold bkEq at this
    cases this
  have hgd : ∀ {i q : Nat}, σ[i]? = some q → σ.getD i 0 = q := fun {i q} hq => by rw [List.getD_eq_getElem?_getD, hq]; rfl
  have hm0 : MemR B w (G.small σ) bs.length (setL bs 0 (mem0 k)) := by
    refine ⟨fun i => ?_, fun i j hij hi hj => ?_, fun i hi => ?_, hm.base⟩
    · by_cases hi : live (setL bs 0 (mem0 k)) i
      · obtain ⟨q, b, h1, h2, h3⟩ := hget i hi
        rw [h3]
        exact bkEq_ok h1 (hbk i q b h1 h2) (hm.blk q)
      · unfold live at hi
        rw [Classical.not_not.1 hi]; trivial
    · obtain ⟨q, _, h1, _, _⟩ := hget i hi
      obtain ⟨q', _, h1', _, _⟩ := hget j hj
      show G.ρ (σ.getD i 0) ≠ G.ρ (σ.getD j 0)
      rw [hgd h1, hgd h1']
      refine hm.apart q q' (fun e => ?_) (hlive i q hi h1) (hlive j q' hj h1')
      subst e
      exact hij (noDup_ok hd i j _ h1 h1')
    · obtain ⟨q, _, h1, _, _⟩ := hget i hi
      have := hm.own q (hlive i q hi h1)
      show B ≤ G.ρ (σ.getD i 0) ∧ G.ρ (σ.getD i 0) < w.heap.size ∧ i < σ.length ∧ G.al (σ.getD i 0)
      rw [hgd h1]
      exact ⟨this.1, this.2.1, (List.getElem?_eq_some_iff.1 h1).1, this.2.2⟩
  have hl0 : LR (G.small σ) xs0 vs := vsEq_lr (fun a b x => cmp_ok 3 a b x) hs ⟨by rw [hl.1, List.length_map], fun i => map_get (prj_ok 5) xs i _ (hl.2 i)⟩
  refine (hfn B w (G.small σ) vs hm0 hl0 ⟨Nat.le_refl _, fun i h1 _ h2 => by have := h2.1; omega⟩).mono ?_
  rintro e w' ⟨x, G', rfl, hp, hx⟩
  refine ⟨x, rfl, ⟨hp.rest.os, hp.rest.tape, hp.rest.output, hp.rest.size, fun y hy => hp.frame y hy fun i hi hli => ?_⟩, fun G'' => wkV_ok 4 v0 x hx⟩
  obtain ⟨q, b, h1, h2, _⟩ := hget i hli
  have := (List.getElem?_eq_some_iff.1 h2).1
  omega
end Go.Proofs.YtpmgggfjmkpleaaGreatDoor.E
