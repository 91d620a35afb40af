/- An exact machine, part 14: regions in the order of the text; code. -/
import Derived.Test.YtpmgggfjmkpleaaGreatDoorE13c
import Derived.Scope
namespace Go.Proofs.YtpmgggfjmkpleaaGreatDoor.E
open Go Go.RowKit
set_option linter.unusedVariables false

inductive Out where
  | fail
  | nrm (ts : T) (n : Nat) (m : M)
  | ex (i : Nat) (ts : T) (n : Nat) (m : M)
  | ret (ts : T) (n : Nat) (m : M)
abbrev K := Program → CallT → Nat → T → Nat → M → Out
/-- is the guard met? -/
noncomputable def dstOf (l : List Oper) : Nat → Option Tmp := List.rec (fun _ => none) (fun o _ ih i => Nat.rec o.dst (fun j _ => ih j) i) l
theorem dstOf_eq : ∀ (l : List Oper) (i : Nat), dstOf l i = (l[i]?).bind (·.dst)
  | [], i => rfl
  | o :: l, 0 => rfl
  | o :: l, i + 1 => dstOf_eq l i
def gV (want : Bool) (v : V) : Option Bool := match v with
  | .bool b => some (match b, want with | true, true => true | false, false => true | _, _ => false)
  | .tup _ => some false
  | _ => none
noncomputable def gd (all : List Oper) (ts : T) (g : Nat × Bool) : Option Bool := Prod.rec (fun i want => Option.rec none (fun d => gV want (T.get ts d)) (dstOf all i)) g
theorem gd_ok {G : Gh} {arr : Array Oper} {ts : T} {nt : Nat} {a : Act} {o : Oper} {g : Nat × Bool} {b : Bool} (ht : TR G ts nt a) (hg : o.guard = some g) (h : gd arr.toList ts g = some b) : Region.wanted o (yielded arr a.tmps) = b := by
  obtain ⟨i, want⟩ := g
  have h : Option.rec (motive := fun _ => Option Bool) none (fun d => gV want (T.get ts d)) (dstOf arr.toList i) = some b := h
  rw [dstOf_eq] at h
  have e : arr.toList[i]? = arr[i]? := by simp
  rw [e] at h
  unfold Region.wanted
  rw [hg]
  simp only
  unfold yielded
  cases hd : (arr[i]?).bind (·.dst) with
  | none => rw [hd] at h; cases h
  | some d =>
    rw [hd] at h
    have h : gV want (T.get ts d) = some b := h
    have hv := ht.val d
    simp only [Option.bind_some]
    unfold gV at h
    split at h
    · rename_i x e1
      rw [e1] at hv
      have e2 := i_bool hv
      have hlt : d < a.tmps.size := by
        rcases Nat.lt_or_ge d a.tmps.size with h' | h'
        · exact h'
        · simp [Array.getD, Nat.not_lt.2 h', undef] at e2
      have e3 : a.tmps[d]? = some (.bool x) := by
        rw [← e2]; simp [hlt]
      rw [e3]
      have h := Option.some.inj h
      rw [← h]
      cases x <;> cases want <;> rfl
    · rename_i l e1
      rw [e1] at hv
      obtain ⟨cs, e2⟩ : ∃ cs, a.tmps.getD d undef = .tuple cs := by
        generalize a.tmps.getD d undef = u at hv
        cases hv; exact ⟨_, rfl⟩
      have h := Option.some.inj h
      rw [← h]
      cases h3 : a.tmps[d]? with
      | none => rfl
      | some u =>
        have : a.tmps.getD d undef = u := by simp [Array.getD_eq_getD_getElem?, h3]
        rw [this] at e2
        subst e2
        rfl
    · cases h
noncomputable def stp (k : T → Nat → M → Out) (d : Option Tmp) (ts : T) (r : R) : Out := R.rec Out.fail (fun v n m => k (put1 d ts v) n m) r
noncomputable def gdd (k : T → Nat → M → Out) (d : Option Tmp) (run : R) (ts : T) (n : Nat) (m : M) (b : Option Bool) : Out :=
  Option.rec Out.fail (fun b => Bool.rec (k (put1 d ts (.tup [])) n m) (stp k d ts run) b) b
noncomputable def op1 (o : Oper) (all : List Oper) (P : Program) (call : CallT) (fl : Nat) (k : T → Nat → M → Out) (ts : T) (n : Nat) (m : M) : Out :=
  Option.rec (stp k o.dst ts (toR fl n m (evC 3 o.op P call fl ts n m))) (fun g => gdd k o.dst (toR fl n m (evC 3 o.op P call fl ts n m)) ts n m (gd all ts g)) o.guard
noncomputable def ops (l : List Oper) : List Oper → K :=
  List.rec (fun _ _ _ _ ts n m => Out.nrm ts n m) (fun o _ ih all P call fl => op1 o all P call fl (ih all P call fl)) l
def nOf : Out → Nat
  | .fail => 0
  | .nrm _ n _ => n
  | .ex _ _ n _ => n
  | .ret _ n _ => n
def KO (fl B n : Nat) (m : M) (w : World) (G : Gh) (nt : Nat) (Q : Exit → Act → World → Prop) : Out → Prop
  | .fail => False
  | .nrm ts' n' m' => ∀ a' w' G', Post B n m w G n' m' w' G' fl → TR G' ts' nt a' → a'.defers = [] → Q .normal a' w'
  | .ex i ts' n' m' => ∀ a' w' G', Post B n m w G n' m' w' G' fl → TR G' ts' nt a' → a'.defers = [] → Q (.exit i) a' w'
  | .ret ts' n' m' => ∀ a' w' G', Post B n m w G n' m' w' G' fl → TR G' ts' nt a' → a'.defers = [] → Q .ret a' w'
theorem KO.after {fl B n n1 nt : Nat} {m m1 : M} {w w1 : World} {G G1 : Gh} {Q : Exit → Act → World → Prop} {out : Out} (h0 : MemR B w G n m) (hp : Post B n m w G n1 m1 w1 G1 fl) (hfl : fl ≤ n) (h : KO fl B n m w G nt Q out) : KO fl B n1 m1 w1 G1 nt Q out := by
  cases out with
  | fail => exact h
  | nrm ts' n' m' => exact fun a' w' G' h1 => h a' w' G' (Post.trans h0 hp h1 hfl)
  | ex i ts' n' m' => exact fun a' w' G' h1 => h a' w' G' (Post.trans h0 hp h1 hfl)
  | ret ts' n' m' => exact fun a' w' G' h1 => h a' w' G' (Post.trans h0 hp h1 hfl)
theorem KO.mono {fl B n nt : Nat} {m : M} {w : World} {G : Gh} {Q Q' : Exit → Act → World → Prop} {out : Out} (h : KO fl B n m w G nt Q out) (hq : ∀ e a w, Q e a w → Q' e a w) : KO fl B n m w G nt Q' out := by
  cases out with
  | fail => exact h
  | nrm ts' n' m' => exact fun a' w' G' h1 h2 h3 => hq _ _ _ (h a' w' G' h1 h2 h3)
  | ex i ts' n' m' => exact fun a' w' G' h1 h2 h3 => hq _ _ _ (h a' w' G' h1 h2 h3)
  | ret ts' n' m' => exact fun a' w' G' h1 h2 h3 => hq _ _ _ (h a' w' G' h1 h2 h3)
/-- what code does, when the machine runs through it -/
def ExOK (P : Program) (nt : Nat) (c : Code) (f : K) : Prop := ∀ (call : CallT) (fl : Nat) (ts : T) (n : Nat) (m : M), CallOK P call → f P call fl ts n m ≠ .fail → n ≤ nOf (f P call fl ts n m) ∧
  ∀ (B : Nat) (w : World) (G : Gh) (a : Act) (Q : Exit → Act → World → Prop), MemR B w G n m → TR G ts nt a → a.defers = [] → fl ≤ n → Free G n (nOf (f P call fl ts n m)) → KO fl B n m w G nt Q (f P call fl ts n m) → c.wp P Q a w
/-- one operation in its turn -/
theorem op1_ok {P : Program} {call : CallT} {fl nt : Nat} {arr : Array Oper} {o : Oper} {k : T → Nat → M → Out} {ts : T} {n : Nat} {m : M} (hc : CallOK P call) (hd : dstOk nt o.dst = true) (hne : op1 o arr.toList P call fl k ts n m ≠ .fail) :
    ∃ v n1 m1, op1 o arr.toList P call fl k ts n m = k (put1 o.dst ts v) n1 m1 ∧ n ≤ n1 ∧
    ∀ (B : Nat) (w : World) (G : Gh) (a : Act) (Kk : Act → World → Prop) (Q : Exit → Act → World → Prop), MemR B w G n m → TR G ts nt a → a.defers = [] → fl ≤ n ∧ Free G n n1 →
      (∀ a' w' G', Post B n m w G n1 m1 w' G' fl → TR G' (put1 o.dst ts v) nt a' → a'.defers = [] → Kk a' w') →
      (if Region.wanted o (yielded arr a.tmps) then o.wp P a w Kk Q ∨ (o.asks P a w ∧ LetsOut Q) else Kk (a.put o.dst undef) w) := by
  have run : ∀ (hb : stp k o.dst ts (toR fl n m (evC 3 o.op P call fl ts n m)) ≠ .fail), ∃ v n1 m1, stp k o.dst ts (toR fl n m (evC 3 o.op P call fl ts n m)) = k (put1 o.dst ts v) n1 m1 ∧ n ≤ n1 ∧
    ∀ (B : Nat) (w : World) (G : Gh) (a : Act) (Kk : Act → World → Prop) (Q : Exit → Act → World → Prop), MemR B w G n m → TR G ts nt a → a.defers = [] → fl ≤ n ∧ Free G n n1 →
      (∀ a' w' G', Post B n m w G n1 m1 w' G' fl → TR G' (put1 o.dst ts v) nt a' → a'.defers = [] → Kk a' w') → o.wp P a w Kk Q := by
    intro hb
    cases hr : toR fl n m (evC 3 o.op P call fl ts n m) with
    | fail => rw [hr] at hb; exact absurd rfl hb
    | ok v n1 m1 =>
      obtain ⟨h1, h2⟩ := toR_ok (evC_ok hc 3 o ts fl n m) hr
      refine ⟨v, n1, m1, rfl, h1, fun B w G a Kk Q hm ht hdf hfl hK => ?_⟩
      refine h2 B w G a hm (ht.orel _) hfl _ _ fun x w' G' hp hx => ?_
      exact hK _ _ _ hp ((ht.ext hp.ext).put o.dst hd hx) (by rw [put_defers]; exact hdf)
  cases hg : o.guard with
  | none =>
    have e : op1 o arr.toList P call fl k ts n m = stp k o.dst ts (toR fl n m (evC 3 o.op P call fl ts n m)) := by unfold op1; rw [hg]
    rw [e] at hne ⊢
    obtain ⟨v, n1, m1, h1, h2, h3⟩ := run hne
    refine ⟨v, n1, m1, h1, h2, fun B w G a Kk Q hm ht hdf hfl hK => ?_⟩
    have : Region.wanted o (yielded arr a.tmps) = true := by unfold Region.wanted; rw [hg]
    rw [this, if_pos rfl]
    exact .inl (h3 B w G a Kk Q hm ht hdf hfl hK)
  | some g =>
    have e : op1 o arr.toList P call fl k ts n m = gdd k o.dst (toR fl n m (evC 3 o.op P call fl ts n m)) ts n m (gd arr.toList ts g) := by unfold op1; rw [hg]
    rw [e] at hne ⊢
    cases hb : gd arr.toList ts g with
    | none => rw [hb] at hne; exact absurd rfl hne
    | some b =>
      rw [hb] at hne
      cases b with
      | true =>
        obtain ⟨v, n1, m1, h1, h2, h3⟩ := run hne
        refine ⟨v, n1, m1, h1, h2, fun B w G a Kk Q hm ht hdf hfl hK => ?_⟩
        rw [gd_ok ht hg hb, if_pos rfl]
        exact .inl (h3 B w G a Kk Q hm ht hdf hfl hK)
      | false =>
        refine ⟨.tup [], n, m, rfl, Nat.le_refl _, fun B w G a Kk Q hm ht hdf hfl hK => ?_⟩
        rw [gd_ok ht hg hb, if_neg (by simp)]
        exact hK _ _ _ (Post.refl hm fl) (ht.put o.dst hd (cr_undef G)) (by rw [put_defers]; exact hdf)
theorem ops_ok {P : Program} {call : CallT} {fl nt : Nat} {arr : Array Oper} (hc : CallOK P call) : ∀ (l : List Oper) (k : Nat), arr.toList.drop k = l → (∀ o ∈ l, dstOk nt o.dst = true) → ∀ (ts : T) (n : Nat) (m : M), ops l arr.toList P call fl ts n m ≠ .fail →
    (∃ ts' n' m', ops l arr.toList P call fl ts n m = .nrm ts' n' m') ∧ n ≤ nOf (ops l arr.toList P call fl ts n m) ∧
    ∀ (B : Nat) (w : World) (G : Gh) (a : Act) (Q : Exit → Act → World → Prop), MemR B w G n m → TR G ts nt a → a.defers = [] → fl ≤ n → Free G n (nOf (ops l arr.toList P call fl ts n m)) → KO fl B n m w G nt Q (ops l arr.toList P call fl ts n m) →
      wpOps P arr Q (List.range' k (arr.size - k)) a w
  | [], k, hk, _, ts, n, m, _ => by
    refine ⟨⟨ts, n, m, rfl⟩, Nat.le_refl _, fun B w G a Q hm ht hdf hfl hfr hK => ?_⟩
    have hle : arr.size ≤ k := by have := List.drop_eq_nil_iff.1 hk; simpa using this
    rw [show arr.size - k = 0 by omega]
    exact hK a w G (Post.refl hm fl) ht hdf
  | o :: l, k, hk, hd, ts, n, m, hne => by
    have hok : arr[k]? = some o := by
      have : (arr.toList.drop k)[0]? = some o := by rw [hk]; rfl
      rw [List.getElem?_drop] at this
      simpa using this
    have hk' : arr.toList.drop (k + 1) = l := by
      rw [← List.drop_drop, hk]; rfl
    have hlt : k < arr.size := (Array.getElem?_eq_some_iff.1 hok).1
    have e : ops (o :: l) arr.toList P call fl ts n m = op1 o arr.toList P call fl (ops l arr.toList P call fl) ts n m := rfl
    rw [e] at hne ⊢
    obtain ⟨v, n1, m1, h1, h2, h3⟩ := op1_ok hc (hd o List.mem_cons_self) hne
    rw [h1] at hne ⊢
    obtain ⟨h4, h5, h6⟩ := ops_ok hc l (k + 1) hk' (fun o ho => hd o (List.mem_cons_of_mem _ ho)) _ _ _ hne
    refine ⟨h4, Nat.le_trans h2 h5, fun B w G a Q hm ht hdf hfl hfr hK => ?_⟩
    rw [show arr.size - k = (arr.size - (k + 1)) + 1 by omega, List.range'_succ]
    simp only [wpOps, hok]
    refine h3 B w G a _ Q hm ht hdf ⟨hfl, hfr.sub (Nat.le_refl _) h5⟩ fun a' w' G' hp ht' hdf' => ?_
    exact h6 B w' G' a' Q hp.memr ht' hdf' (Nat.le_trans hfl h2) ((hp.free hfr)) (hK.after hm hp hfl)
theorem wp_region_text {P : Program} {id : Nat} {arr : Array Oper} {Q : Exit → Act → World → Prop} {a : Act} {w : World} (h : wpOps P arr Q (List.range arr.size) a w) : (Code.region id arr false).wp P Q a w := by
  intro b k cs
  obtain ⟨e, a', w', hq, harr⟩ := wp_ops (List.range arr.size) a w h b k cs
  exact ⟨e, a', w', hq, .of_steps (.one step_region) harr⟩
def dOks (nt : Nat) (l : List Oper) : Bool := l.all fun o => dstOk nt o.dst
noncomputable def cReg (arr : Array Oper) : K := fun P call fl ts n m => ops arr.toList arr.toList P call fl ts n m
theorem reg_ok {P : Program} {nt id : Nat} {arr : Array Oper} (hd : dOks nt arr.toList = true) : ExOK P nt (.region id arr false) (cReg arr) := by
  intro call fl ts n m hc hne
  unfold dOks at hd
  obtain ⟨_, h1, h2⟩ := ops_ok (arr := arr) (nt := nt) (fl := fl) hc arr.toList 0 rfl (List.all_eq_true.1 hd) ts n m hne
  refine ⟨h1, fun B w G a Q hm ht hdf hfl hfr hK => wp_region_text ?_⟩
  have := h2 B w G a Q hm ht hdf hfl hfr hK
  rwa [Nat.sub_zero, ← List.range_eq_range'] at this
/-! code -/
noncomputable def thn (k : T → Nat → M → Out) (o : Out) : Out := Out.rec Out.fail (fun ts n m => k ts n m) (fun i ts n m => Out.ex i ts n m) (fun ts n m => Out.ret ts n m) o
noncomputable def blkO (i : Nat) (o : Out) : Out := Out.rec Out.fail (fun ts n m => Out.nrm ts n m) (fun j ts n m => Bool.rec (Out.ex j ts n m) (Out.nrm ts n m) (Nat.beq j i)) (fun ts n m => Out.ret ts n m) o
noncomputable def loopR (fuel : Nat) : (T → Nat → M → Out) → T → Nat → M → Out := Nat.rec (fun _ _ _ _ => Out.fail) (fun _ ih c ts n m => thn (ih c) (c ts n m)) fuel
noncomputable def cFail : K := fun _ _ _ _ _ _ => .fail
noncomputable def cSkip : K := fun _ _ _ ts n m => .nrm ts n m
noncomputable def cSeq (a b : K) : K := fun P call fl ts n m => thn (b P call fl) (a P call fl ts n m)
noncomputable def cnd (v : V) (a b : Out) : Out := V.rec (motive_1 := fun _ => Out) (motive_2 := fun _ => Unit) .fail (fun _ _ => .fail) (fun t => Bool.rec b a t) (fun _ => .fail) (fun _ _ => .fail) (fun _ _ => .fail) .fail (fun _ _ _ _ _ => .fail) .fail (fun _ _ => .fail) .fail (fun _ => .fail) .fail (fun _ _ _ => .fail) .fail (fun _ => .fail) (fun _ _ _ => .fail) (fun _ => .fail) (fun _ _ _ => .fail) () (fun _ _ _ _ => ()) v
noncomputable def cCond (c : Operand) (a b : K) : K := fun P call fl ts n m => cnd (evo ts c) (a P call fl ts n m) (b P call fl ts n m)
noncomputable def cBlk (i : Nat) (a : K) : K := fun P call fl ts n m => blkO i (a P call fl ts n m)
noncomputable def cLoop (a : K) : K := fun P call fl ts n m => loopR 100000 (a P call fl) ts n m
noncomputable def cExit (i : Nat) : K := fun _ _ _ ts n m => .ex i ts n m
noncomputable def cRet : K := fun _ _ _ ts n m => .ret ts n m
section
variable {P : Program} {nt : Nat}
theorem skip_ok : ExOK P nt .skip cSkip := fun call fl ts n m hc hne => ⟨Nat.le_refl _, fun B w G a Q hm ht hdf hfl hfr hK => wp_skip (hK a w G (Post.refl hm fl) ht hdf)⟩
theorem label_ok {l : Nat} : ExOK P nt (.label l) cSkip := fun call fl ts n m hc hne => ⟨Nat.le_refl _, fun B w G a Q hm ht hdf hfl hfr hK => wp_label (hK a w G (Post.refl hm fl) ht hdf)⟩
theorem exit_ok {i : Nat} : ExOK P nt (.exit i) (cExit i) := fun call fl ts n m hc hne => ⟨Nat.le_refl _, fun B w G a Q hm ht hdf hfl hfr hK => wp_exit (hK a w G (Post.refl hm fl) ht hdf)⟩
theorem ret_ok : ExOK P nt .ret cRet := fun call fl ts n m hc hne => ⟨Nat.le_refl _, fun B w G a Q hm ht hdf hfl hfr hK => wp_ret (hK a w G (Post.refl hm fl) ht hdf)⟩
theorem fail_ok {c : Code} : ExOK P nt c cFail := fun call fl ts n m hc hne => absurd rfl hne
theorem seq_ok {x y : Code} {f g : K} (hf : ExOK P nt x f) (hg : ExOK P nt y g) : ExOK P nt (.seq x y) (cSeq f g) := by
  intro call fl ts n m hc hne
  have e : cSeq f g P call fl ts n m = thn (g P call fl) (f P call fl ts n m) := rfl
  rw [e] at hne ⊢
  have hfn : f P call fl ts n m ≠ .fail := fun h => hne (by rw [h]; rfl)
  obtain ⟨h1, h2⟩ := hf call fl ts n m hc hfn
  cases ho : f P call fl ts n m with
  | fail => exact absurd ho hfn
  | nrm ts1 n1 m1 =>
    rw [ho] at hne h1 h2
    have hne : g P call fl ts1 n1 m1 ≠ .fail := hne
    obtain ⟨h3, h4⟩ := hg call fl ts1 n1 m1 hc hne
    have h1 : n ≤ n1 := h1
    refine ⟨Nat.le_trans h1 h3, fun B w G a Q hm ht hdf hfl hfr hK => wp_seq ?_⟩
    have hfr : Free G n (nOf (g P call fl ts1 n1 m1)) := hfr
    refine h2 B w G a _ hm ht hdf hfl (hfr.sub (Nat.le_refl _) h3) fun a' w' G' hp ht' hdf' => ?_
    exact h4 B w' G' a' Q hp.memr ht' hdf' (Nat.le_trans hfl h1) (hp.free hfr) (KO.after hm hp hfl hK)
  | ex i ts1 n1 m1 =>
    rw [ho] at hne h1 h2
    exact ⟨h1, fun B w G a Q hm ht hdf hfl hfr hK => wp_seq (h2 B w G a _ hm ht hdf hfl hfr fun a' w' G' hp ht' hdf' => hK a' w' G' hp ht' hdf')⟩
  | ret ts1 n1 m1 =>
    rw [ho] at hne h1 h2
    exact ⟨h1, fun B w G a Q hm ht hdf hfl hfr hK => wp_seq (h2 B w G a _ hm ht hdf hfl hfr fun a' w' G' hp ht' hdf' => hK a' w' G' hp ht' hdf')⟩
theorem cond_ok {c : Operand} {x y : Code} {f g : K} (hf : ExOK P nt x f) (hg : ExOK P nt y g) : ExOK P nt (.cond c x y) (cCond c f g) := by
  intro call fl ts n m hc hne
  have e : cCond c f g P call fl ts n m = cnd (evo ts c) (f P call fl ts n m) (g P call fl ts n m) := rfl
  rw [e] at hne ⊢
  cases hv : evo ts c with
  | bool t =>
    rw [hv] at hne
    have key : ∀ a : Act, ∀ G, TR G ts nt a → a.eval c = .bool t := fun a G ht => by have := evo_ok ht c; rw [hv] at this; exact i_bool this
    cases t with
    | true =>
      obtain ⟨h1, h2⟩ := hf call fl ts n m hc hne
      exact ⟨h1, fun B w G a Q hm ht hdf hfl hfr hK => wp_cond_true (key a G ht) (h2 B w G a Q hm ht hdf hfl hfr hK)⟩
    | false =>
      obtain ⟨h1, h2⟩ := hg call fl ts n m hc hne
      exact ⟨h1, fun B w G a Q hm ht hdf hfl hfr hK => wp_cond_false (key a G ht) (h2 B w G a Q hm ht hdf hfl hfr hK)⟩
  | _ => rw [hv] at hne; exact absurd rfl hne
theorem blk_ok {i : Nat} {x : Code} {f : K} (hf : ExOK P nt x f) : ExOK P nt (.block i x) (cBlk i f) := by
  intro call fl ts n m hc hne
  have e : cBlk i f P call fl ts n m = blkO i (f P call fl ts n m) := rfl
  rw [e] at hne ⊢
  have hfn : f P call fl ts n m ≠ .fail := fun h => hne (by rw [h]; rfl)
  obtain ⟨h1, h2⟩ := hf call fl ts n m hc hfn
  cases ho : f P call fl ts n m with
  | fail => exact absurd ho hfn
  | nrm ts1 n1 m1 =>
    rw [ho] at hne h1 h2
    exact ⟨h1, fun B w G a Q hm ht hdf hfl hfr hK => wp_block (h2 B w G a _ hm ht hdf hfl hfr fun a' w' G' hp ht' hdf' => hK a' w' G' hp ht' hdf')⟩
  | ret ts1 n1 m1 =>
    rw [ho] at hne h1 h2
    exact ⟨h1, fun B w G a Q hm ht hdf hfl hfr hK => wp_block (h2 B w G a _ hm ht hdf hfl hfr fun a' w' G' hp ht' hdf' => hK a' w' G' hp ht' hdf')⟩
  | ex j ts1 n1 m1 =>
    rw [ho] at hne h1 h2
    have e2 : blkO i (.ex j ts1 n1 m1) = Bool.rec (motive := fun _ => Out) (Out.ex j ts1 n1 m1) (Out.nrm ts1 n1 m1) (Nat.beq j i) := rfl
    rw [e2] at hne ⊢
    cases hj : Nat.beq j i with
    | true =>
      have hj' := Nat.eq_of_beq_eq_true hj
      refine ⟨h1, fun B w G a Q hm ht hdf hfl hfr hK => wp_block (h2 B w G a _ hm ht hdf hfl hfr fun a' w' G' hp ht' hdf' => ?_)⟩
      show (if j = i then Q .normal a' w' else Q (.exit j) a' w')
      rw [if_pos hj']
      exact hK a' w' G' hp ht' hdf'
    | false =>
      have hj' : j ≠ i := fun e => by subst e; rw [Nat.beq_refl] at hj; cases hj
      refine ⟨h1, fun B w G a Q hm ht hdf hfl hfr hK => wp_block (h2 B w G a _ hm ht hdf hfl hfr fun a' w' G' hp ht' hdf' => ?_)⟩
      show (if j = i then Q .normal a' w' else Q (.exit j) a' w')
      rw [if_neg hj']
      exact hK a' w' G' hp ht' hdf'
/-- a loop, by how many rounds it still goes -/
theorem wp_loop_n {Q : Exit → Act → World → Prop} {c : Code} (I : Nat → Act → World → Prop) (round : ∀ n a w, I n a w → c.wp P (Exit.then (fun a' w' => ∃ k, k < n ∧ I k a' w') Q) a w) {n : Nat} {a : Act} {w : World} (h0 : I n a w) : (Code.loop c).wp P Q a w := by
  intro b k cs
  have key : ∀ n a w, I n a w → ∃ e a' w', Q e a' w' ∧ Arrives P (lone (b.at a (.code c :: .inLoop c :: k)) cs w) b k cs e a' w' := by
    intro n
    induction n using Nat.strongRecOn with
    | _ n ih =>
      intro a w hI
      obtain ⟨e, a₁, w₁, hq, harr⟩ := round n a w hI b (.inLoop c :: k) cs
      cases e with
      | normal =>
        obtain ⟨j, hlt, hI₁⟩ := hq
        obtain ⟨e₂, a₂, w₂, hq₂, harr₂⟩ := ih j hlt a₁ w₁ hI₁
        exact ⟨e₂, a₂, w₂, hq₂, .of_steps (Steps.trans harr (.one step_inLoop)) harr₂⟩
      | exit id => exact ⟨_, a₁, w₁, hq, .pass (x := .inLoop c) rfl (fun _ _ => .inl (by simp)) harr⟩
      | goto l => exact ⟨_, a₁, w₁, hq, .pass (x := .inLoop c) rfl (fun _ _ => .inl (by simp)) harr⟩
      | ret => exact ⟨_, a₁, w₁, hq, .pass (x := .inLoop c) rfl (fun _ _ => .inl (by simp)) harr⟩
      | panic ch => exact ⟨_, a₁, w₁, hq, .pass (x := .inLoop c) rfl (fun _ _ => .inl (by simp)) harr⟩
      | outgrown => exact ⟨_, a₁, w₁, hq, .pass (x := .inLoop c) rfl (fun _ _ => .inl (by simp)) harr⟩
  obtain ⟨e, a', w', hq, harr⟩ := key n a w h0
  exact ⟨e, a', w', hq, .of_steps (.one step_loop) harr⟩
theorem loopR_le {x : Code} {f : K} (hf : ExOK P nt x f) {call : CallT} {fl : Nat} (hc : CallOK P call) : ∀ (fuel : Nat) (ts : T) (n : Nat) (m : M), loopR fuel (f P call fl) ts n m ≠ .fail → n ≤ nOf (loopR fuel (f P call fl) ts n m)
  | 0, ts, n, m, h => absurd rfl h
  | fuel + 1, ts, n, m, h => by
    have e : loopR (fuel + 1) (f P call fl) ts n m = thn (loopR fuel (f P call fl)) (f P call fl ts n m) := rfl
    rw [e] at h ⊢
    have hfn : f P call fl ts n m ≠ .fail := fun h' => h (by rw [h']; rfl)
    have h1 := (hf call fl ts n m hc hfn).1
    cases ho : f P call fl ts n m with
    | fail => exact absurd ho hfn
    | nrm ts1 n1 m1 =>
      rw [ho] at h h1
      exact Nat.le_trans h1 (loopR_le hf hc fuel ts1 n1 m1 h)
    | ex i ts1 n1 m1 => rw [ho] at h1; exact h1
    | ret ts1 n1 m1 => rw [ho] at h1; exact h1
theorem loop_ok {x : Code} {f : K} (hf : ExOK P nt x f) : ExOK P nt (.loop x) (cLoop f) := by
  intro call fl ts n m hc hne
  refine ⟨loopR_le hf hc 100000 ts n m hne, fun B w G a Q hm ht hdf hfl hfr hK => ?_⟩
  refine wp_loop_n (n := 100000) (fun fuel a w => ∃ ts1 n1 m1 G1, loopR fuel (f P call fl) ts1 n1 m1 ≠ .fail ∧ MemR B w G1 n1 m1 ∧ TR G1 ts1 nt a ∧ a.defers = [] ∧ fl ≤ n1 ∧ Free G1 n1 (nOf (loopR fuel (f P call fl) ts1 n1 m1)) ∧ KO fl B n1 m1 w G1 nt Q (loopR fuel (f P call fl) ts1 n1 m1)) ?_ ⟨ts, n, m, G, hne, hm, ht, hdf, hfl, hfr, hK⟩
  intro fuel a w ⟨ts, n, m, G, hne, hm, ht, hdf, hfl, hfr, hK⟩
  cases fuel with
  | zero => exact absurd rfl hne
  | succ fuel =>
    have e : loopR (fuel + 1) (f P call fl) ts n m = thn (loopR fuel (f P call fl)) (f P call fl ts n m) := rfl
    rw [e] at hne hfr hK
    have hfn : f P call fl ts n m ≠ .fail := fun h' => hne (by rw [h']; rfl)
    obtain ⟨h1, h2⟩ := hf call fl ts n m hc hfn
    cases ho : f P call fl ts n m with
    | fail => exact absurd ho hfn
    | nrm ts1 n1 m1 =>
      rw [ho] at hne h1 h2 hfr hK
      have hle := loopR_le hf hc fuel ts1 n1 m1 hne
      have hfr : Free G n (nOf (loopR fuel (f P call fl) ts1 n1 m1)) := hfr
      refine h2 B w G a _ hm ht hdf hfl (hfr.sub (Nat.le_refl _) hle) fun a' w' G' hp ht' hdf' => ?_
      exact ⟨fuel, Nat.lt_succ_self _, ts1, n1, m1, G', hne, hp.memr, ht', hdf', Nat.le_trans hfl h1, hp.free hfr, KO.after hm hp hfl hK⟩
    | ex i ts1 n1 m1 =>
      rw [ho] at hne h1 h2 hfr hK
      exact h2 B w G a _ hm ht hdf hfl hfr fun a' w' G' hp ht' hdf' => hK a' w' G' hp ht' hdf'
    | ret ts1 n1 m1 =>
      rw [ho] at hne h1 h2 hfr hK
      exact h2 B w G a _ hm ht hdf hfl hfr fun a' w' G' hp ht' hdf' => hK a' w' G' hp ht' hdf'
theorem scope_ok {x : Code} {f : K} (hf : ExOK P nt x f) : ExOK P nt (.scope x) f := by
  intro call fl ts n m hc hne
  obtain ⟨h1, h2⟩ := hf call fl ts n m hc hne
  refine ⟨h1, fun B w G a Q hm ht hdf hfl hfr hK => wp_scope_straight (h2 B w G a _ hm ht hdf hfl hfr ?_)⟩
  cases ho : f P call fl ts n m with
  | fail => exact absurd ho hne
  | _ => rw [ho] at hK; exact fun a' w' G' hp ht' hdf' => hK a' w' G' hp ht' hdf'
end
end Go.Proofs.YtpmgggfjmkpleaaGreatDoor.E
