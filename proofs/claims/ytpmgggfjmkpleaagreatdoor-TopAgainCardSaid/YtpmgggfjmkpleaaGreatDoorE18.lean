/- An exact machine, part 18: a region in any order: how it is reckoned, and what holds on the way. -/
import Derived.Test.YtpmgggfjmkpleaaGreatDoorE17
namespace Go.Proofs.YtpmgggfjmkpleaaGreatDoor.E
open Go Go.RowKit
set_option linter.unusedVariables false

structure It where
  i : Nat
  o : Oper
  ch : Bool
  lo : Nat
structure S where
  hs : List (Nat × Nat × M)
  p : Nat
  ts : T
  n : Nat
  m : M
  v : V
  x : Option Bk
def veq0 (a b : V) : Bool := match a, b with
  | .int k i, .int k' j => kEq k k' && ieq i j
  | .bool x, .bool y => (match x, y with | true, true => true | false, false => true | _, _ => false)
  | .str x, .str y => x == y
  | .ptr b o, .ptr b' o' => Nat.beq b b' && Nat.beq o o'
  | .nilp, .nilp => true
  | .nils, .nils => true
  | .nilm, .nilm => true
  | .nilf, .nilf => true
  | .nili, .nili => true
  | .mp b, .mp b' => Nat.beq b b'
  | .sl b o n c op, .sl b' o' n' c' op' => Nat.beq b b' && (Nat.beq o o' && (Nat.beq n n' && (Nat.beq c c' && (op == op'))))
  | .fn f [], .fn g [] => Nat.beq f g
  | _, _ => false
theorem veq0_ok {a b : V} (h : veq0 a b = true) : a = b := by
  unfold veq0 at h
  split at h <;> first
    | cases h; done
    | rfl
    | skip
  · rw [Bool.and_eq_true, ieq_eq, beq_iff_eq] at h
    rw [kEq_ok h.1, h.2]
  · split at h <;> first | rfl | cases h
  · rw [beq_iff_eq] at h; rw [h]
  · rw [Bool.and_eq_true] at h
    rw [Nat.eq_of_beq_eq_true h.1, Nat.eq_of_beq_eq_true h.2]
  · rw [Nat.eq_of_beq_eq_true h]
  · simp only [Bool.and_eq_true, beq_iff_eq] at h
    obtain ⟨h1, h2, h3, h4, h5⟩ := h
    rw [Nat.eq_of_beq_eq_true h1, Nat.eq_of_beq_eq_true h2, Nat.eq_of_beq_eq_true h3, Nat.eq_of_beq_eq_true h4, h5]
  · rw [Nat.eq_of_beq_eq_true h]
def veqL : List V → List V → Bool
  | [], [] => true
  | a :: l, b :: m => veq0 a b && veqL l m
  | _, _ => false
theorem veqL_ok : ∀ {l m : List V}, veqL l m = true → l = m
  | [], [], _ => rfl
  | a :: l, b :: m, h => by
    simp only [veqL, Bool.and_eq_true] at h
    rw [veq0_ok h.1, veqL_ok h.2]
  | [], _ :: _, h => by cases h
  | _ :: _, [], h => by cases h
def veqA (a b : V) : Bool := match a, b with
  | .agg l, .agg m => veqL l m
  | .tup l, .tup m => veqL l m
  | a, b => veq0 a b
theorem veqA_ok {a b : V} (h : veqA a b = true) : a = b := by
  unfold veqA at h
  split at h
  · rw [veqL_ok h]
  · rw [veqL_ok h]
  · exact veq0_ok h
def veq (a b : V) : Bool := match veqA a b with | true => true | false => vqe 5 a b
theorem veq_ok {a b : V} (h : veq a b = true) : a = b := by
  unfold veq at h
  split at h
  · rename_i h1; exact veqA_ok h1
  · exact vqe_ok 5 a b h
noncomputable def chk1 (op : Op) (lo : Nat) (P : Program) (call : CallT) (fl : Nat) (ts : T) (b : Nat) (v : V) (h : Nat × Nat × M) : Bool :=
  match Nat.ble lo h.1 with
  | false => true
  | true => match evC 3 op P call fl ts h.2.1 h.2.2 with
    | .load b' v' => Nat.beq b' b && veq v' v
    | _ => false
noncomputable def chkL (op : Op) (lo : Nat) (P : Program) (call : CallT) (fl : Nat) (ts : T) (b : Nat) (v : V) (l : List (Nat × Nat × M)) : Bool := l.all (chk1 op lo P call fl ts b v)
noncomputable def nxS (it : It) (s : S) (v : V) (n : Nat) (m : M) (x : Option Bk) : S :=
  { hs := match it.ch with | true => (s.p + 1, n, m) :: s.hs | false => s.hs, p := s.p + 1, ts := put1 it.o.dst s.ts v, n := n, m := m, v := v, x := x }
/-- a block that was made behind the last link of the chain -/
def frs (s : S) (b : Nat) : Bool := match s.hs with | h :: _ => Nat.ble h.2.1 b && Nat.blt b s.n | [] => false
noncomputable def goS (it : It) (P : Program) (call : CallT) (fl : Nat) (s : S) : Option S :=
  match it.ch with
  | true => match toR fl s.n s.m (evC 3 it.o.op P call fl s.ts s.n s.m) with
    | .ok v n m => some (nxS it s v n m none)
    | .fail => none
  | false => match evC 3 it.o.op P call fl s.ts s.n s.m with
    | .pure v => some (nxS it s v s.n s.m none)
    | .load b v => (match frs s b || chkL it.o.op it.lo P call fl s.ts b v s.hs.tail with | true => some (nxS it s v s.n s.m none) | false => none)
    | .alloc v x => some (nxS it s v (s.n + 1) (M.set s.m s.n x) (some x))
    | _ => none
noncomputable def stD (all : List Oper) (it : It) (P : Program) (call : CallT) (fl : Nat) (s : S) : Option S :=
  match it.o.guard with
  | none => goS it P call fl s
  | some g => match gd all s.ts g with
    | some true => goS it P call fl s
    | some false => some (nxS it s (.tup []) s.n s.m none)
    | none => none
noncomputable def evL (all : List Oper) (P : Program) (call : CallT) (fl : Nat) (l : List It) : S → Option S := List.rec some (fun it _ ih s => Option.rec none ih (stD all it P call fl s)) l
theorem evL_append (all : List Oper) (P : Program) (call : CallT) (fl : Nat) : ∀ (l r : List It) (s : S), evL all P call fl (l ++ r) s = (evL all P call fl l s).bind (evL all P call fl r)
  | [], r, s => rfl
  | it :: l, r, s => by
    show Option.rec (motive := fun _ => Option S) none (evL all P call fl (l ++ r)) (stD all it P call fl s) = (Option.rec (motive := fun _ => Option S) none (evL all P call fl l) (stD all it P call fl s)).bind _
    cases stD all it P call fl s with
    | none => rfl
    | some s' => exact evL_append all P call fl l r s'
/-- is the guard met? -/
def Met (all : List Oper) (ts : T) (o : Oper) : Prop := o.guard = none ∨ ∃ g, o.guard = some g ∧ gd all ts g = some true
theorem stD_ok {all : List Oper} {it : It} {P : Program} {call : CallT} {fl : Nat} {s s' : S} (h : stD all it P call fl s = some s') :
    s'.p = s.p + 1 ∧ s'.ts = put1 it.o.dst s.ts s'.v ∧ s'.hs = (match it.ch with | true => (s.p + 1, s'.n, s'.m) :: s.hs | false => s.hs) ∧
    ((∃ g, it.o.guard = some g ∧ gd all s.ts g = some false ∧ s'.v = .tup [] ∧ s'.n = s.n ∧ s'.m = s.m ∧ s'.x = none) ∨
     (Met all s.ts it.o ∧
      ((it.ch = true ∧ s'.x = none ∧ toR fl s.n s.m (evC 3 it.o.op P call fl s.ts s.n s.m) = .ok s'.v s'.n s'.m) ∨
       (it.ch = false ∧ s'.x = none ∧ s'.n = s.n ∧ s'.m = s.m ∧ (evC 3 it.o.op P call fl s.ts s.n s.m = .pure s'.v ∨ ∃ b, evC 3 it.o.op P call fl s.ts s.n s.m = .load b s'.v ∧ (frs s b || chkL it.o.op it.lo P call fl s.ts b s'.v s.hs.tail) = true)) ∨
       (it.ch = false ∧ ∃ x, s'.x = some x ∧ evC 3 it.o.op P call fl s.ts s.n s.m = .alloc s'.v x ∧ s'.n = s.n + 1 ∧ s'.m = M.set s.m s.n x)))) := by
  have go : ∀ s', goS it P call fl s = some s' → s'.p = s.p + 1 ∧ s'.ts = put1 it.o.dst s.ts s'.v ∧ s'.hs = (match it.ch with | true => (s.p + 1, s'.n, s'.m) :: s.hs | false => s.hs) ∧
      ((it.ch = true ∧ s'.x = none ∧ toR fl s.n s.m (evC 3 it.o.op P call fl s.ts s.n s.m) = .ok s'.v s'.n s'.m) ∨
       (it.ch = false ∧ s'.x = none ∧ s'.n = s.n ∧ s'.m = s.m ∧ (evC 3 it.o.op P call fl s.ts s.n s.m = .pure s'.v ∨ ∃ b, evC 3 it.o.op P call fl s.ts s.n s.m = .load b s'.v ∧ (frs s b || chkL it.o.op it.lo P call fl s.ts b s'.v s.hs.tail) = true)) ∨
       (it.ch = false ∧ ∃ x, s'.x = some x ∧ evC 3 it.o.op P call fl s.ts s.n s.m = .alloc s'.v x ∧ s'.n = s.n + 1 ∧ s'.m = M.set s.m s.n x)) := by
    intro s' h
    unfold goS at h
    split at h
    · rename_i hch
      split at h
      · rename_i v n m hr
        obtain rfl := Option.some.inj h
        exact ⟨rfl, rfl, by simp only [nxS]; rw [hch], .inl ⟨hch, rfl, hr⟩⟩
      · cases h
    · rename_i hch
      split at h
      · rename_i v hr
        obtain rfl := Option.some.inj h
        exact ⟨rfl, rfl, by simp only [nxS]; rw [hch], .inr (.inl ⟨hch, rfl, rfl, rfl, .inl hr⟩)⟩
      · rename_i b v hr
        split at h
        · rename_i hk
          obtain rfl := Option.some.inj h
          exact ⟨rfl, rfl, by simp only [nxS]; rw [hch], .inr (.inl ⟨hch, rfl, rfl, rfl, .inr ⟨b, hr, hk⟩⟩)⟩
        · cases h
      · rename_i v x hr
        obtain rfl := Option.some.inj h
        exact ⟨rfl, rfl, by simp only [nxS]; rw [hch], .inr (.inr ⟨hch, x, rfl, hr, rfl, rfl⟩)⟩
      · cases h
  unfold stD at h
  split at h
  · rename_i hg
    obtain ⟨h1, h2, h3, h4⟩ := go s' h
    exact ⟨h1, h2, h3, .inr ⟨.inl hg, h4⟩⟩
  · rename_i g hg
    split at h
    · rename_i hgd
      obtain ⟨h1, h2, h3, h4⟩ := go s' h
      exact ⟨h1, h2, h3, .inr ⟨.inr ⟨g, hg, hgd⟩, h4⟩⟩
    · rename_i hgd
      obtain rfl := Option.some.inj h
      exact ⟨rfl, rfl, rfl, .inl ⟨g, hg, hgd, rfl, rfl, rfl, rfl⟩⟩
    · cases h
/-! the plan -/
/-- what an operation reads -/
noncomputable def rds (all : List Oper) (o : Oper) : List Tmp :=
  (o.op.operands.toList.filterMap fun x => match x with | .tmp t => some t | _ => none) ++ (match o.guard with | some g => (dstOf all g.1).toList | none => [])
structure Plan (arr : Array Oper) (bef : Nat → Nat → Bool) (its : List It) : Prop where
  op : ∀ (p : Nat) (it : It), its[p]? = some it → arr[it.i]? = some it.o
  all : ∀ i, i < arr.size → ∃ (p : Nat) (it : It), its[p]? = some it ∧ it.i = i
  inj : ∀ (p p' : Nat) (it it' : It), its[p]? = some it → its[p']? = some it' → it.i = it'.i → p = p'
  edge : ∀ (p : Nat) (it : It) (j : Nat), its[p]? = some it → bef it.i j = true → ∃ (p' : Nat) (it' : It), p' < p ∧ its[p']? = some it' ∧ it'.i = j
  chain : ∀ (p : Nat) (it : It), its[p]? = some it → it.ch = true → ∀ (p' : Nat) (it' : It), p' < p → its[p']? = some it' → bef it.i it'.i = true
  dst : ∀ (p p' : Nat) (it it' : It) (d : Tmp), its[p]? = some it → its[p']? = some it' → it.o.dst = some d → it'.o.dst = some d → p = p'
  rd : ∀ (p p' : Nat) (it it' : It) (d : Tmp), its[p]? = some it → its[p']? = some it' → it'.o.dst = some d → d ∈ rds arr.toList it.o → bef it.i it'.i = true ∨ bef it'.i it.i = true ∨ p = p'
  lo : ∀ (p : Nat) (it : It), its[p]? = some it → it.lo = 0 ∨ ∃ (p' : Nat) (it' : It), it.lo = p' + 1 ∧ its[p']? = some it' ∧ it'.ch = true ∧ bef it.i it'.i = true
/-- the run that is reckoned -/
structure Run (P : Program) (call : CallT) (fl : Nat) (arr : Array Oper) (its : List It) (st : Nat → S) (ts0 : T) (n0 : Nat) (m0 : M) : Prop where
  zero : st 0 = { hs := [(0, n0, m0)], p := 0, ts := ts0, n := n0, m := m0, v := .unk, x := none }
  step : ∀ (p : Nat) (it : It), its[p]? = some it → stD arr.toList it P call fl (st p) = some (st (p + 1))
section
variable {P : Program} {call : CallT} {fl : Nat} {arr : Array Oper} {its : List It} {st : Nat → S} {ts0 : T} {n0 : Nat} {m0 : M}
theorem Run.le1 (hc : CallOK P call) (h : Run P call fl arr its st ts0 n0 m0) {p : Nat} {it : It} (hp : its[p]? = some it) : (st p).n ≤ (st (p + 1)).n := by
  obtain ⟨_, _, _, h4⟩ := stD_ok (h.step p it hp)
  rcases h4 with ⟨g, _, _, _, h5, _⟩ | ⟨_, h5 | h5 | h5⟩
  · omega
  · exact (toR_ok (evC_ok hc 3 it.o (st p).ts fl (st p).n (st p).m) h5.2.2).1
  · omega
  · obtain ⟨_, x, _, _, h6, _⟩ := h5; omega
theorem Run.le (hc : CallOK P call) (h : Run P call fl arr its st ts0 n0 m0) : ∀ {p q : Nat}, q ≤ p → p ≤ its.length → (st q).n ≤ (st p).n
  | 0, q, hq, _ => by obtain rfl : q = 0 := by omega
                      exact Nat.le_refl _
  | p + 1, q, hq, hp => by
    rcases Nat.lt_or_ge q (p + 1) with h1 | h1
    · have hlt : p < its.length := by omega
      exact Nat.le_trans (Run.le hc h (by omega : q ≤ p) (by omega)) (h.le1 hc (List.getElem?_eq_getElem hlt))
    · obtain rfl : q = p + 1 := by omega
      exact Nat.le_refl _
theorem Run.pos (h : Run P call fl arr its st ts0 n0 m0) : ∀ {p : Nat}, p ≤ its.length → (st p).p = p
  | 0, _ => by rw [h.zero]
  | p + 1, hp => by
    have hlt : p < its.length := by omega
    obtain ⟨h1, _⟩ := stD_ok (h.step p _ (List.getElem?_eq_getElem hlt))
    rw [h1, Run.pos h (by omega)]
theorem Run.allocs (h : Run P call fl arr its st ts0 n0 m0) {p : Nat} {it : It} {x : Bk} (hp : its[p]? = some it) (hx : (st (p + 1)).x = some x) : (st (p + 1)).n = (st p).n + 1 ∧ it.ch = false := by
  obtain ⟨_, _, _, h4⟩ := stD_ok (h.step p it hp)
  rcases h4 with ⟨g, _, _, _, _, _, h5⟩ | ⟨_, h5 | h5 | h5⟩
  · rw [h5] at hx; cases hx
  · rw [h5.2.1] at hx; cases hx
  · rw [h5.2.1] at hx; cases hx
  · obtain ⟨h6, x', _, _, h7, _⟩ := h5; exact ⟨h7, h6⟩
/-- two allocations have two names -/
theorem Run.two (hc : CallOK P call) (h : Run P call fl arr its st ts0 n0 m0) {p p' : Nat} {it it' : It} {x x' : Bk} (hp : its[p]? = some it) (hp' : its[p']? = some it') (hx : (st (p + 1)).x = some x) (hx' : (st (p' + 1)).x = some x') (e : (st p).n = (st p').n) : p = p' := by
  have l1 : p < its.length := (List.getElem?_eq_some_iff.1 hp).1
  have l2 : p' < its.length := (List.getElem?_eq_some_iff.1 hp').1
  have a1 := (h.allocs hp hx).1
  have a2 := (h.allocs hp' hx').1
  rcases Nat.lt_trichotomy p p' with h1 | h1 | h1
  · have := h.le hc (show p + 1 ≤ p' from h1) (by omega); omega
  · exact h1
  · have := h.le hc (show p' + 1 ≤ p from h1) (by omega); omega
/-- without a link of the chain the memory only grows -/
theorem Run.noch (hc : CallOK P call) (h : Run P call fl arr its st ts0 n0 m0) {q : Nat} : ∀ {p : Nat}, q ≤ p → p ≤ its.length → (∀ (r : Nat) (it : It), q ≤ r → r < p → its[r]? = some it → it.ch = false) → ∀ b,
    M.get (st p).m b = .dead ∨ M.get (st p).m b = M.get (st q).m b ∨ ∃ (r : Nat) (it : It), q ≤ r ∧ r < p ∧ its[r]? = some it ∧ (st (r + 1)).x = some (M.get (st p).m b) ∧ (st r).n = b
  | 0, hq, _, _, b => by obtain rfl : q = 0 := by omega
                         exact .inr (.inl rfl)
  | p + 1, hq, hp, hno, b => by
    rcases Nat.lt_or_ge q (p + 1) with h1 | h1
    · have hlt : p < its.length := by omega
      have hp' := List.getElem?_eq_getElem hlt
      have ih := Run.noch hc h (by omega : q ≤ p) (by omega) (fun r it a1 a2 a3 => hno r it a1 (by omega) a3) b
      obtain ⟨_, _, _, h4⟩ := stD_ok (h.step p _ hp')
      have same : (st (p + 1)).m = (st p).m → (M.get (st (p + 1)).m b = .dead ∨ M.get (st (p + 1)).m b = M.get (st q).m b ∨ ∃ (r : Nat) (it : It), q ≤ r ∧ r < p + 1 ∧ its[r]? = some it ∧ (st (r + 1)).x = some (M.get (st (p + 1)).m b) ∧ (st r).n = b) := by
        intro e
        rw [e]
        rcases ih with h5 | h5 | ⟨r, it, b1, b2, b3⟩
        · exact .inl h5
        · exact .inr (.inl h5)
        · exact .inr (.inr ⟨r, it, b1, by omega, b3⟩)
      rcases h4 with ⟨g, _, _, _, _, h5, _⟩ | ⟨_, h5 | h5 | h5⟩
      · exact same h5
      · have := hno p _ (by omega) (by omega) hp'; rw [h5.1] at this; cases this
      · exact same h5.2.2.2.1
      · obtain ⟨_, x, h6, _, h7, h8⟩ := h5
        by_cases e : b = (st p).n
        · subst e
          rw [h8]
          rcases M.get_self (st p).m (st p).n x with h9 | h9
          · exact .inr (.inr ⟨p, _, by omega, by omega, hp', by rw [h9, h6], rfl⟩)
          · exact .inl h9
        · have e2 : M.get (st (p + 1)).m b = M.get (st p).m b := by rw [h8]; exact M.get_set _ _ _ _ e
          rw [e2]
          rcases ih with h9 | h9 | ⟨r, it, b1, b2, b3⟩
          · exact .inl h9
          · exact .inr (.inl h9)
          · exact .inr (.inr ⟨r, it, b1, by omega, b3⟩)
    · obtain rfl : q = p + 1 := by omega
      exact .inr (.inl rfl)
/-- a temporary on the way -/
theorem Run.tmp (h : Run P call fl arr its st ts0 n0 m0) (t : Tmp) : ∀ {p : Nat}, p ≤ its.length →
    T.get (st p).ts t = .unk ∨ (∃ (r : Nat) (it : It), r < p ∧ its[r]? = some it ∧ it.o.dst = some t ∧ T.get (st p).ts t = (st (r + 1)).v) ∨ ((∀ (r : Nat) (it : It), r < p → its[r]? = some it → it.o.dst ≠ some t) ∧ T.get (st p).ts t = T.get ts0 t)
  | 0, _ => by
    refine .inr (.inr ⟨fun r it hr => absurd hr (by omega), ?_⟩)
    rw [h.zero]
  | p + 1, hp => by
    have hlt : p < its.length := by omega
    have hp' := List.getElem?_eq_getElem hlt
    have ih := Run.tmp h t (p := p) (by omega)
    obtain ⟨_, h2, _⟩ := stD_ok (h.step p _ hp')
    by_cases e : (its[p]'hlt).o.dst = some t
    · have e2 : (st (p + 1)).ts = T.set (st p).ts t (st (p + 1)).v := by rw [h2, e]; rfl
      rcases Tr.get_self V.unk (st p).ts t (st (p + 1)).v with h3 | h3
      · exact .inr (.inl ⟨p, _, by omega, hp', e, by rw [e2]; exact h3⟩)
      · exact .inl (by rw [e2]; exact h3)
    · have e2 : T.get (st (p + 1)).ts t = T.get (st p).ts t := by
        rw [h2]
        cases hd : (its[p]'hlt).o.dst with
        | none => rfl
        | some d =>
          refine Tr.get_set V.unk (st p).ts d t _ fun e3 => e ?_
          rw [hd, e3]
      rw [e2]
      rcases ih with h3 | ⟨r, it, b1, b2⟩ | ⟨h3, h4⟩
      · exact .inl h3
      · exact .inr (.inl ⟨r, it, by omega, b2⟩)
      · refine .inr (.inr ⟨fun r it hr hi => ?_, h4⟩)
        rcases Nat.lt_or_ge r p with h5 | h5
        · exact h3 r it h5 hi
        · obtain rfl : r = p := by omega
          rw [hp'] at hi
          obtain rfl := Option.some.inj hi
          exact e
/-- where a link of the chain has just been done -/
def Bd (its : List It) (q : Nat) : Prop := q = 0 ∨ ∃ (r : Nat) (it : It), q = r + 1 ∧ its[r]? = some it ∧ it.ch = true
theorem Run.hist (h : Run P call fl arr its st ts0 n0 m0) : ∀ {p : Nat}, p ≤ its.length → ∃ ql tl, (st p).hs = (ql, (st ql).n, (st ql).m) :: tl ∧ ql ≤ p ∧ (∀ (r : Nat) (it : It), ql ≤ r → r < p → its[r]? = some it → it.ch = false) ∧
    ∀ q, q ≤ p → Bd its q → q ≠ ql → (q, (st q).n, (st q).m) ∈ tl
  | 0, _ => ⟨0, [], by rw [h.zero], Nat.le_refl _, fun r it _ hr => absurd hr (by omega), fun q hq _ hne => absurd (Nat.le_zero.1 hq) hne⟩
  | p + 1, hp => by
    have hlt : p < its.length := by omega
    have hp' := List.getElem?_eq_getElem hlt
    obtain ⟨ql, tl, i1, i2, i3, i4⟩ := Run.hist h (p := p) (by omega)
    obtain ⟨h1, _, h3, _⟩ := stD_ok (h.step p _ hp')
    cases hch : (its[p]'hlt).ch with
    | true =>
      rw [hch] at h3
      simp only at h3
      rw [h.pos (by omega)] at h3
      refine ⟨p + 1, (ql, (st ql).n, (st ql).m) :: tl, by rw [h3, i1], Nat.le_refl _, fun r it h5 h6 => absurd h6 (by omega), fun q hq hb hne => ?_⟩
      by_cases e : q = ql
      · subst e; exact List.mem_cons_self
      · exact List.mem_cons_of_mem _ (i4 q (by omega) hb e)
    | false =>
      rw [hch] at h3
      simp only at h3
      refine ⟨ql, tl, by rw [h3, i1], by omega, fun r it h5 h6 h7 => ?_, fun q hq hb hne => ?_⟩
      · rcases Nat.lt_or_ge r p with h8 | h8
        · exact i3 r it h5 h8 h7
        · obtain rfl : r = p := by omega
          rw [hp'] at h7
          obtain rfl := Option.some.inj h7
          exact hch
      · refine i4 q ?_ hb hne
        rcases Nat.lt_or_ge q (p + 1) with h8 | h8
        · omega
        · obtain rfl : q = p + 1 := by omega
          rcases hb with h9 | ⟨r, it, h9, h10, h11⟩
          · omega
          · obtain rfl : r = p := by omega
            rw [hp'] at h10
            obtain rfl := Option.some.inj h10
            rw [hch] at h11; cases h11
end
end Go.Proofs.YtpmgggfjmkpleaaGreatDoor.E
