/- An exact machine, part 13c: an operation whose operands hang on a dimension: case by case. -/
import Derived.Test.YtpmgggfjmkpleaaGreatDoorE13b
namespace Go.Proofs.YtpmgggfjmkpleaaGreatDoor.E
open Go Go.RowKit
set_option linter.unusedVariables false

/-- the first dimension of a value -/
noncomputable def fst1 {α β : Type} (g : α → Option β) : List α → Option β
  | [] => none
  | a :: l => (match g a with | some b => some b | none => fst1 g l)
noncomputable def dmV : Nat → V → Option Nat
  | 0, _ => none
  | _ + 1, .vec d _ => some d
  | f + 1, .agg l => fst1 (dmV f) l
  | f + 1, .tup l => fst1 (dmV f) l
  | _ + 1, _ => none
noncomputable def blkOf : V → Option Nat
  | .ptr b _ => some b
  | .sl b _ _ _ _ => some b
  | .mp b => some b
  | _ => none
noncomputable def dmB : Bk → Option Nat
  | .cells _ l _ => fst1 (dmV 4) l
  | .map es => fst1 (fun p => dmV 4 p.1) es
  | _ => none
noncomputable def dmM (m : M) (v : V) : Option Nat := match blkOf v with | some b => dmB (M.get m b) | none => none
noncomputable def dimO (op : Op) (ts : T) (m : M) : Option Nat := match fst1 (fun x => dmV 4 (evo ts x)) op.operands.toList with
  | some d => some d
  | none => fst1 (fun x => dmM m (evo ts x)) op.operands.toList
noncomputable def prjT (d i : Nat) : List Operand → T → T
  | [], ts => ts
  | .tmp t :: l, ts => prjT d i l (T.set ts t (prj 5 d i (T.get ts t)))
  | _ :: l, ts => prjT d i l ts
noncomputable def prjM (d i : Nat) (ts : T) : List Operand → M → M
  | [], m => m
  | x :: l, m => prjM d i ts l (match blkOf (evo ts x) with | some b => M.set m b (prjB d i (M.get m b)) | none => m)
/-- what was known of a temporary is known still, in the case that is -/
def TRef (G : Gh) (ts ts' : T) : Prop := ∀ t x, CR G (T.get ts t) x → CR G (T.get ts' t) x
theorem prjT_ok {G : Gh} {d : Nat} : ∀ (l : List Operand) (ts : T), TRef G ts (prjT d (G.θ d) l ts)
  | [], ts => fun t x h => h
  | y :: l, ts => by
    cases y with
    | tmp t =>
      refine fun j x h => prjT_ok l (T.set ts t (prj 5 d (G.θ d) (T.get ts t))) j x ?_
      by_cases e : j = t
      · subst e
        show CR G (Tr.get V.unk (Tr.set ts j _) j) x
        rcases Tr.get_self V.unk ts j (prj 5 d (G.θ d) (T.get ts j)) with h' | h' <;> rw [h']
        · exact prj_ok 5 _ _ h
        · exact .unk _
      · show CR G (Tr.get V.unk (Tr.set ts t _) j) x
        rw [Tr.get_set V.unk ts t j _ e]
        exact h
    | _ => exact prjT_ok l ts
theorem TRef.orel {G : Gh} {ts ts' : T} {op : Op} {a : Act} (h : TRef G ts ts') (ho : ORel G op ts a) : ORel G op ts' a := by
  intro x hx
  have := ho x hx
  cases x with
  | tmp t => exact h t _ this
  | const v => exact this
  | func f => exact this
  | global g => exact this
def MRef (w : World) (G : Gh) (m m' : M) : Prop := ∀ b, BkR w G b (M.get m b) → BkR w G b (M.get m' b)
theorem prjM_ok {w : World} {G : Gh} {d : Nat} {ts : T} : ∀ (l : List Operand) (m : M), MRef w G m (prjM d (G.θ d) ts l m)
  | [], m => fun b h => h
  | y :: l, m => by
    refine fun b h => prjM_ok l _ b ?_
    cases hb : blkOf (evo ts y) with
    | none => exact h
    | some c =>
      exact get_set_cases (C := BkR w G b) b (fun e => by subst e; exact prjB_ok h) (fun _ => trivial) (fun _ => h)
/-! results together -/
def pures : List Res → Option (List V)
  | [] => some []
  | .pure v :: l => (match pures l with | some vs => some (v :: vs) | none => none)
  | _ => none
theorem pures_ok : ∀ {rs : List Res} {vs : List V}, pures rs = some vs → rs = vs.map Res.pure
  | [], vs, h => by obtain rfl := Option.some.inj h; rfl
  | r :: l, vs, h => by
    cases r with
    | pure v =>
      simp only [pures] at h
      split at h
      · rename_i vs' h1
        obtain rfl := Option.some.inj h
        rw [pures_ok h1]; rfl
      · cases h
    | _ => cases h
def loads (b : Nat) : List Res → Option (List V)
  | [] => some []
  | .load b' v :: l => (match Nat.beq b b' with | true => (match loads b l with | some vs => some (v :: vs) | none => none) | false => none)
  | _ => none
theorem loads_ok {b : Nat} : ∀ {rs : List Res} {vs : List V}, loads b rs = some vs → rs = vs.map (Res.load b)
  | [], vs, h => by obtain rfl := Option.some.inj h; rfl
  | r :: l, vs, h => by
    cases r with
    | load b' v =>
      simp only [loads] at h
      split at h
      · rename_i h0
        obtain rfl := Nat.eq_of_beq_eq_true h0
        split at h
        · rename_i vs' h1
          obtain rfl := Option.some.inj h
          rw [loads_ok h1]; rfl
        · cases h
      · cases h
    | _ => cases h
def stores (b : Nat) : List Res → Option (List Bk)
  | [] => some []
  | .store b' x :: l => (match Nat.beq b b' with | true => (match stores b l with | some vs => some (x :: vs) | none => none) | false => none)
  | _ => none
theorem stores_ok {b : Nat} : ∀ {rs : List Res} {vs : List Bk}, stores b rs = some vs → rs = vs.map (Res.store b)
  | [], vs, h => by obtain rfl := Option.some.inj h; rfl
  | r :: l, vs, h => by
    cases r with
    | store b' v =>
      simp only [stores] at h
      split at h
      · rename_i h0
        obtain rfl := Nat.eq_of_beq_eq_true h0
        split at h
        · rename_i vs' h1
          obtain rfl := Option.some.inj h
          rw [stores_ok h1]; rfl
        · cases h
      · cases h
    | _ => cases h
def allocs : List Res → Option (List (V × Bk))
  | [] => some []
  | .alloc v x :: l => (match allocs l with | some vs => some ((v, x) :: vs) | none => none)
  | _ => none
theorem allocs_ok : ∀ {rs : List Res} {vs : List (V × Bk)}, allocs rs = some vs → rs = vs.map fun p => Res.alloc p.1 p.2
  | [], vs, h => by obtain rfl := Option.some.inj h; rfl
  | r :: l, vs, h => by
    cases r with
    | alloc v x =>
      simp only [allocs] at h
      split at h
      · rename_i vs' h1
        obtain rfl := Option.some.inj h
        rw [allocs_ok h1]; rfl
      · cases h
    | _ => cases h
noncomputable def mrgR (d : Nat) (rs : List Res) : Res := match rs with
  | .pure _ :: _ => (match pures rs with | some vs => .pure (mrg 5 d vs) | none => .fail)
  | .load b _ :: _ => (match loads b rs with | some vs => .load b (mrg 5 d vs) | none => .fail)
  | .store b _ :: _ => (match stores b rs with | some xs => (match mrgB d xs with | some x => .store b x | none => .fail) | none => .fail)
  | .alloc _ _ :: _ => (match allocs rs with | some ps => (match mrgB d (ps.map fun p => p.2) with | some x => .alloc (mrg 5 d (ps.map fun p => p.1)) x | none => .fail) | none => .fail)
  | _ => .fail
noncomputable def evC : Nat → Op → Ev
  | 0, op => evR op
  | f + 1, op => fun P call fl ts n m => match evR op P call fl ts n m with
    | .fail => (match dimO op ts m with
      | some d => mrgR d ((List.range (dimN d)).map fun i => evC f op P call fl (prjT d i op.operands.toList ts) n (prjM d i (prjT d i op.operands.toList ts) op.operands.toList m))
      | none => .fail)
    | r => r
section
variable {P : Program} {o : Oper} {ts : T} {fl n : Nat} {m : M}
theorem getD_map {α β : Type} (g : α → β) {l : List α} {i : Nat} {a : α} (h : l[i]? = some a) : (l.map g)[i]? = some (g a) := by rw [List.getElem?_map, h]; rfl
theorem mrgR_ok {d : Nat} {rs : List Res} {ts' : Nat → T} {m' : Nat → M} (hl : rs.length = dimN d)
    (ht : ∀ (G : Gh), TRef G ts (ts' (G.θ d))) (hm : ∀ (w : World) (G : Gh), MRef w G m (m' (G.θ d))) (hlv : ∀ i b, M.get (m' i) b ≠ .dead → M.get m b ≠ .dead)
    (h : ∀ i r, rs[i]? = some r → ResOK P o (ts' i) fl n (m' i) r) : ResOK P o ts fl n m (mrgR d rs) := by
  have at_ : ∀ {α : Type} (l : List α), l.length = dimN d → ∀ G : Gh, ∃ a, l[G.θ d]? = some a := fun l e G => ⟨_, List.getElem?_eq_getElem (by rw [e]; exact G.θlt d)⟩
  have pos : 0 < dimN d := by unfold dimN; split <;> omega
  unfold mrgR
  split
  · split
    · rename_i vs hv
      have e := pures_ok hv
      have hlv' : vs.length = dimN d := by rw [← hl, e, List.length_map]
      intro G a w ho
      obtain ⟨v, hv1⟩ := at_ vs hlv' G
      have hr := h (G.θ d) (.pure v) (by rw [e]; exact getD_map _ hv1)
      obtain ⟨x, h1, h2⟩ := hr G a w ((ht G).orel ho)
      exact ⟨x, h1, mrg_ok 5 vs x hlv' (by rw [List.getD_eq_getElem?_getD, hv1]; exact h2)⟩
    · trivial
  · rename_i b _ _
    split
    · rename_i vs hv
      have e := loads_ok hv
      have hlv' : vs.length = dimN d := by rw [← hl, e, List.length_map]
      intro G a w ho
      obtain ⟨v, hv1⟩ := at_ vs hlv' G
      have hr := h (G.θ d) (.load b v) (by rw [e]; exact getD_map _ hv1)
      obtain ⟨hal, h1⟩ := hr G a w ((ht G).orel ho)
      refine ⟨hal, fun hb => ?_⟩
      obtain ⟨x, h2, h3⟩ := h1 (hm w G b hb)
      exact ⟨x, h2, mrg_ok 5 vs x hlv' (by rw [List.getD_eq_getElem?_getD, hv1]; exact h3)⟩
    · trivial
  · rename_i b _ _
    split
    · rename_i xs hv
      have e := stores_ok hv
      have hlv' : xs.length = dimN d := by rw [← hl, e, List.length_map]
      split
      · rename_i x hx
        refine ⟨?_, ?_⟩
        · have h0 : ∃ y, xs[0]? = some y := ⟨_, List.getElem?_eq_getElem (by omega)⟩
          obtain ⟨y, hy⟩ := h0
          exact hlv 0 b (h 0 (.store b y) (by rw [e]; exact getD_map _ hy)).1
        · intro G a w ho hb
          obtain ⟨y, hy⟩ := at_ xs hlv' G
          obtain ⟨w', h1, h2, h3, h4, h5⟩ := (h (G.θ d) (.store b y) (by rw [e]; exact getD_map _ hy)).2 G a w ((ht G).orel ho) (hm w G b hb)
          exact ⟨w', h1, h2, h3, h4, mrgB_ok hlv' hx fun z hz => by rw [hy] at hz; cases hz; exact h5⟩
      · trivial
    · trivial
  · split
    · rename_i ps hv
      have e := allocs_ok hv
      have hlv' : ps.length = dimN d := by rw [← hl, e, List.length_map]
      split
      · rename_i x hx
        intro G a w ho
        obtain ⟨p, hp⟩ := at_ ps hlv' G
        obtain ⟨y, ob, h1, h2⟩ := h (G.θ d) (.alloc p.1 p.2) (by rw [e]; exact getD_map _ hp) G a w ((ht G).orel ho)
        refine ⟨y, ob, h1, fun G' he hal hr => ?_⟩
        obtain ⟨h3, h4⟩ := h2 G' he hal hr
        have eθ : G'.θ d = G.θ d := by rw [he.θ]
        refine ⟨mrgB_ok (bs := ps.map fun p => p.2) (by rw [List.length_map]; exact hlv') hx fun z hz => ?_, mrg_ok 5 _ y (by rw [List.length_map]; exact hlv') ?_⟩
        · rw [eθ, getD_map (fun p : V × Bk => p.2) hp] at hz
          cases hz
          exact h3
        · rw [eθ, List.getD_eq_getElem?_getD, getD_map (fun p : V × Bk => p.1) hp]
          exact h4
      · trivial
    · trivial
  · trivial
theorem prjM_live {d i : Nat} {ts : T} : ∀ (l : List Operand) (m : M) (b : Nat), M.get (prjM d i ts l m) b ≠ .dead → M.get m b ≠ .dead
  | [], m, b, h => h
  | y :: l, m, b, h => by
    have := prjM_live l _ b h
    cases hb : blkOf (evo ts y) with
    | none => rw [hb] at this; exact this
    | some c =>
      rw [hb] at this
      intro hd
      apply this
      refine get_set_cases (C := fun x => x = .dead) b (fun e => ?_) (fun _ => rfl) (fun _ => hd)
      subst e
      rw [hd]; rfl
theorem evC_ok {call : CallT} (hc : CallOK P call) : ∀ (f : Nat) (o : Oper) (ts : T) (fl n : Nat) (m : M), ResOK P o ts fl n m (evC f o.op P call fl ts n m)
  | 0, o, ts, fl, n, m => evR_ok hc o ts fl n m
  | f + 1, o, ts, fl, n, m => by
    have h0 := evR_ok hc o ts fl n m
    show ResOK P o ts fl n m (match evR o.op P call fl ts n m with
      | .fail => (match dimO o.op ts m with
        | some d => mrgR d ((List.range (dimN d)).map fun i => evC f o.op P call fl (prjT d i o.op.operands.toList ts) n (prjM d i (prjT d i o.op.operands.toList ts) o.op.operands.toList m))
        | none => .fail)
      | r => r)
    cases hr : evR o.op P call fl ts n m with
    | fail =>
      show ResOK P o ts fl n m (match dimO o.op ts m with
        | some d => mrgR d ((List.range (dimN d)).map fun i => evC f o.op P call fl (prjT d i o.op.operands.toList ts) n (prjM d i (prjT d i o.op.operands.toList ts) o.op.operands.toList m))
        | none => .fail)
      cases hd : dimO o.op ts m with
      | none => trivial
      | some d =>
        refine mrgR_ok (ts' := fun i => prjT d i o.op.operands.toList ts) (m' := fun i => prjM d i (prjT d i o.op.operands.toList ts) o.op.operands.toList m) (by simp) (fun G => prjT_ok _ ts) (fun w G => prjM_ok _ m) (fun i b => prjM_live _ m b) fun i r hi => ?_
        rw [List.getElem?_map] at hi
        cases he : (List.range (dimN d))[i]? with
        | none => rw [he] at hi; cases hi
        | some j =>
          rw [he] at hi
          have : j = i := by
            have hlt := (List.getElem?_eq_some_iff.1 he).1
            rw [List.length_range] at hlt
            rw [List.getElem?_range hlt] at he
            exact (Option.some.inj he).symm
          subst this
          obtain rfl := Option.some.inj hi
          exact evC_ok hc f o _ fl n _
    | _ => rw [hr] at h0; exact h0
end
end Go.Proofs.YtpmgggfjmkpleaaGreatDoor.E
