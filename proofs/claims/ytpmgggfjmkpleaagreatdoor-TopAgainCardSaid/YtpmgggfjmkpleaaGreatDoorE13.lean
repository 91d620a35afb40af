/- An exact machine, part 13: any one operation. -/
import Derived.Test.YtpmgggfjmkpleaaGreatDoorE12
namespace Go.Proofs.YtpmgggfjmkpleaaGreatDoor.E
open Go Go.RowKit
set_option linter.unusedVariables false

/-- a call: floor, function, arguments, next name, memory -/
abbrev CallT := Nat → Nat → List V → Nat → M → R
inductive Res where
  | fail
  | pure (v : V)
  | load (b : Nat) (v : V)
  | alloc (v : V) (x : Bk)
  | store (b : Nat) (x : Bk)
  | other (r : R)
def callable (P : Program) (f : Nat) : Bool :=
  match P.funcs[f]? with
  | some fn => fn.body.isSome && fn.name != "runtime.NumGoroutine"
  | none => false
theorem run_callFunc {P : Program} {w : World} {f : Nat} (h : callable P f = true) (args : Array Value) : (callFunc f args).run P w = .ok (.enter f args) w := by
  unfold callable at h
  split at h
  · rename_i fn hfn
    simp only [Bool.and_eq_true, bne_iff_ne, ne_eq] at h
    have hb : fn.body.isNone = false := by cases hb : fn.body <;> simp [hb] at h ⊢
    have hn : (fn.name == "runtime.NumGoroutine") = false := by simpa using h.2
    unfold callFunc program
    simp only [Sem.run_bind]
    simp only [Sem.run, Result.andThen, hfn, hn, hb, Bool.false_eq_true, if_false]
    rfl
  · cases h
/-- what a call does -/
def FnOK (P : Program) (f : Nat) (args : List V) (fl n : Nat) (m : M) (v : V) (n' : Nat) (m' : M) : Prop :=
  ∀ (B : Nat) (w : World) (G : Gh) (vs : List Value), MemR B w G n m → LR G args vs → fl ≤ n ∧ Free G n n' → Calls P f vs.toArray w fun e w' => ∃ x G', e = .returned x ∧ Post B n m w G n' m' w' G' fl ∧ CR G' v x
def CallOK (P : Program) (call : CallT) : Prop := ∀ fl f args n m v n' m', call fl f args n m = .ok v n' m' → n ≤ n' ∧ callable P f = true ∧ FnOK P f args fl n m v n' m'
def RLe (n : Nat) : R → Prop
  | .fail => True
  | .ok _ n' _ => n ≤ n'
section
variable {P : Program} {o : Oper} {ts : T} {v : V} {fl n : Nat} {m : M}
def ResOK (P : Program) (o : Oper) (ts : T) (fl n : Nat) (m : M) : Res → Prop
  | .fail => True
  | .pure v => PureOK P o ts v
  | .load b v => LdOK P o ts b (M.get m b) v
  | .alloc v x => NewOK P o ts n v x
  | .store b x => M.get m b ≠ .dead ∧ StOK P o ts b (M.get m b) x
  | .other .fail => True
  | .other (.ok v n' m') => n ≤ n' ∧ OpOK P o ts fl n m v n' m'
noncomputable def toR (fl n : Nat) (m : M) (r : Res) : R := Res.rec .fail (fun v => .ok v n m) (fun _ v => .ok v n m) (fun v x => .ok v (Nat.succ n) (M.set m n x)) (fun b x => Bool.rec .fail (.ok (.tup []) n (M.set m b x)) (Nat.ble fl b)) (fun r => r) r
theorem toR_ok {r : Res} {n' : Nat} {m' : M} (h : ResOK P o ts fl n m r) (e : toR fl n m r = .ok v n' m') : n ≤ n' ∧ OpOK P o ts fl n m v n' m' := by
  cases r with
  | fail => cases e
  | pure u =>
    have e : R.ok u n m = .ok v n' m' := e
    simp only [R.ok.injEq] at e
    obtain ⟨rfl, rfl, rfl⟩ := e
    exact ⟨Nat.le_refl _, PureOK.op h⟩
  | load b u =>
    have e : R.ok u n m = .ok v n' m' := e
    simp only [R.ok.injEq] at e
    obtain ⟨rfl, rfl, rfl⟩ := e
    exact ⟨Nat.le_refl _, LdOK.op rfl h⟩
  | alloc u x =>
    have e : R.ok u (n + 1) (M.set m n x) = .ok v n' m' := e
    simp only [R.ok.injEq] at e
    obtain ⟨rfl, rfl, rfl⟩ := e
    exact ⟨Nat.le_succ _, NewOK.op h⟩
  | store b x =>
    cases hb : Nat.ble fl b with
    | true =>
      have e : R.ok (.tup []) n (M.set m b x) = .ok v n' m' := by rw [← e]; show _ = Bool.rec (motive := fun _ => R) _ _ (Nat.ble fl b); rw [hb]
      simp only [R.ok.injEq] at e
      obtain ⟨rfl, rfl, rfl⟩ := e
      exact ⟨Nat.le_refl _, StOK.op rfl h.1 (Nat.le_of_ble_eq_true hb) h.2⟩
    | false =>
      have e : R.fail = .ok v n' m' := by rw [← e]; show _ = Bool.rec (motive := fun _ => R) _ _ (Nat.ble fl b); rw [hb]
      cases e
  | other r =>
    cases r with
    | fail => cases e
    | ok u k m2 =>
      have e : R.ok u k m2 = .ok v n' m' := e
      simp only [R.ok.injEq] at e
      obtain ⟨rfl, rfl, rfl⟩ := e
      exact h
noncomputable def pureO (x : Option V) : Res := Option.rec .fail .pure x
theorem pureO_ok {x : Option V} (h : ∀ v, x = some v → PureOK P o ts v) : ResOK P o ts fl n m (pureO x) := by
  cases x with
  | none => trivial
  | some v => exact h v rfl
noncomputable def newO (x : Option (V × Bk)) : Res := Option.rec .fail (fun p => Prod.rec (fun v b => .alloc v b) p) x
theorem newO_ok {x : Option (V × Bk)} (h : ∀ v b, x = some (v, b) → NewOK P o ts n v b) : ResOK P o ts fl n m (newO x) := by
  cases x with
  | none => trivial
  | some p => obtain ⟨v, b⟩ := p; exact h v b rfl
theorem other_ok {r : R} (hn : RLe n r) (h : ∀ v n' m', r = .ok v n' m' → OpOK P o ts fl n m v n' m') : ResOK P o ts fl n m (.other r) := by
  cases r with
  | fail => trivial
  | ok v n' m' => exact ⟨hn, h v n' m' rfl⟩
/-! each operation -/
abbrev Ev := Program → CallT → Nat → T → Nat → M → Res
noncomputable def oMove (x : Operand) : Ev := fun P call fl ts n m => .pure (evo ts x)
noncomputable def oPick (c a b : Operand) : Ev := fun P call fl ts n m => pureO (pPick (evo ts c) (evo ts a) (evo ts b))
noncomputable def oAlloc (t : TypeId) : Ev := fun P call fl ts n m => Option.rec .fail (fun l => .alloc (.ptr n 0) (.cells t l none)) (zc P t)
noncomputable def oBox (t : TypeId) (x : Operand) : Ev := fun P call fl ts n m => Option.rec .fail (fun l => .alloc (.ptr n 0) (.cells t l none)) (flat (evo ts x))
noncomputable def oBuild (t : TypeId) (ps : Array (Nat × Operand)) : Ev := fun P call fl ts n m => pureO (pBuild P t ps.toList ts)
noncomputable def oBuildS (t : TypeId) (k : Nat) (ps : Array (Nat × Operand)) : Ev := fun P call fl ts n m => newO (pBuildS P t k ps.toList ts n)
noncomputable def oLoad (t : TypeId) (p : Operand) : Ev := fun P call fl ts n m =>
  vPtr .fail (evo ts p) fun b off => Bk.casesOn (M.get m b) .fail (fun tt l op => Option.rec .fail (fun v => .load b v) (ldc P t l off)) (fun _ => .fail) (fun _ _ => .fail)
noncomputable def oStore (t : TypeId) (p x : Operand) : Ev := fun P call fl ts n m =>
  vPtr .fail (evo ts p) fun b off => Bk.casesOn (M.get m b) .fail (fun tt l op => Option.rec .fail (fun r => .store b (.cells tt r op)) (stoV P t off l (flat (evo ts x)))) (fun _ => .fail) (fun _ _ => .fail)
noncomputable def oNil (x : Operand) : Ev := fun P call fl ts n m => pureO (pNil (evo ts x))
noncomputable def oBin (op : BinOp) (t : TypeId) (a b : Operand) (_ : TypeId) : Ev := fun P call fl ts n m => pureO (pBin P op t a b (evo ts a) (evo ts b))
noncomputable def oUn (op : UnOp) (_ : TypeId) (a : Operand) : Ev := fun P call fl ts n m => pureO (evUn op (evo ts a))
noncomputable def oFunc (f : Fn) (first caps : Array Operand) : Ev := fun P call fl ts n m => pureO (pFunc f first.toList (evos caps.toList ts))
noncomputable def oMap (t : TypeId) (r : Option Operand) : Ev := fun P call fl ts n m => Option.rec (.alloc (.mp n) (.map [])) (fun _ => .fail) r
noncomputable def oMakeS (t : TypeId) (a b : Operand) : Ev := fun P call fl ts n m => newO (pMakeS P t (evo ts a) (evo ts b) n)
def mxOk (hi mx : Option Operand) : Bool := match mx, hi with | none, _ => true | some _, some _ => true | some _, none => false
theorem mxOk_ok {hi mx : Option Operand} (h : mxOk hi mx = true) : mx = none ∨ hi ≠ none := by
  cases mx with
  | none => exact .inl rfl
  | some _ => cases hi with
    | none => cases h
    | some _ => exact .inr (by simp)
noncomputable def oSlice (t : TypeId) (x : Operand) (lo hi mx : Option Operand) : Ev := fun P call fl ts n m =>
  match oV ts lo, oV ts hi, oV ts mx, mxOk hi mx with
  | some l, some h, some k, true => pureO (pSlice P t (evo ts x) l h k)
  | _, _, _, _ => .fail
noncomputable def oFA (t : TypeId) (x : Operand) (i : Nat) : Ev := fun P call fl ts n m => pureO (pFA P t i (evo ts x))
noncomputable def oF (t : TypeId) (x : Operand) (i : Nat) : Ev := fun P call fl ts n m => pureO (pF P t i (evo ts x))
noncomputable def oIA (t : TypeId) (x y : Operand) : Ev := fun P call fl ts n m => pureO (pIA P t (evo ts x) (evo ts y))
noncomputable def oI (t : TypeId) (x y : Operand) : Ev := fun P call fl ts n m => pureO (pI P t (evo ts x) (evo ts y))
noncomputable def oExt (x : Operand) (i : Nat) : Ev := fun P call fl ts n m => pureO (pExt i (evo ts x))
noncomputable def oTA (x : Operand) (_ t : TypeId) (ok : Bool) : Ev := fun P call fl ts n m => pureO (pTA P t ok (evo ts x) (zv1 P t))
noncomputable def oRange (t : TypeId) (x : Operand) : Ev := fun P call fl ts n m => match P.underlying t, evo ts x with
  | some .string, .str s => .alloc (.ptr n 0) (.iter s 0)
  | _, _ => .fail
noncomputable def oLook (t : TypeId) (x y : Operand) (ok : Bool) : Ev := fun P call fl ts n m => match evo ts x with
  | .nilm => pureO (pLookup P t (evo ts y) ok [])
  | .mp b => Bk.casesOn (M.get m b) .fail (fun _ _ _ => .fail) (fun es => Option.rec .fail (fun v => .load b v) (pLookup P t (evo ts y) ok es)) (fun _ _ => .fail)
  | _ => .fail
noncomputable def oConvR (s d : TypeId) (x : Operand) : Ev := fun P call fl ts n m =>
  match P.underlying s, P.underlying d with
  | some (.slice e), some .string => match P.underlying e, evo ts x with
    | some (.int .u8), .nils => .pure (.str [])
    | some (.int .u8), .sl b o q c op => (match slCells 1 o q (M.get m b) with | some l => Option.rec .fail (fun r => .load b (.str r)) (strL l) | none => .fail)
    | some (.int .i32), .nils => .pure (.str [])
    | some (.int .i32), .sl b o q c op => (match slCells 1 o q (M.get m b) with | some l => Option.rec .fail (fun r => .load b (.str r)) (runL l) | none => .fail)
    | _, _ => .fail
  | some .string, some (.slice e) => .other (oConv P n m s d (evo ts x))
  | _, _ => pureO (pConv P s d (evo ts x))
def lenP (P : Program) (t : TypeId) (x : V) : Option Nat :=
  match P.underlying t, x with
  | some .string, .str s => some s.length
  | some .string, .tx l => some (16 * l.length)
  | some (.slice _), .sl _ _ k _ _ => some k
  | some (.slice _), .nils => some 0
  | some (.slice _), .emp _ => some 0
  | some (.array k _), _ => some k
  | some (.pointer a), _ => (match P.underlying a with | some (.array k _) => some k | _ => none)
  | some (.map _ _), .nilm => some 0
  | _, _ => none
noncomputable def lenR (P : Program) (n : Nat) (m : M) (t : TypeId) (x : V) : Res :=
  match x with
  | .mp b => .other (match lenV P m t (.mp b) with | some k => .ok (.int .i64 k) n m | none => .fail)
  | .sp tag a _ => (match tag, P.underlying t with | 1, some .string => .pure (.sp 2 a 0) | 3, some .string => .pure (.sp 4 0 0) | _, _ => .fail)
  | x => (match lenP P t x with | some k => .pure (.int .i64 k) | none => .fail)
noncomputable def biR (b : Builtin) (args : List Operand) (tys : List TypeId) : Ev := fun P call fl ts n m =>
  match b, args, tys with
  | .len, [x], [t] => lenR P n m t (evo ts x)
  | .append, [x, y], [t, t'] => (match Nat.beq t t' with | true => .other (appendV P fl n m t (evo ts x) (evo ts y)) | false => .fail)
  | .copy, [x, y], [t, _] => .other (oCopy P fl n m t (evo ts x) (evo ts y))
  | .delete, [x, y], [t, _] => .other (oDel P fl n m t (evo ts x) (evo ts y))
  | .min, [x, y], _ => pureO (minV (evo ts x) (evo ts y))
  | .cap, [x], [t] => (match capVV P t (evo ts x) with | some k => .pure (.int .i64 k) | none => .fail)
  | _, _, _ => .fail
noncomputable def caV (call : CallT) (fl n : Nat) (m : M) (xs : List V) (f : V) : Res := match f with
  | .fn g caps => .other (call fl g (xs ++ caps) n m)
  | _ => .fail
noncomputable def oCall (c : Go.Call) : Ev := fun P call fl ts n m =>
  Callee.rec (fun f => caV call fl n m (evos c.args.toList ts) (evo ts f)) (fun _ _ => .fail) (fun b => biR b c.args.toList c.argTypes.toList P call fl ts n m) c.callee
noncomputable def oMapUR (t : TypeId) (x y z : Operand) : Ev := fun P call fl ts n m => .other (oMapU P fl n m t (evo ts x) (evo ts y) (evo ts z))
noncomputable def oNextR (x : Operand) (st : Bool) : Ev := fun P call fl ts n m => .other (oNext fl n m (evo ts x) st)
noncomputable def oFail : Ev := fun P call fl ts n m => .fail
noncomputable def evR (op : Op) : Ev :=
  Op.rec (motive := fun _ => Ev) oMove oMove oPick oAlloc oBox oBuild oBuildS (fun _ _ _ _ => oFail) oLoad oStore (fun _ => oFail) (fun _ => oFail) oNil oBin oUn oConvR (fun _ _ => oFail) (fun _ _ => oFail) oFunc oMap (fun _ _ => oFail) oMakeS oSlice oFA oF oIA oI oLook oMapUR (fun _ _ _ => oFail) (fun _ _ _ _ => oFail) oRange oNextR (fun _ => oFail) oTA oExt oCall (fun _ => oFail) (fun _ => oFail) (fun _ => oFail) (fun _ _ => oFail) (fun _ _ _ => oFail) (fun _ _ => oFail) op
/-! … and what they say -/
theorem load_r {t : TypeId} {p : Operand} {P : Program} {call : CallT} (ho : o.op = .load t p) : ResOK P o ts fl n m (oLoad t p P call fl ts n m) := by
  unfold oLoad
  cases hp : evo ts p with
  | ptr b off =>
    show ResOK P o ts fl n m (Bk.casesOn (motive := fun _ => Res) (M.get m b) _ _ _ _)
    cases hb : M.get m b with
    | cells tt l op =>
      show ResOK P o ts fl n m (Option.rec (motive := fun _ => Res) _ _ (ldc P t l off))
      cases hl : ldc P t l off with
      | none => trivial
      | some v => show LdOK P o ts b (M.get m b) v; rw [hb]; exact load_ok ho hp hl
    | _ => trivial
  | _ => trivial
theorem store_r {t : TypeId} {p x : Operand} {P : Program} {call : CallT} (ho : o.op = .store t p x) : ResOK P o ts fl n m (oStore t p x P call fl ts n m) := by
  unfold oStore
  cases hp : evo ts p with
  | ptr b off =>
    show ResOK P o ts fl n m (Bk.casesOn (motive := fun _ => Res) (M.get m b) _ _ _ _)
    cases hb : M.get m b with
    | cells tt l op =>
      show ResOK P o ts fl n m (Option.rec (motive := fun _ => Res) _ _ (stoV P t off l (flat (evo ts x))))
      cases hl : stoV P t off l (flat (evo ts x)) with
      | none => trivial
      | some v => exact ⟨by rw [hb]; exact fun h => (by cases h), by rw [hb]; exact store_ok ho hp hl⟩
    | _ => trivial
  | _ => trivial
theorem look_r {t : TypeId} {x y : Operand} {ok : Bool} {P : Program} {call : CallT} (ho : o.op = .lookup t x y ok) : ResOK P o ts fl n m (oLook t x y ok P call fl ts n m) := by
  have fin : ∀ (a : Act) (w : World) r, (Instr.lookup t (a.eval x) (a.eval y) ok).run P w = .ok r w → (execOp a.eval o).run P w = .ok (.value r) w := by
    intro a w r hr
    simp only [execOp, ho, Sem.run_bind, hr, Result.andThen_ok]
    rfl
  unfold oLook
  split
  · rename_i e
    refine pureO_ok fun v hv G a w ha => ?_
    rw [ho] at ha
    have hx := ha x (by simp [Op.operands])
    have hy := ha y (by simp [Op.operands])
    rw [e] at hx
    obtain ⟨r, hr, hv⟩ := lookup_run (P := P) (w := w) (um := a.eval x) (ys := []) hv hy rfl (.inl ⟨by generalize a.eval x = u at hx; cases hx; rfl, rfl⟩)
    exact ⟨r, fin a w r hr, hv⟩
  · rename_i b e
    show ResOK P o ts fl n m (Bk.casesOn (motive := fun _ => Res) (M.get m b) _ _ _ _)
    cases hb : M.get m b with
    | map es =>
      show ResOK P o ts fl n m (Option.rec (motive := fun _ => Res) _ _ (pLookup P t (evo ts y) ok es))
      cases hl : pLookup P t (evo ts y) ok es with
      | none => trivial
      | some v =>
        show LdOK P o ts b (M.get m b) v
        rw [hb]
        intro G a w ha
        rw [ho] at ha
        have hx := ha x (by simp [Op.operands])
        have hy := ha y (by simp [Op.operands])
        rw [e] at hx
        refine ⟨by generalize a.eval x = u at hx; cases hx; assumption, fun hbk => ?_⟩
        obtain ⟨ys, clock, h1, h2⟩ := hbk
        obtain ⟨r, hr, hv⟩ := lookup_run (P := P) (w := w) (um := a.eval x) hl hy h2 (.inr ⟨_, clock, by generalize a.eval x = u at hx; cases hx; rfl, h1⟩)
        exact ⟨r, fin a w r hr, hv⟩
    | _ => trivial
  · trivial
theorem conv_r {s d : TypeId} {x : Operand} {P : Program} {call : CallT} (ho : o.op = .convert s d x) : ResOK P o ts fl n m (oConvR s d x P call fl ts n m) := by
  unfold oConvR
  split
  · rename_i e hs hd
    have nil : (∀ w, (convert s d (.slice none 0 0)).run P w = .ok (.string .empty) w) → evo ts x = .nils → PureOK P o ts (.str []) := by
      intro hc ex G a w ha
      rw [ho] at ha
      have hx := ha x (by simp [Op.operands])
      rw [ex] at hx
      have : a.eval x = .slice none 0 0 := by generalize a.eval x = u at hx; cases hx; rfl
      refine ⟨.string .empty, ?_, .str []⟩
      simp only [execOp, ho, Sem.run_bind, this, hc, Sem.run_pure, Result.andThen_ok]
    split
    · rename_i he ex
      refine nil (fun w => ?_) ex
      simp only [convert, Sem.run_bind, run_underlying hs, run_underlying hd, run_underlying he, Result.andThen_ok, Conv.bytesToString, Sem.run_pure]
    · rename_i b o' q c op he ex
      split
      · rename_i l hl
        cases hr : strL l with
        | none => trivial
        | some r =>
          show LdOK P o ts b (M.get m b) (.str r)
          intro G a w ha
          rw [ho] at ha
          have hx := ha x (by simp [Op.operands])
          rw [ex] at hx
          obtain ⟨es, hal, _⟩ := i_sl hx
          refine ⟨hal, fun hbk => ?_⟩
          obtain ⟨_, us, h2, h3, _, h5⟩ := slCells_ok (P := P) hl hbk
          obtain ⟨ns, rfl, rfl⟩ := strL_ok hr h2.lr
          refine ⟨_, ?_, .str _⟩
          rw [Nat.mul_one] at h5
          have := run_bytesToString (P := P) w _ q (capV G b c op) ns h5
          rw [foldl_push] at this
          simp only [execOp, ho, convert, Sem.run_bind, run_underlying hs, run_underlying hd, run_underlying he, Result.andThen_ok, es, this, Sem.run_pure]
          simp
      · trivial
    · rename_i he ex
      refine nil (fun w => ?_) ex
      simp only [convert, Sem.run_bind, run_underlying hs, run_underlying hd, run_underlying he, Result.andThen_ok, Conv.runesToString, Sem.run_pure]
    · rename_i b o' q c op he ex
      split
      · rename_i l hl
        cases hr : runL l with
        | none => trivial
        | some r =>
          show LdOK P o ts b (M.get m b) (.str r)
          intro G a w ha
          rw [ho] at ha
          have hx := ha x (by simp [Op.operands])
          rw [ex] at hx
          obtain ⟨es, hal, _⟩ := i_sl hx
          refine ⟨hal, fun hbk => ?_⟩
          obtain ⟨_, us, h2, h3, _, h5⟩ := slCells_ok (P := P) hl hbk
          obtain ⟨ns, rfl, hasc, rfl⟩ := runL_ok hr h2.lr
          refine ⟨_, ?_, .str _⟩
          rw [Nat.mul_one] at h5
          have := run_runesToString (P := P) w _ q (capV G b c op) ns h5
          unfold runesBytes at this
          rw [foldl_enc _ _ hasc] at this
          simp only [execOp, ho, convert, Sem.run_bind, run_underlying hs, run_underlying hd, run_underlying he, Result.andThen_ok, es, this, Sem.run_pure]
          simp
      · trivial
    · trivial
  · rename_i e hs hd
    refine other_ok ?_ fun v n' m' h => oconv_ok ho h
    unfold oConv
    rw [hs, hd]
    simp only
    split
    · split <;> simp [RLe]
    · trivial
  · exact pureO_ok fun v hv => conv_ok ho hv
theorem lenP_run {w : World} {G : Gh} {t ty : TypeId} {x : V} {u : Value} {k : Nat} (h : lenP P t x = some k) (hx : CR G x u) : (Builtin.len_ #[t] ty #[u]).run P w = .ok (.int .i64 k) w := by
  unfold lenP at h
  split at h
  · rename_i s hu
    obtain rfl := Option.some.inj h
    rw [i_str hx]
    unfold Builtin.len_
    have hs : (⟨s.toArray⟩ : ByteArray).size = s.length := by simp [ByteArray.size]
    simp only [List.getElem?_toArray, List.getElem?_cons_zero, Sem.run_bind, run_underlying hu, Result.andThen_ok, goInt, hs, Sem.run_pure]
  · rename_i l hu
    obtain rfl := Option.some.inj h
    obtain ⟨e, h16⟩ := i_tx hx
    rw [e]
    unfold Builtin.len_
    have hs : (⟨(l.flatMap G.env).toArray⟩ : ByteArray).size = 16 * l.length := by rw [← tx_len h16]; simp [ByteArray.size]
    simp only [List.getElem?_toArray, List.getElem?_cons_zero, Sem.run_bind, run_underlying hu, Result.andThen_ok, goInt, hs, Sem.run_pure]
  · rename_i hu
    obtain rfl := Option.some.inj h
    obtain ⟨e, _⟩ := i_sl hx
    rw [e]
    unfold Builtin.len_
    simp [run_underlying hu, goInt]
  · rename_i hu
    obtain rfl := Option.some.inj h
    cases hx
    unfold Builtin.len_
    simp [run_underlying hu, goInt]
  · rename_i hu
    obtain rfl := Option.some.inj h
    cases hx
    unfold Builtin.len_
    simp [run_underlying hu, goInt]
  · rename_i hu
    obtain rfl := Option.some.inj h
    unfold Builtin.len_
    simp [run_underlying hu, goInt]
  · rename_i a hu
    split at h
    · rename_i ha
      obtain rfl := Option.some.inj h
      unfold Builtin.len_
      simp [run_underlying hu, run_underlying ha, goInt]
    · cases h
  · rename_i hu
    obtain rfl := Option.some.inj h
    cases hx
    unfold Builtin.len_
    simp [run_underlying hu, goInt]
  · cases h
theorem len_r {t : TypeId} {x : Operand} (ho : o.op = bCall .len #[x] #[t]) : ResOK P o ts fl n m (lenR P n m t (evo ts x)) := by
  unfold lenR
  split
  · rename_i b e
    refine other_ok ?_ fun v n' m' h => ?_
    · split <;> simp [RLe]
    · split at h
      · rename_i k hk
        simp only [R.ok.injEq] at h
        obtain ⟨rfl, rfl, rfl⟩ := h
        exact bi_len ho (by rw [e]; exact hk)
      · cases h
  · rename_i tag q q2 ex
    split
    · rename_i hu
      intro G a w ha
      rw [ho] at ha
      have hx0 := ha x (by simp [bCall, Op.operands, Call.operands])
      rw [ex] at hx0
      have hx := i_sp hx0
      obtain ⟨s, e, h1, h2, h3⟩ := hx
      refine ⟨.int .i64 s.size, ?_, .sp 2 _ _ _ ⟨_, rfl, by omega, h1, h2, h3⟩⟩
      have hr : (Builtin.len_ #[t] o.type #[a.eval x]).run P w = .ok (.int .i64 s.size) w := by
        rw [e]
        unfold Builtin.len_
        simp only [List.getElem?_toArray, List.getElem?_cons_zero, Sem.run_bind, run_underlying hu, Result.andThen_ok, goInt, Sem.run_pure]
      simp only [execOp, ho, bCall, resolve, Sem.run_bind, Sem.run_pure, Result.andThen_ok, invoke, builtin, List.map_toArray, List.map_cons, List.map_nil, hr]
    · rename_i hu
      intro G a w ha
      rw [ho] at ha
      have hx0 := ha x (by simp [bCall, Op.operands, Call.operands])
      rw [ex] at hx0
      have hx := i_sp hx0
      obtain ⟨s, e, h1⟩ := hx
      refine ⟨.int .i64 s.size, ?_, .sp 4 _ _ _ ⟨_, rfl, by omega, h1⟩⟩
      have hr : (Builtin.len_ #[t] o.type #[a.eval x]).run P w = .ok (.int .i64 s.size) w := by
        rw [e]
        unfold Builtin.len_
        simp only [List.getElem?_toArray, List.getElem?_cons_zero, Sem.run_bind, run_underlying hu, Result.andThen_ok, goInt, Sem.run_pure]
      simp only [execOp, ho, bCall, resolve, Sem.run_bind, Sem.run_pure, Result.andThen_ok, invoke, builtin, List.map_toArray, List.map_cons, List.map_nil, hr]
    · trivial
  · split
    · rename_i k hk
      intro G a w ha
      rw [ho] at ha
      have hx := ha x (by simp [bCall, Op.operands, Call.operands])
      refine ⟨.int .i64 k, ?_, .int _ _⟩
      have hr := lenP_run (w := w) (ty := o.type) hk hx
      simp only [execOp, ho, bCall, resolve, Sem.run_bind, Sem.run_pure, Result.andThen_ok, invoke, builtin, List.map_toArray, List.map_cons, List.map_nil, hr]
    · trivial
theorem app_le {t : TypeId} {s x : V} : RLe n (appendV P fl n m t s x) := by
  unfold appendV
  repeat' split
  all_goals simp [RLe]
theorem copy_le {t : TypeId} {s x : V} : RLe n (oCopy P fl n m t s x) := by
  unfold oCopy
  repeat' split
  all_goals simp [RLe]
theorem del_le {t : TypeId} {s x : V} : RLe n (oDel P fl n m t s x) := by
  unfold oDel
  repeat' split
  all_goals simp [RLe]
theorem mapU_le {t : TypeId} {s x y : V} : RLe n (oMapU P fl n m t s x y) := by
  unfold oMapU
  repeat' split
  all_goals simp [RLe]
theorem next_le {x : V} {st : Bool} : RLe n (oNext fl n m x st) := by
  unfold oNext
  repeat' split
  all_goals simp [RLe]
theorem arr1 {α : Type} {a : Array α} {x : α} (h : a.toList = [x]) : a = #[x] := Array.toList_inj.1 (by simpa using h)
theorem arr2 {α : Type} {a : Array α} {x y : α} (h : a.toList = [x, y]) : a = #[x, y] := Array.toList_inj.1 (by simpa using h)
theorem bi_r {b : Builtin} {args : Array Operand} {tys : Array TypeId} {call : CallT} (ho : o.op = bCall b args tys) : ResOK P o ts fl n m (biR b args.toList tys.toList P call fl ts n m) := by
  unfold biR
  split
  · rename_i x t h1 h2
    obtain rfl := arr1 h1
    obtain rfl := arr1 h2
    exact len_r ho
  · rename_i x y t t' h1 h2
    obtain rfl := arr2 h1
    obtain rfl := arr2 h2
    split
    · rename_i ht
      obtain rfl := Nat.eq_of_beq_eq_true ht
      exact other_ok app_le fun v n' m' h => bi_app ho h
    · trivial
  · rename_i x y t t' h1 h2
    obtain rfl := arr2 h1
    obtain rfl := arr2 h2
    exact other_ok copy_le fun v n' m' h => bi_copy ho h
  · rename_i x y t t' h1 h2
    obtain rfl := arr2 h1
    obtain rfl := arr2 h2
    exact other_ok del_le fun v n' m' h => bi_del ho h
  · rename_i x y h1
    obtain rfl := arr2 h1
    exact pureO_ok fun v hv => bi_min ho hv
  · rename_i x t h1 h2
    obtain rfl := arr1 h1
    obtain rfl := arr1 h2
    split
    · rename_i k hk
      exact bi_cap ho hk
    · trivial
  · trivial
theorem call_ok {f : Operand} {args : Array Operand} {tys : Array TypeId} {g : Nat} {caps : List V} {call : CallT} {n' : Nat} {m' : M} (hc : CallOK P call) (ho : o.op = .call { callee := .value f, args := args, argTypes := tys }) (hf : evo ts f = .fn g caps) (h : call fl g (evos args.toList ts ++ caps) n m = .ok v n' m') :
    OpOK P o ts fl n m v n' m' := by
  obtain ⟨_, hcall, hfn⟩ := hc _ _ _ _ _ _ _ _ h
  intro B w G a hm ha hfl next Q hn
  rw [ho] at ha
  have hx := ha f (by simp [Op.operands, Call.operands])
  have hl := orels (G := G) (a := a) args.toList fun x hx => ha x (by simp [Op.operands, Call.operands]; simp at hx; exact .inr hx)
  rw [hf] at hx
  obtain ⟨cs, ef, hcs⟩ : ∃ cs : List Value, a.eval f = .func (.func g) #[] cs.toArray ∧ LR G caps cs := by
    generalize a.eval f = u at hx
    cases hx with
    | fn _ _ cs h1 h2 => exact ⟨cs, rfl, h1, h2⟩
  have hrun : (execOp a.eval o).run P w = .ok (.enter g (args.toList.map a.eval ++ cs).toArray) w := by
    have e2 : (#[] ++ args.map a.eval ++ cs.toArray : Array Value) = (args.toList.map a.eval ++ cs).toArray := by
      apply Array.ext'; simp
    simp only [execOp, ho, resolve, ef, Deferred.ofValue, Sem.run_bind, Sem.run_pure, Result.andThen_ok, invoke]
    rw [run_callFunc hcall, e2]
  unfold Oper.wp
  rw [hrun]
  refine Calls.mono (hfn B w G _ hm (hl.append hcs) hfl) fun e w' hq => ?_
  obtain ⟨x, G', rfl, h1, h2⟩ := hq
  exact hn x w' G' h1 h2
theorem call_r {c : Go.Call} {call : CallT} (hc : CallOK P call) (ho : o.op = .call c) : ResOK P o ts fl n m (oCall c P call fl ts n m) := by
  obtain ⟨callee, args, tys⟩ := c
  cases callee with
  | value f =>
    show ResOK P o ts fl n m (caV call fl n m (evos args.toList ts) (evo ts f))
    unfold caV
    split
    · rename_i g caps e
      refine other_ok ?_ fun v n' m' h => call_ok hc ho e h
      cases h : call fl g (evos args.toList ts ++ caps) n m with
      | fail => trivial
      | ok v n' m' => exact (hc _ _ _ _ _ _ _ _ h).1
    · trivial
  | invoke _ _ => trivial
  | builtin b => exact bi_r (call := call) ho
theorem evR_ok {P : Program} {call : CallT} (hc : CallOK P call) (o : Oper) (ts : T) (fl n : Nat) (m : M) : ResOK P o ts fl n m (evR o.op P call fl ts n m) := by
  cases hop : o.op with
  | move x => exact move_ok (.inl hop)
  | assign x => exact move_ok (.inr hop)
  | pick c x y => exact pureO_ok fun v hv => pick_ok hop hv
  | alloc t =>
    show ResOK P o ts fl n m (Option.rec (motive := fun _ => Res) _ _ (zc P t))
    cases h : zc P t with
    | none => trivial
    | some l => exact alloc_ok n hop h
  | box t x =>
    show ResOK P o ts fl n m (Option.rec (motive := fun _ => Res) _ _ (flat (evo ts x)))
    cases h : flat (evo ts x) with
    | none => trivial
    | some l => exact box_ok n hop h
  | build t ps => exact pureO_ok fun v hv => build_ok hop hv
  | buildSlice t k ps => exact newO_ok fun v b hv => bs_ok hop hv
  | load t p => exact load_r (call := call) hop
  | store t p x => exact store_r (call := call) hop
  | nilCheck x => exact pureO_ok fun v hv => nil_ok hop hv
  | binOp op t x y t' => exact pureO_ok fun v hv => bin_ok hop hv
  | unOp op t x => exact pureO_ok fun v hv => un_ok hop hv
  | convert s d x => exact conv_r (call := call) hop
  | makeFunc f first caps => exact pureO_ok fun v hv => func_ok hop hv
  | makeMap t r => cases r with
    | none => exact mm_ok hop
    | some _ => trivial
  | makeSlice t x y => exact newO_ok fun v b hv => ms_ok hop hv
  | slice t x lo hi mx =>
    show ResOK P o ts fl n m (oSlice t x lo hi mx P call fl ts n m)
    unfold oSlice
    split
    · rename_i l h k h1 h2 h3 h4
      exact pureO_ok fun v hv => slice_ok hop h1 h2 h3 (mxOk_ok h4) hv
    · trivial
  | fieldAddr t x i => exact pureO_ok fun v hv => fa_ok hop hv
  | field t x i => exact pureO_ok fun v hv => f_ok hop hv
  | indexAddr t x y => exact pureO_ok fun v hv => ia_ok hop hv
  | index t x y => exact pureO_ok fun v hv => ix_ok hop hv
  | lookup t x y ok => exact look_r (call := call) hop
  | mapUpdate t x y z => exact other_ok mapU_le fun v n' m' h => mapU_ok hop h
  | range t x =>
    show ResOK P o ts fl n m (oRange t x P call fl ts n m)
    unfold oRange
    split
    · rename_i s hu e
      exact rg_ok hop e hu
    · trivial
  | next x st => exact other_ok next_le fun v n' m' h => next_ok hop h
  | typeAssert x t' t ok => exact pureO_ok fun v hv => ta_ok hop hv
  | extract x i => exact pureO_ok fun v hv => ext_ok hop hv
  | call c => exact call_r hc hop
  | _ => trivial
end
end Go.Proofs.YtpmgggfjmkpleaaGreatDoor.E
