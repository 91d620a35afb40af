import Derived.Test.YtbpjinefbnlenaaGreatDoorE14
import Derived.Orders
import Derived.Lib.Join
import Derived.Lib.Repeat
/- An exact machine, part 15: functions. -/
namespace Go.Proofs.YtbpjinefbnlenaaGreatDoor.E
open Go Go.RowKit
set_option linter.unusedVariables false

section
variable {P : Program} {nt : Nat}
noncomputable def cRegD (dr : Array Oper → K) (arr : Array Oper) (draw : Bool) : K := Bool.rec (cReg arr) (dr arr) draw
noncomputable def exec (dr : Array Oper → K) (c : Code) : K :=
  Code.rec cSkip (fun _ arr draw => cRegD dr arr draw) (fun _ _ a b => cSeq a b) (fun c _ _ a b => cCond c a b) (fun i _ a => cBlk i a) (fun _ a => cLoop a) (fun _ _ _ _ _ _ => cFail) cExit (fun _ a => a) (fun _ => cSkip) (fun _ => cFail) cRet (fun _ => cFail) c
noncomputable def dOk (nt : Nat) (c : Code) : Bool :=
  Code.rec true (fun _ arr _ => dOks nt arr.toList) (fun _ _ a b => Bool.rec false b a) (fun _ _ _ a b => Bool.rec false b a) (fun _ _ a => a) (fun _ a => a) (fun _ _ _ _ _ _ => true) (fun _ => true) (fun _ a => a) (fun _ => true) (fun _ => true) true (fun _ => true) c
/-- regions whose order is drawn -/
def DrOK (P : Program) (dr : Array Oper → K) : Prop := ∀ (nt id : Nat) (arr : Array Oper), dOks nt arr.toList = true → ExOK P nt (.region id arr true) (dr arr)
theorem and_rec {a b : Bool} (h : Bool.rec (motive := fun _ => Bool) false b a = true) : a = true ∧ b = true := by cases a <;> simp_all
theorem exec_ok {dr : Array Oper → K} (hdr : DrOK P dr) : ∀ c : Code, dOk nt c = true → ExOK P nt c (exec dr c)
  | .skip, _ => skip_ok
  | .region id arr false, h => reg_ok h
  | .region id arr true, h => hdr nt id arr h
  | .seq a b, h => by
    have h : Bool.rec (motive := fun _ => Bool) false (dOk nt b) (dOk nt a) = true := h
    exact seq_ok (exec_ok hdr a (and_rec h).1) (exec_ok hdr b (and_rec h).2)
  | .cond c a b, h => by
    have h : Bool.rec (motive := fun _ => Bool) false (dOk nt b) (dOk nt a) = true := h
    exact cond_ok (exec_ok hdr a (and_rec h).1) (exec_ok hdr b (and_rec h).2)
  | .block i a, h => blk_ok (exec_ok hdr a h)
  | .loop a, h => loop_ok (exec_ok hdr a h)
  | .rangeFunc _ _ _ _, _ => fail_ok
  | .exit i, _ => exit_ok
  | .scope a, h => scope_ok (exec_ok hdr a h)
  | .label l, _ => label_ok
  | .goto l, _ => fail_ok
  | .ret, _ => ret_ok
  | .refuse _, _ => fail_ok
/-! results -/
noncomputable def res1 (P : Program) (ts : T) (m : M) (r : ResultVar) : Option V :=
  ResultVar.rec (fun t => some (T.get ts t)) (fun a t => vPtr none (T.get ts a) fun b off => Bk.casesOn (M.get m b) none (fun tt l op => ldc P t l off) (fun _ => none) (fun _ _ => none)) r
noncomputable def resC (x : Option V) (ih : Option (List V)) : Option (List V) := Option.rec none (fun v => Option.rec none (fun l => some (v :: l)) ih) x
noncomputable def resV (P : Program) (ts : T) (m : M) (l : List ResultVar) : Option (List V) := List.rec (some []) (fun r _ ih => resC (res1 P ts m r) ih) l
def resOf (tmps : Array Value) : ResultVar → Sem Value
  | .tmp t => pure (tmps.getD t undef)
  | .cell a t => do loadVar t (← asAddr (tmps.getD a undef))
theorem results_eq (fn : Func) (tmps : Array Value) : results fn tmps = (do let vs ← fn.results.mapM (resOf tmps); pure (if h : vs.size = 1 then vs[0] else .tuple vs)) := by
  unfold results
  have : (fun (r : ResultVar) => (match r with | .tmp t => pure (tmps.getD t undef) | .cell a t => do loadVar t (← asAddr (tmps.getD a undef)) : Sem Value)) = resOf tmps := by
    funext r; cases r <;> rfl
  rw [← this]
  rfl
theorem res1_ok {B : Nat} {w : World} {G : Gh} {n : Nat} {m : M} {ts : T} {a : Act} {r : ResultVar} {v : V} (hm : MemR B w G n m) (ht : TR G ts nt a) (h : res1 P ts m r = some v) : ∃ x, (resOf a.tmps r).run P w = .ok x w ∧ CR G v x := by
  cases r with
  | tmp t =>
    obtain rfl := Option.some.inj (show some (T.get ts t) = some v from h)
    exact ⟨_, rfl, ht.val t⟩
  | cell a' t =>
    have h : vPtr none (T.get ts a') (fun b off => Bk.casesOn (motive := fun _ => Option V) (M.get m b) none (fun tt l op => ldc P t l off) (fun _ => none) (fun _ _ => none)) = some v := h
    have hv := ht.val a'
    cases e : T.get ts a' with
    | ptr b off =>
      rw [e] at h hv
      have h : Bk.casesOn (motive := fun _ => Option V) (M.get m b) none (fun tt l op => ldc P t l off) (fun _ => none) (fun _ _ => none) = some v := h
      have hb := hm.blk b
      cases hg : M.get m b with
      | cells tt l op =>
        rw [hg] at h hb
        obtain ⟨ep, _⟩ := i_ptr hv
        obtain ⟨x, h1, h2⟩ := loadVar_run (P := P) h hb
        refine ⟨x, ?_, h2⟩
        simp only [resOf, ep, asAddr, Sem.run_bind, Sem.run_pure, Result.andThen_ok, h1]
      | _ => rw [hg] at h; cases h
    | _ => rw [e] at h; cases h
theorem resV_ok {B : Nat} {w : World} {G : Gh} {n : Nat} {m : M} {ts : T} {a : Act} (hm : MemR B w G n m) (ht : TR G ts nt a) : ∀ (l : List ResultVar) (vs : List V), resV P ts m l = some vs → ∃ xs, (l.mapM (resOf a.tmps)).run P w = .ok xs w ∧ LR G vs xs
  | [], vs, h => by
    obtain rfl := Option.some.inj (show some [] = some vs from h)
    exact ⟨[], by simp [Sem.run_pure], .nil⟩
  | r :: l, vs, h => by
    have h : resC (res1 P ts m r) (resV P ts m l) = some vs := h
    cases h1 : res1 P ts m r with
    | none => rw [h1] at h; cases h
    | some v =>
      rw [h1] at h
      cases h2 : resV P ts m l with
      | none => rw [h2] at h; cases h
      | some vl =>
        rw [h2] at h
        obtain rfl := Option.some.inj (show some (v :: vl) = some vs from h)
        obtain ⟨x, h3, h4⟩ := res1_ok hm ht h1
        obtain ⟨xs, h5, h6⟩ := resV_ok hm ht l vl h2
        refine ⟨x :: xs, ?_, h6.cons h4⟩
        rw [List.mapM_cons]
        simp only [Sem.run_bind, h3, h5, Result.andThen_ok, Sem.run_pure]
noncomputable def oneV (l : List V) : V := List.rec (V.tup []) (fun v t _ => List.rec v (fun _ _ _ => V.tup (v :: t)) t) l
noncomputable def fin2 (n : Nat) (m : M) (l : Option (List V)) : R := Option.rec .fail (fun l => .ok (oneV l) n m) l
noncomputable def fin (P : Program) (rs : List ResultVar) (o : Out) : R := Out.rec R.fail (fun ts n m => fin2 n m (resV P ts m rs)) (fun _ _ _ _ => R.fail) (fun ts n m => fin2 n m (resV P ts m rs)) o
theorem fin2_ok {B : Nat} {w : World} {G : Gh} {n n' : Nat} {m m' : M} {ts : T} {a : Act} {fn : Func} {v : V} (hm : MemR B w G n m) (ht : TR G ts nt a) (h : fin2 n m (resV P ts m fn.results.toList) = .ok v n' m') :
    n' = n ∧ m' = m ∧ ∃ x, (results fn a.tmps).run P w = .ok x w ∧ CR G v x := by
  cases hr : resV P ts m fn.results.toList with
  | none => rw [hr] at h; cases h
  | some vs =>
    rw [hr] at h
    have h : R.ok (oneV vs) n m = .ok v n' m' := h
    simp only [R.ok.injEq] at h
    obtain ⟨rfl, rfl, rfl⟩ := h
    obtain ⟨xs, h1, h2⟩ := resV_ok hm ht _ _ hr
    have e : ∀ (mm : Sem (List Value)), mm.run P w = .ok xs w → ((List.toArray <$> mm : Sem (Array Value))).run P w = .ok xs.toArray w := by
      intro mm hmm
      rw [map_eq_pure_bind]
      simp only [Sem.run_bind, hmm, Result.andThen_ok, Sem.run_pure]
    refine ⟨rfl, rfl, if h : xs.toArray.size = 1 then xs.toArray[0] else .tuple xs.toArray, ?_, ?_⟩
    · rw [results_eq, Array.mapM_eq_mapM_toList]
      simp only [Sem.run_bind]
      rw [e _ h1]
      simp only [Result.andThen_ok, Sem.run_pure]
    · match vs, h2 with
      | [], h2 => obtain rfl := h2.nil_inv; exact .tup [] [] rfl fun i => .unk _
      | [v], h2 =>
        obtain ⟨x, t, rfl, h3, h4⟩ := h2.head
        obtain rfl := h4.nil_inv
        exact h3
      | v :: v2 :: l, h2 =>
        obtain ⟨x, t, rfl, h3, h4⟩ := h2.head
        obtain ⟨x2, t2, rfl, h5, h6⟩ := h4.head
        rw [dif_neg (by simp)]
        exact .tup _ _ h2.1 h2.2
/-! a call -/
noncomputable def T.full (n : Nat) : T := Tr.full V.unk n
theorem get_full : ∀ (n i : Nat), Tr.get V.unk (Tr.full V.unk n) i = V.unk
  | 0, i => rfl
  | n + 1, i => by
    have e : Tr.full V.unk (n + 1) = .n (Tr.full V.unk n) V.unk (Tr.full V.unk n) := rfl
    rw [e]
    exact bit_cases (C := fun i => Tr.get V.unk (.n (Tr.full V.unk n) V.unk (Tr.full V.unk n)) i = V.unk) i rfl (fun j => by rw [Tr.get_l]; exact get_full n j) (fun j => by rw [Tr.get_r]; exact get_full n j)
noncomputable def argsT (l : List V) : Nat → T → T := List.rec (fun _ ts => ts) (fun v _ ih i ts => ih (Nat.succ i) (T.set ts i v)) l
theorem argsT_ok {G : Gh} {tm : Array Value} : ∀ (l : List V) (i : Nat) (ts : T), (∀ t, CR G (T.get ts t) (tm.getD t undef)) → (∀ j, CR G (l.getD j .unk) (tm.getD (i + j) undef)) → ∀ t, CR G (T.get (argsT l i ts) t) (tm.getD t undef)
  | [], i, ts, h, _ => h
  | v :: l, i, ts, h, hl => by
    refine argsT_ok l (i + 1) (T.set ts i v) (fun t => ?_) fun j => by have := hl (j + 1); rwa [show i + (j + 1) = i + 1 + j by omega] at this
    by_cases e : t = i
    · subst e
      rcases Tr.get_self V.unk ts t v with h' | h' <;> show CR G (Tr.get V.unk (Tr.set ts t v) t) _ <;> rw [h']
      · exact hl 0
      · exact .unk _
    · show CR G (Tr.get V.unk (Tr.set ts i v) t) _
      rw [Tr.get_set V.unk ts i t v e]
      exact h t
noncomputable def lvl (n : Nat) : Nat := Bool.rec (Bool.rec (Bool.rec 14 10 (Nat.ble n 1023)) 7 (Nat.ble n 127)) 5 (Nat.ble n 31)
noncomputable def callFn (dr : Array Oper → K) (P : Program) (call : CallT) (fn : Func) (fl : Nat) (xs : List V) (n : Nat) (m : M) : R :=
  Option.rec R.fail (fun c => Bool.rec R.fail (fin P fn.results.toList (exec dr c P call fl (argsT xs 0 (T.full (lvl fn.ntmps))) n m)) (Bool.rec false (Nat.ble fl n) (Nat.ble xs.length fn.ntmps))) fn.body
/-- what holds of every function of the program -/
def FnsOK (P : Program) : Prop := ∀ (f : Nat) (fn : Func) (c : Code), P.funcs[f]? = some fn → fn.body = some c → dOk fn.ntmps c = true ∧ fn.name ≠ "runtime.NumGoroutine"
theorem callFn_ok {dr : Array Oper → K} {call : CallT} {f : Nat} {fn : Func} {fl n n' : Nat} {xs : List V} {m m' : M} {v : V} (hdr : DrOK P dr) (hc : CallOK P call) (hall : FnsOK P) (hf : P.funcs[f]? = some fn) (h : callFn dr P call fn fl xs n m = .ok v n' m') :
    n ≤ n' ∧ callable P f = true ∧ FnOK P f xs fl n m v n' m' := by
  cases hb : fn.body with
  | none => unfold callFn at h; rw [hb] at h; cases h
  | some c =>
    obtain ⟨hd, hnm⟩ := hall f fn c hf hb
    have h : Bool.rec (motive := fun _ => R) R.fail (fin P fn.results.toList (exec dr c P call fl (argsT xs 0 (T.full (lvl fn.ntmps))) n m)) (Bool.rec (motive := fun _ => Bool) false (Nat.ble fl n) (Nat.ble xs.length fn.ntmps)) = .ok v n' m' := by
      unfold callFn at h; rw [hb] at h; exact h
    cases hck : Bool.rec (motive := fun _ => Bool) false (Nat.ble fl n) (Nat.ble xs.length fn.ntmps) with
    | false => rw [hck] at h; cases h
    | true =>
      rw [hck] at h
      obtain ⟨hx, hfl⟩ := and_rec hck
      have hx := Nat.le_of_ble_eq_true hx
      have hfl := Nat.le_of_ble_eq_true hfl
      have h : fin P fn.results.toList (exec dr c P call fl (argsT xs 0 (T.full (lvl fn.ntmps))) n m) = .ok v n' m' := h
      have hne : exec dr c P call fl (argsT xs 0 (T.full (lvl fn.ntmps))) n m ≠ .fail := fun e => by rw [e] at h; cases h
      obtain ⟨h1, h2⟩ := exec_ok hdr c hd call fl _ n m hc hne
      have hno : nOf (exec dr c P call fl (argsT xs 0 (T.full (lvl fn.ntmps))) n m) = n' := by
        cases ho : exec dr c P call fl (argsT xs 0 (T.full (lvl fn.ntmps))) n m with
        | fail => exact absurd ho hne
        | ex i ts1 n1 m1 => rw [ho] at h; cases h
        | nrm ts1 n1 m1 =>
          rw [ho] at h
          have h : fin2 n1 m1 (resV P ts1 m1 fn.results.toList) = .ok v n' m' := h
          cases hr : resV P ts1 m1 fn.results.toList with
          | none => rw [hr] at h; cases h
          | some vs => rw [hr] at h; have h : R.ok (oneV vs) n1 m1 = .ok v n' m' := h; simp only [R.ok.injEq] at h; exact h.2.1
        | ret ts1 n1 m1 =>
          rw [ho] at h
          have h : fin2 n1 m1 (resV P ts1 m1 fn.results.toList) = .ok v n' m' := h
          cases hr : resV P ts1 m1 fn.results.toList with
          | none => rw [hr] at h; cases h
          | some vs => rw [hr] at h; have h : R.ok (oneV vs) n1 m1 = .ok v n' m' := h; simp only [R.ok.injEq] at h; exact h.2.1
      rw [hno] at h1 h2
      refine ⟨h1, ?_, ?_⟩
      · unfold callable; rw [hf]; simp [hb, hnm]
      · intro B w G vs hm hl hfr
        refine calls_of_wp hf hb (h2 B w G _ _ hm ⟨?_, ?_⟩ rfl hfr.1 hfr.2 ?_)
        · have := hl.1; simp; omega
        · intro t
          refine argsT_ok xs 0 (T.full (lvl fn.ntmps)) (fun t => by show CR G (Tr.get V.unk (Tr.full V.unk _) t) _; rw [get_full]; exact .unk _) (fun j => ?_) t
          have hj := hl.2 j
          rcases Nat.lt_or_ge j vs.length with hlt | hge
          · have e : ((vs.toArray ++ Array.replicate (fn.ntmps - vs.toArray.size) undef).getD (0 + j) undef) = vs.getD j undef := by
              rw [Nat.zero_add]
              simp [Array.getD_eq_getD_getElem?, Array.getElem?_append, hlt]
            rw [e]; exact hj
          · have : xs.getD j .unk = .unk := by
              rw [List.getD_eq_getElem?_getD, List.getElem?_eq_none (by have := hl.1; omega)]; rfl
            rw [this]; exact .unk _
        · cases ho : exec dr c P call fl (argsT xs 0 (T.full (lvl fn.ntmps))) n m with
          | fail => exact absurd ho hne
          | ex i ts1 n1 m1 => rw [ho] at h; cases h
          | nrm ts1 n1 m1 =>
            rw [ho] at h
            intro a' w' G' hp ht' hdf'
            obtain ⟨rfl, rfl, x, hr, hv⟩ := fin2_ok hp.memr ht' h
            exact ⟨hdf', x, hr, x, G', rfl, hp, hv⟩
          | ret ts1 n1 m1 =>
            rw [ho] at h
            intro a' w' G' hp ht' hdf'
            obtain ⟨rfl, rfl, x, hr, hv⟩ := fin2_ok hp.memr ht' h
            exact ⟨hdf', x, hr, x, G', rfl, hp, hv⟩
/-- functions whose contracts are given -/
def SpOK (P : Program) (sp : Nat → Option (List V → Nat → M → R)) : Prop := ∀ f h, sp f = some h → ∀ fl xs n m v n' m', h xs n m = .ok v n' m' → n ≤ n' ∧ callable P f = true ∧ FnOK P f xs fl n m v n' m'
noncomputable def runF (dr : Array Oper → K) (sp : Nat → Option (List V → Nat → M → R)) (P : Program) (d : Nat) : CallT :=
  Nat.rec (fun _ _ _ _ _ => R.fail) (fun _ ih fl f xs n m => Option.rec (Option.rec R.fail (fun fn => callFn dr P ih fn fl xs n m) P.funcs[f]?) (fun h => h xs n m) (sp f)) d
theorem runF_ok {dr : Array Oper → K} {sp : Nat → Option (List V → Nat → M → R)} (hdr : DrOK P dr) (hall : FnsOK P) (hsp : SpOK P sp) : ∀ d, CallOK P (runF dr sp P d)
  | 0 => fun fl f xs n m v n' m' h => by cases h
  | d + 1 => fun fl f xs n m v n' m' h => by
    have h : Option.rec (motive := fun _ => R) (Option.rec (motive := fun _ => R) R.fail (fun fn => callFn dr P (runF dr sp P d) fn fl xs n m) P.funcs[f]?) (fun h => h xs n m) (sp f) = .ok v n' m' := h
    cases hs : sp f with
    | some g => rw [hs] at h; exact hsp f g hs fl xs n m v n' m' h
    | none =>
      rw [hs] at h
      cases hf : P.funcs[f]? with
      | none =>
        have h : Option.rec (motive := fun _ => R) R.fail (fun fn => callFn dr P (runF dr sp P d) fn fl xs n m) P.funcs[f]? = .ok v n' m' := h
        rw [hf] at h; cases h
      | some fn =>
        have h : Option.rec (motive := fun _ => R) R.fail (fun fn => callFn dr P (runF dr sp P d) fn fl xs n m) P.funcs[f]? = .ok v n' m' := h
        rw [hf] at h
        exact callFn_ok hdr (runF_ok hdr hall hsp d) hall hf h
end
end Go.Proofs.YtbpjinefbnlenaaGreatDoor.E

/- An exact machine, part 16: any order that keeps the edges. -/
namespace Go.Proofs.YtbpjinefbnlenaaGreatDoor.E
open Go Go.RowKit
set_option linter.unusedVariables false

def updB (D : Nat → Bool) (i : Nat) : Nat → Bool := fun j => if j = i then true else D j
def cntU (f : Nat → Bool) : Nat → Nat
  | 0 => 0
  | n + 1 => (if f n then 0 else 1) + cntU f n
theorem cntU_eq (f g : Nat → Bool) : ∀ n, (∀ j, j < n → f j = g j) → cntU f n = cntU g n
  | 0, _ => rfl
  | n + 1, h => by rw [cntU, cntU, h n (by omega), cntU_eq f g n (fun j hj => h j (by omega))]
theorem cntU_set (f g : Nat → Bool) (i : Nat) (hi : f i = false) (gi : g i = true) (hne : ∀ j, j ≠ i → g j = f j) : ∀ n, i < n → cntU g n + 1 = cntU f n
  | 0, h => by omega
  | n + 1, h => by
    rw [cntU, cntU]
    by_cases e : n = i
    · subst e
      rw [hi, gi, cntU_eq g f n (fun j hj => hne j (by omega))]
      simp; omega
    · rw [hne n e]
      have := cntU_set f g i hi gi hne n (by omega)
      omega
theorem cntU_zero (f : Nat → Bool) : ∀ n, cntU f n = 0 → ∀ j, j < n → f j = true
  | 0, _, j, hj => by omega
  | n + 1, h, j, hj => by
    rw [cntU] at h
    by_cases e : j = n
    · subst e
      cases hf : f j with
      | true => rfl
      | false => rw [hf] at h; simp at h
    · exact cntU_zero f n (by omega) j (by omega)
theorem cntU_le (f : Nat → Bool) : ∀ n, cntU f n ≤ n
  | 0 => Nat.le_refl _
  | n + 1 => by have := cntU_le f n; rw [cntU]; split <;> omega
/-- one operation's turn -/
def Turn (P : Program) (ops : Array Oper) (Q : Exit → Act → World → Prop) (o : Oper) (a : Act) (w : World) (K : Act → World → Prop) : Prop :=
  if Region.wanted o (yielded ops a.tmps) then o.wp P a w K Q ∨ (o.asks P a w ∧ LetsOut Q) else K (a.put o.dst undef) w
/-- the schedule: any order that keeps the edges is one of the first m operations in some order, then the others in theirs -/
theorem wpAny_two {P : Program} {ops : Array Oper} {Q : Exit → Act → World → Prop} (n m : Nat) (hn : ops.size = n) (hmn : m ≤ n) (hback : ∀ (i : Nat) (o : Oper), ops[i]? = some o → ∀ e ∈ o.after, Region.binds .any e = true → e.on < i)
    (bef : Nat → Nat → Bool) (hbef : ∀ (i : Nat) (o : Oper), ops[i]? = some o → ∀ j, bef i j = true → ∃ e ∈ o.after, Region.binds .any e = true ∧ (j = e.on ∨ bef e.on j = true))
    (htail : ∀ i, m ≤ i → i < n → ∀ j, j < i → bef i j = true)
    (J1 : (Nat → Bool) → Act → World → Prop) (J2 : Nat → Act → World → Prop)
    (step1 : ∀ D a w i o, i < m → ops[i]? = some o → D i = false → (∀ j, D j = true → j < m) → (∀ j, bef i j = true → D j = true) → (∀ k j, D k = true → bef k j = true → D j = true) → J1 D a w →
      ∀ K : Act → World → Prop, (∀ a' w', J1 (updB D i) a' w' → K a' w') → Turn P ops Q o a w K)
    (mid : ∀ D a w, (∀ j, j < m → D j = true) → (∀ j, D j = true → j < m) → J1 D a w → J2 m a w)
    (step2 : ∀ k a w o, m ≤ k → ops[k]? = some o → J2 k a w → ∀ K : Act → World → Prop, (∀ a' w', J2 (k + 1) a' w' → K a' w') → Turn P ops Q o a w K)
    (fin : ∀ a w, J2 n a w → Q .normal a w) {a : Act} {w : World} (h0 : J1 (fun _ => false) a w) : wpAny P .any ops Q ops.size (Array.replicate ops.size false) a w := by
  -- what holds of a list of what has been done
  let Sa : Array Bool → Act → World → Prop := fun listed a w => ∃ D : Nat → Bool, (∀ j, j < m → listed.getD j true = D j) ∧ (∀ j, D j = true → j < m) ∧ (∀ j, m ≤ j → j < n → listed.getD j true = false) ∧ (∀ k j, D k = true → bef k j = true → D j = true) ∧ J1 D a w
  let Sb : Array Bool → Act → World → Prop := fun listed a w => ∃ k, m ≤ k ∧ k ≤ n ∧ (∀ j, j < k → listed.getD j true = true) ∧ (∀ j, k ≤ j → j < n → listed.getD j true = false) ∧ J2 k a w
  have allDone : ∀ listed : Array Bool, listed.size = n → Region.ready .any ops listed = [] → ∀ k, k < n → listed.getD k true = true := by
    intro listed hsz hr k
    induction k using Nat.strongRecOn with
    | ind k ih =>
      intro hk
      cases hf : listed.getD k true with
      | true => rfl
      | false =>
        exfalso
        have hk' : k < ops.size := by omega
        have : k ∈ Region.ready .any ops listed := by
          refine mem_ready.2 ⟨hf, ops[k], by simp [hk'], fun e he hbe => ?_⟩
          have hlt := hback k ops[k] (by simp [hk']) e he hbe
          have := ih e.on hlt (by omega)
          have hin : e.on < listed.size := by omega
          simp only [Array.getD, hin, dif_pos] at this ⊢
          exact this
        rw [hr] at this
        cases this
  have fin' : ∀ listed a w, listed.size = n → Sa listed a w ∨ Sb listed a w → Region.ready .any ops listed = [] → Q .normal a w := by
    intro listed a w hsz hS hr
    have all := allDone listed hsz hr
    rcases hS with ⟨D, h1, h2, h3, h4, h5⟩ | ⟨k, h1, h2, h3, h4, h5⟩
    · have hm : m = n := by
        rcases Nat.lt_or_ge m n with h | h
        · have := h3 m (Nat.le_refl _) h; rw [all m h] at this; cases this
        · omega
      subst hm
      exact fin a w (mid D a w (fun j hj => by rw [← h1 j hj]; exact all j hj) h2 h5)
    · have hk : k = n := by
        rcases Nat.lt_or_ge k n with h | h
        · have := h4 k (Nat.le_refl _) h; rw [all k h] at this; cases this
        · omega
      subst hk
      exact fin a w h5
  have main : ∀ (fuel : Nat) (listed : Array Bool) (a : Act) (w : World), listed.size = n → cntU (fun j => listed.getD j true) n ≤ fuel → Sa listed a w ∨ Sb listed a w → wpAny P .any ops Q fuel listed a w := by
    intro fuel
    induction fuel with
    | zero =>
      intro listed a w hsz hc hS
      have all := cntU_zero _ _ (Nat.le_zero.1 hc)
      have hr : Region.ready .any ops listed = [] := by
        apply List.eq_nil_iff_forall_not_mem.2
        intro k hk
        obtain ⟨h1, o, ho, _⟩ := mem_ready.1 hk
        have hlt : k < n := by have := (Array.getElem?_eq_some_iff.1 ho).1; omega
        rw [all k hlt] at h1
        cases h1
      exact ⟨hr, fin' listed a w hsz hS hr⟩
    | succ fuel ih =>
      intro listed a w hsz hc hS
      refine ⟨fin' listed a w hsz hS, fun i hi => ?_⟩
      obtain ⟨h1, o, ho, hdep⟩ := mem_ready.1 hi
      have hlt : i < n := by have := (Array.getElem?_eq_some_iff.1 ho).1; omega
      have hset : ∀ j, (listed.setIfInBounds i true).getD j true = if j = i then true else listed.getD j true := by
        intro j
        by_cases e : j = i
        · subst e; simp [Array.getD, hsz, hlt]
        · rw [if_neg e]; exact getD_set_ne true (Ne.symm e)
      have hcnt : cntU (fun j => (listed.setIfInBounds i true).getD j true) n ≤ fuel := by
        have := cntU_set (fun j => listed.getD j true) (fun j => (listed.setIfInBounds i true).getD j true) i h1 (by simp only [hset]; simp) (fun j hj => by simp only [hset]; rw [if_neg hj]) n hlt
        omega
      have go : ∀ K' : (Act → World → Prop), Turn P ops Q o a w K' → wpOp P ops Q i K' a w := by
        intro K' ht
        unfold wpOp
        rw [ho]
        simp only
        unfold Turn at ht
        split
        · rename_i hw; rw [if_pos hw] at ht; exact ht
        · rename_i hw; rw [if_neg hw] at ht; exact ht
      refine go _ ?_
      -- the k-th of the tail, from a state of the tail
      have tailStep : ∀ k, m ≤ k → k ≤ n → (∀ j, j < k → listed.getD j true = true) → (∀ j, k ≤ j → j < n → listed.getD j true = false) → J2 k a w → i = k → Turn P ops Q o a w (wpAny P .any ops Q fuel (listed.setIfInBounds i true)) := by
        intro k hk1 hk2 hl1 hl2 hJ hik
        subst hik
        refine step2 i a w o hk1 ho hJ _ (fun a' w' hJ' => ih _ a' w' (by simpa using hsz) hcnt (.inr ⟨i + 1, by omega, by omega, fun j hj => ?_, fun j hj1 hj2 => ?_, hJ'⟩))
        · rw [hset]; split
          · rfl
          · exact hl1 j (by omega)
        · rw [hset, if_neg (by omega)]; exact hl2 j (by omega) hj2
      rcases hS with ⟨D, g1, g2, g3, g4, g5⟩ | ⟨k, g1, g2, g3, g4, g5⟩
      · have hD : ∀ j, bef i j = true → D j = true := by
          intro j hj
          obtain ⟨e, he, hb, hor⟩ := hbef i o ho j hj
          have hlist := hdep e he hb
          have hlt2 := hback i o ho e he hb
          have hin : e.on < listed.size := by omega
          have hl2 : listed.getD e.on true = true := by
            simp only [Array.getD, hin, dif_pos] at hlist ⊢
            exact hlist
          have hon : D e.on = true := by
            rcases Nat.lt_or_ge e.on m with h | h
            · rw [← g1 _ h]; exact hl2
            · have := g3 e.on h (by omega); rw [hl2] at this; cases this
          rcases hor with rfl | hor
          · exact hon
          · exact g4 _ _ hon hor
        rcases Nat.lt_or_ge i m with him | him
        · have hDi : D i = false := by rw [← g1 i him]; exact h1
          refine step1 D a w i o him ho hDi g2 hD g4 g5 _ (fun a' w' hJ => ih _ a' w' (by simpa using hsz) hcnt (.inl ⟨updB D i, fun j hj => ?_, fun j hj => ?_, fun j hj1 hj2 => ?_, fun k j hk hj => ?_, hJ⟩))
          · rw [hset]; unfold updB; split
            · rfl
            · exact g1 j hj
          · unfold updB at hj; split at hj
            · rename_i e; subst e; exact him
            · exact g2 j hj
          · rw [hset, if_neg (by omega)]; exact g3 j hj1 hj2
          · unfold updB at hk ⊢
            split
            · rfl
            · split at hk
              · rename_i e; subst e; exact hD j hj
              · exact g4 k j hk hj
        · have hall : ∀ j, j < i → D j = true := fun j hj => hD j (htail i him hlt j hj)
          have him2 : i = m := by
            rcases Nat.lt_or_ge m i with h | h
            · have := g2 m (hall m h); omega
            · omega
          refine tailStep m (Nat.le_refl _) hmn (fun j hj => by rw [g1 j hj]; exact hall j (by omega)) g3 (mid D a w (fun j hj => hall j (by omega)) g2 g5) him2
      · have hik : i = k := by
          rcases Nat.lt_or_ge i k with h | h
          · have := g3 i h; rw [h1] at this; cases this
          · rcases Nat.lt_or_ge k i with h' | h'
            · -- k is not done, yet ahead of i
              have : ∀ j, bef i j = true → listed.getD j true = true := by
                intro j hj
                obtain ⟨e, he, hb, hor⟩ := hbef i o ho j hj
                have hlist := hdep e he hb
                have hlt2 := hback i o ho e he hb
                have hin : e.on < listed.size := by omega
                have hl2 : listed.getD e.on true = true := by
                  simp only [Array.getD, hin, dif_pos] at hlist ⊢
                  exact hlist
                rcases hor with rfl | hor
                · exact hl2
                · have hon : e.on < k := by
                    rcases Nat.lt_or_ge e.on k with h2 | h2
                    · exact h2
                    · have := g4 e.on h2 (by omega); rw [hl2] at this; cases this
                  have hlt3 : j < e.on := by
                    -- what is ahead lies below
                    have : ∀ (q : Nat), q < n → ∀ j, bef q j = true → j < q := by
                      intro q
                      induction q using Nat.strongRecOn with
                      | ind q ihq =>
                        intro hq j hj
                        have hq' : q < ops.size := by omega
                        obtain ⟨e', he', hb', hor'⟩ := hbef q ops[q] (by simp [hq']) j hj
                        have hlt4 := hback q ops[q] (by simp [hq']) e' he' hb'
                        rcases hor' with rfl | hor'
                        · exact hlt4
                        · have := ihq e'.on hlt4 (by omega) j hor'; omega
                    exact this e.on (by omega) j hor
                  exact g3 j (by omega)
              have h2 := this k (htail i (by omega) hlt k h')
              have h3 := g4 k (Nat.le_refl _) (by omega)
              rw [h2] at h3; cases h3
            · omega
        exact tailStep k g1 g2 g3 g4 g5 hik
  refine main _ _ a w (by simp [hn]) (by rw [hn]; exact cntU_le _ _) (.inl ⟨fun _ => false, fun j hj => ?_, (fun j hj => by cases hj), fun j h1 h2 => ?_, (fun k j hk _ => by cases hk), h0⟩)
  · have : j < ops.size := by omega
    simp [Array.getD, this]
  · have : j < ops.size := by omega
    simp [Array.getD, this]
def maskOf (acc : List Nat) (es : List Edge) : Nat := es.foldl (fun s e => if Region.binds .any e then s ||| (2 ^ e.on ||| acc.getD e.on 0) else s) 0
def befs (acc : List Nat) : List Oper → List Nat
  | [] => acc
  | o :: l => befs (acc ++ [maskOf acc o.after.toList]) l
theorem maskOf_bit (acc : List Nat) (es : List Edge) (j : Nat) (h : (maskOf acc es).testBit j = true) : ∃ e ∈ es, Region.binds .any e = true ∧ (j = e.on ∨ (acc.getD e.on 0).testBit j = true) := by
  have main : ∀ (es : List Edge) (s : Nat), (es.foldl (fun s e => if Region.binds .any e then s ||| (2 ^ e.on ||| acc.getD e.on 0) else s) s).testBit j = true → s.testBit j = true ∨ ∃ e ∈ es, Region.binds .any e = true ∧ (j = e.on ∨ (acc.getD e.on 0).testBit j = true) := by
    intro es
    induction es with
    | nil => intro s h; exact .inl h
    | cons e es ih =>
      intro s h
      rw [List.foldl_cons] at h
      rcases ih _ h with h1 | ⟨e', he', h1⟩
      · split at h1
        · rename_i hb
          rw [Nat.testBit_or, Nat.testBit_or, Bool.or_eq_true, Bool.or_eq_true] at h1
          rcases h1 with h1 | h1 | h1
          · exact .inl h1
          · refine .inr ⟨e, by simp, hb, .inl ?_⟩
            rw [Nat.testBit_two_pow] at h1
            exact (of_decide_eq_true h1).symm
          · exact .inr ⟨e, by simp, hb, .inr h1⟩
        · exact .inl h1
      · exact .inr ⟨e', by simp [he'], h1⟩
  rcases main es 0 h with h1 | h1
  · simp at h1
  · exact h1
theorem befs_prefix : ∀ (l : List Oper) (acc : List Nat), ∃ r, befs acc l = acc ++ r ∧ r.length = l.length
  | [], acc => ⟨[], by simp [befs], rfl⟩
  | o :: l, acc => by
    obtain ⟨r, h1, h2⟩ := befs_prefix l (acc ++ [maskOf acc o.after.toList])
    exact ⟨maskOf acc o.after.toList :: r, by simp [befs, h1], by simp [h2]⟩
theorem befs_get : ∀ (l : List Oper) (acc : List Nat) (i : Nat) (o : Oper), l[i]? = some o → ∀ j, ((befs acc l).getD (acc.length + i) 0).testBit j = true →
    ∃ e ∈ o.after.toList, Region.binds .any e = true ∧ (j = e.on ∨ ((befs acc l).getD e.on 0).testBit j = true)
  | [], acc, i, o, h, j, _ => by simp at h
  | o' :: l, acc, 0, o, h, j, hj => by
    simp at h; subst h
    obtain ⟨r, h1, h2⟩ := befs_prefix l (acc ++ [maskOf acc o'.after.toList])
    have e1 : befs acc (o' :: l) = acc ++ (maskOf acc o'.after.toList :: r) := by simp [befs, h1]
    rw [e1] at hj ⊢
    have e2 : (acc ++ (maskOf acc o'.after.toList :: r)).getD (acc.length + 0) 0 = maskOf acc o'.after.toList := by
      simp [List.getD_eq_getElem?_getD]
    rw [e2] at hj
    obtain ⟨e, he, hb, hor⟩ := maskOf_bit acc _ j hj
    refine ⟨e, he, hb, hor.imp id (fun h => ?_)⟩
    rcases Nat.lt_or_ge e.on acc.length with hlt | hge
    · rw [List.getD_eq_getElem?_getD, List.getElem?_append_left hlt]
      rwa [List.getD_eq_getElem?_getD] at h
    · rw [List.getD_eq_getElem?_getD, List.getElem?_eq_none hge] at h
      simp at h
  | o' :: l, acc, i + 1, o, h, j, hj => by
    have := befs_get l (acc ++ [maskOf acc o'.after.toList]) i o (by simpa using h) j
    simp only [befs] at hj ⊢
    refine this ?_
    rw [List.length_append, List.length_singleton, show acc.length + 1 + i = acc.length + (i + 1) by omega]
    exact hj

end Go.Proofs.YtbpjinefbnlenaaGreatDoor.E

/- An exact machine, part 17: memories as functions, for regions in any order. -/
namespace Go.Proofs.YtbpjinefbnlenaaGreatDoor.E
open Go Go.RowKit
set_option linter.unusedVariables false

structure MemF (B : Nat) (w : World) (G : Gh) (g : Nat → Bk) : Prop where
  blk : ∀ i, BkR w G i (g i)
  apart : ∀ i j, i ≠ j → g i ≠ .dead → g j ≠ .dead → G.ρ i ≠ G.ρ j
  own : ∀ i, g i ≠ .dead → B ≤ G.ρ i ∧ G.ρ i < w.heap.size ∧ G.al i
  base : B ≤ w.heap.size
theorem MemR.toF {B : Nat} {w : World} {G : Gh} {n : Nat} {m : M} (h : MemR B w G n m) : MemF B w G (M.get m) := ⟨h.blk, h.apart, h.own, h.base⟩
theorem MemF.weaken {B : Nat} {w : World} {G : Gh} {g : Nat → Bk} (h : MemF B w G g) (n : Nat) {m : M} (hm : ∀ b, M.get m b = .dead ∨ M.get m b = g b) : MemR B w G n m := by
  have hl : ∀ b, live m b → M.get m b = g b ∧ g b ≠ .dead := fun b hb => by
    rcases hm b with h1 | h1
    · exact absurd h1 hb
    · exact ⟨h1, by rw [← h1]; exact hb⟩
  refine ⟨fun i => ?_, fun i j hij hi hj => h.apart i j hij (hl i hi).2 (hl j hj).2, fun i hi => h.own i (hl i hi).2, h.base⟩
  rcases hm i with h1 | h1
  · rw [h1]; trivial
  · rw [h1]; exact h.blk i
structure PostF (B n : Nat) (g0 : Nat → Bk) (w0 : World) (G0 : Gh) (nf : Nat) (g : Nat → Bk) (w : World) (G : Gh) (lo : Nat) : Prop where
  ext : Ext G0 G
  memf : MemF B w G g
  rest : Rest w0 w
  dead : ∀ i, ¬ (n ≤ i ∧ i < nf) → g i ≠ .dead → g0 i ≠ .dead
  fresh : ∀ i, n ≤ i → i < nf → g i ≠ .dead → w0.heap.size ≤ G.ρ i ∨ ∃ b, lo ≤ b ∧ g0 b ≠ .dead ∧ G.ρ i = G0.ρ b
  frame : ∀ x, x < w0.heap.size → (∀ i, lo ≤ i → g0 i ≠ .dead → G0.ρ i ≠ x) → w.heap[x]? = w0.heap[x]?
  new : ∀ i, G.al i → G0.al i ∨ (n ≤ i ∧ i < nf)
section
variable {B n nf lo : Nat} {g0 g : Nat → Bk} {w0 w : World} {G0 G : Gh}
theorem PostF.refl (h : MemF B w0 G0 g0) (hf : Free G0 n nf) : PostF B n g0 w0 G0 nf g0 w0 G0 lo :=
  ⟨Ext.refl G0, h, Rest.refl w0, fun _ _ h => h, fun i h1 h2 h3 => absurd (h.own i h3).2.2 (hf i h1 h2), fun _ _ _ => rfl, fun _ h => .inl h⟩
/-- what lay there before -/
theorem PostF.back (h0 : MemF B w0 G0 g0) (h : PostF B n g0 w0 G0 nf g w G lo) (hlo : lo ≤ n) {i : Nat} (hi : lo ≤ i) (hl : g i ≠ .dead) : w0.heap.size ≤ G.ρ i ∨ ∃ b, lo ≤ b ∧ g0 b ≠ .dead ∧ G.ρ i = G0.ρ b := by
  by_cases h1 : n ≤ i ∧ i < nf
  · exact h.fresh i h1.1 h1.2 hl
  · have h2 := h.dead i h1 hl
    exact .inr ⟨i, hi, h2, h.ext.ρ i (h0.own i h2).2.2⟩
theorem PostF.chain (h0 : MemF B w0 G0 g0) (h : PostF B n g0 w0 G0 nf g w G lo) {np n1 : Nat} {m m1 : M} {w1 : World} {G1 : Gh} (hm : ∀ b, M.get m b = .dead ∨ M.get m b = g b) (k : Post B np m w G n1 m1 w1 G1 lo) (hlo : lo ≤ n) (hn : n ≤ np) (hn1 : n1 ≤ nf) (hx : ∀ b, n1 ≤ b → b < nf → M.get m b = .dead) :
    PostF B n g0 w0 G0 nf (fun b => if n1 ≤ b ∧ b < nf then g b else M.get m1 b) w1 G1 lo := by
  have hl : ∀ b, live m b → g b ≠ .dead ∧ ¬ (n1 ≤ b ∧ b < nf) := fun b hb => by
    refine ⟨?_, fun e => hb (hx b e.1 e.2)⟩
    rcases hm b with h1 | h1
    · exact absurd h1 hb
    · rw [← h1]; exact hb
  have hlen := k.len
  have hold : ∀ b, g b ≠ .dead → G1.ρ b = G.ρ b ∧ G1.κ b = G.κ b ∧ G1.al b := fun b hb => by
    have := (h.memf.own b hb).2.2
    exact ⟨k.ext.ρ b this, k.ext.κ b this, k.ext.al b this⟩
  -- a block of the machine's after the step, by what it was
  have later : ∀ j, live m1 j → (w.heap.size ≤ G1.ρ j) ∨ ∃ b, live m b ∧ G1.ρ j = G.ρ b ∧ (b = j ∨ lo ≤ b) := fun j hj => by
    by_cases h1 : np ≤ j ∧ j < n1
    · rcases k.fresh j h1.1 h1.2 hj with h2 | ⟨b, h2, h3, h4⟩
      · exact .inl h2
      · exact .inr ⟨b, h3, h4, .inr h2⟩
    · have h2 := k.dead j h1 hj
      exact .inr ⟨j, h2, (hold j (hl j h2).1).1, .inl rfl⟩
  have cross : ∀ i j, (n1 ≤ i ∧ i < nf) → g i ≠ .dead → live m1 j → G1.ρ i ≠ G1.ρ j := fun i j hi hgi hj e => by
    rw [(hold i hgi).1] at e
    rcases later j hj with h1 | ⟨b, h1, h2, _⟩
    · have := (h.memf.own i hgi).2.1; omega
    · refine h.memf.apart i b (fun e' => ?_) hgi (hl b h1).1 (by rw [e, h2])
      subst e'; exact (hl i h1).2 hi
  refine ⟨h.ext.trans k.ext, ⟨fun i => ?_, fun i j hij hi hj => ?_, fun i hi => ?_, k.memr.base⟩, h.rest.trans k.rest, fun i hi hgi => ?_, fun i hi hi' hgi => ?_, fun x hxx hno => ?_, fun i hi => ?_⟩
  · by_cases e : n1 ≤ i ∧ i < nf
    · simp only [if_pos e]
      by_cases hd : g i = .dead
      · rw [hd]; trivial
      · refine (h.memf.blk i).keep k.ext (hold i hd).1 (hold i hd).2.1 (k.frame _ (h.memf.own i hd).2.1 fun j hj hl' e' => ?_)
        exact h.memf.apart j i (fun e2 => by subst e2; exact (hl j hl').2 e) (hl j hl').1 hd e'
    · simp only [if_neg e]
      exact k.memr.blk i
  · by_cases e1 : n1 ≤ i ∧ i < nf <;> by_cases e2 : n1 ≤ j ∧ j < nf
    · simp only [if_pos e1] at hi
      simp only [if_pos e2] at hj
      rw [(hold i hi).1, (hold j hj).1]
      exact h.memf.apart i j hij hi hj
    · simp only [if_pos e1] at hi
      simp only [if_neg e2] at hj
      exact cross i j e1 hi hj
    · simp only [if_neg e1] at hi
      simp only [if_pos e2] at hj
      exact (cross j i e2 hj hi).symm
    · simp only [if_neg e1] at hi
      simp only [if_neg e2] at hj
      exact k.memr.apart i j hij hi hj
  · by_cases e : n1 ≤ i ∧ i < nf
    · simp only [if_pos e] at hi
      rw [(hold i hi).1]
      have := h.memf.own i hi
      exact ⟨this.1, Nat.lt_of_lt_of_le this.2.1 k.rest.size, (hold i hi).2.2⟩
    · simp only [if_neg e] at hi
      exact k.memr.own i hi
  · have e : ¬ (n1 ≤ i ∧ i < nf) := fun e => hi (by omega)
    simp only [if_neg e] at hgi
    exact h.dead i hi (hl i (k.dead i (by omega) hgi)).1
  · by_cases e : n1 ≤ i ∧ i < nf
    · simp only [if_pos e] at hgi
      rw [(hold i hgi).1]
      exact h.fresh i hi hi' hgi
    · simp only [if_neg e] at hgi
      rcases later i hgi with h1 | ⟨b, h1, h2, h3⟩
      · have := h.rest.size; exact .inl (by omega)
      · rw [h2]
        refine h.back h0 hlo ?_ (hl b h1).1
        rcases h3 with rfl | h3
        · omega
        · exact h3
  · rw [k.frame x (Nat.lt_of_lt_of_le hxx h.rest.size) fun i hi hl' e => ?_]
    · exact h.frame x hxx hno
    · rcases h.back h0 hlo hi (hl i hl').1 with h1 | ⟨b, h1, h2, h3⟩
      · omega
      · exact hno b h1 h2 (by rw [← h3]; exact e)
  · rcases k.new i hi with h1 | h1
    · exact h.new i h1
    · exact .inr (by omega)
theorem PostF.alloc (h : PostF B n g0 w0 G0 nf g w G lo) {e : Nat} (he : n ≤ e ∧ e < nf) (hal : ¬ G.al e) {ob : Obj} {x : Bk} (hb : BkR (w.alloc ob) (G.put e w.heap.size 0) e x) :
    PostF B n g0 w0 G0 nf (fun b => if b = e then x else g b) (w.alloc ob) (G.put e w.heap.size 0) lo := by
  have hext := Gh.put_ext (i := e) w.heap.size 0 hal
  have hd : g e = .dead := Classical.byContradiction fun hd => hal (h.memf.own e hd).2.2
  have hold : ∀ i, i ≠ e → (G.put e w.heap.size 0).ρ i = G.ρ i ∧ (G.put e w.heap.size 0).κ i = G.κ i := fun i hi => ⟨if_neg hi, if_neg hi⟩
  have hbel : Below w.heap.size w (w.alloc ob) := (Below.refl _ w).alloc (Nat.le_refl _) ob
  have hsz : (w.alloc ob).heap.size = w.heap.size + 1 := by simp
  refine ⟨h.ext.trans hext, ⟨fun i => ?_, fun i j hij hi hj => ?_, fun i hi => ?_, by have := h.memf.base; omega⟩, h.rest.trans (Rest.of hbel), fun i hi hgi => ?_, fun i hi hi' hgi => ?_, fun y hy hno => ?_, fun i hi => ?_⟩
  · by_cases e1 : i = e
    · subst e1; simp only [if_true]; exact hb
    · simp only [if_neg e1]
      by_cases hd' : g i = .dead
      · rw [hd']; trivial
      · exact (h.memf.blk i).keep hext (hold i e1).1 (hold i e1).2 (hbel.block _ (h.memf.own i hd').2.1)
  · by_cases e1 : i = e <;> by_cases e2 : j = e
    · omega
    · subst e1
      simp only [if_neg e2] at hj
      rw [Gh.put_ρ, (hold j e2).1]
      have := (h.memf.own j hj).2.1; omega
    · subst e2
      simp only [if_neg e1] at hi
      rw [Gh.put_ρ, (hold i e1).1]
      have := (h.memf.own i hi).2.1; omega
    · simp only [if_neg e1] at hi
      simp only [if_neg e2] at hj
      rw [(hold i e1).1, (hold j e2).1]
      exact h.memf.apart i j hij hi hj
  · by_cases e1 : i = e
    · subst e1
      rw [Gh.put_ρ]
      exact ⟨h.memf.base, by omega, .inl rfl⟩
    · simp only [if_neg e1] at hi
      rw [(hold i e1).1]
      have := h.memf.own i hi
      exact ⟨this.1, by omega, .inr this.2.2⟩
  · have e1 : i ≠ e := fun e1 => hi (by omega)
    simp only [if_neg e1] at hgi
    exact h.dead i hi hgi
  · by_cases e1 : i = e
    · subst e1; rw [Gh.put_ρ]; exact .inl h.rest.size
    · simp only [if_neg e1] at hgi
      rw [(hold i e1).1]
      exact h.fresh i hi hi' hgi
  · rw [hbel.block y (Nat.lt_of_lt_of_le hy h.rest.size)]
    exact h.frame y hy hno
  · rcases hi with hi | hi
    · exact .inr (by omega)
    · exact h.new i hi
theorem PostF.post {m0 mf : M} (h : PostF B n (M.get m0) w0 G0 nf g w G lo) (hle : n ≤ nf) (hm : ∀ b, M.get mf b = .dead ∨ M.get mf b = g b) : Post B n m0 w0 G0 nf mf w G lo := by
  have hl : ∀ b, live mf b → g b ≠ .dead := fun b hb => by
    rcases hm b with h1 | h1
    · exact absurd h1 hb
    · rw [← h1]; exact hb
  exact ⟨h.ext, h.memf.weaken nf hm, h.rest, hle, fun i hi hv => h.dead i hi (hl i hv), fun i h1 h2 hv => h.fresh i h1 h2 (hl i hv), h.frame, h.new⟩
end
end Go.Proofs.YtbpjinefbnlenaaGreatDoor.E

/- An exact machine, part 18: a region in any order: how it is reckoned, and what holds on the way. -/
namespace Go.Proofs.YtbpjinefbnlenaaGreatDoor.E
open Go Go.RowKit
set_option linter.unusedVariables false

structure It where
  i : Nat
  o : Oper
  ch : Bool
  lo : Nat
structure S where
  hs : List (Nat × Nat × M)
  p : Nat
  ts : T
  n : Nat
  m : M
  v : V
  x : Option Bk
def veq0 (a b : V) : Bool := match a, b with
  | .int k i, .int k' j => kEq k k' && ieq i j
  | .bool x, .bool y => (match x, y with | true, true => true | false, false => true | _, _ => false)
  | .str x, .str y => x == y
  | .ptr b o, .ptr b' o' => Nat.beq b b' && Nat.beq o o'
  | .nilp, .nilp => true
  | .nils, .nils => true
  | .nilm, .nilm => true
  | .nilf, .nilf => true
  | .nili, .nili => true
  | .mp b, .mp b' => Nat.beq b b'
  | .sl b o n c op, .sl b' o' n' c' op' => Nat.beq b b' && (Nat.beq o o' && (Nat.beq n n' && (Nat.beq c c' && (op == op'))))
  | .fn f [], .fn g [] => Nat.beq f g
  | _, _ => false
theorem veq0_ok {a b : V} (h : veq0 a b = true) : a = b := by
  unfold veq0 at h
  split at h <;> first
    | cases h; done
    | rfl
    | skip
  · rw [Bool.and_eq_true, ieq_eq, beq_iff_eq] at h
    rw [kEq_ok h.1, h.2]
  · split at h <;> first | rfl | cases h
  · rw [beq_iff_eq] at h; rw [h]
  · rw [Bool.and_eq_true] at h
    rw [Nat.eq_of_beq_eq_true h.1, Nat.eq_of_beq_eq_true h.2]
  · rw [Nat.eq_of_beq_eq_true h]
  · simp only [Bool.and_eq_true, beq_iff_eq] at h
    obtain ⟨h1, h2, h3, h4, h5⟩ := h
    rw [Nat.eq_of_beq_eq_true h1, Nat.eq_of_beq_eq_true h2, Nat.eq_of_beq_eq_true h3, Nat.eq_of_beq_eq_true h4, h5]
  · rw [Nat.eq_of_beq_eq_true h]
def veqL : List V → List V → Bool
  | [], [] => true
  | a :: l, b :: m => veq0 a b && veqL l m
  | _, _ => false
theorem veqL_ok : ∀ {l m : List V}, veqL l m = true → l = m
  | [], [], _ => rfl
  | a :: l, b :: m, h => by
    simp only [veqL, Bool.and_eq_true] at h
    rw [veq0_ok h.1, veqL_ok h.2]
  | [], _ :: _, h => by cases h
  | _ :: _, [], h => by cases h
def veq (a b : V) : Bool := match a, b with
  | .agg l, .agg m => veqL l m
  | .tup l, .tup m => veqL l m
  | a, b => veq0 a b
theorem veq_ok {a b : V} (h : veq a b = true) : a = b := by
  unfold veq at h
  split at h
  · rw [veqL_ok h]
  · rw [veqL_ok h]
  · exact veq0_ok h
noncomputable def chk1 (op : Op) (lo : Nat) (P : Program) (call : CallT) (fl : Nat) (ts : T) (b : Nat) (v : V) (h : Nat × Nat × M) : Bool :=
  match Nat.ble lo h.1 with
  | false => true
  | true => match evR op P call fl ts h.2.1 h.2.2 with
    | .load b' v' => Nat.beq b' b && veq v' v
    | _ => false
noncomputable def chkL (op : Op) (lo : Nat) (P : Program) (call : CallT) (fl : Nat) (ts : T) (b : Nat) (v : V) (l : List (Nat × Nat × M)) : Bool := l.all (chk1 op lo P call fl ts b v)
noncomputable def nxS (it : It) (s : S) (v : V) (n : Nat) (m : M) (x : Option Bk) : S :=
  { hs := match it.ch with | true => (s.p + 1, n, m) :: s.hs | false => s.hs, p := s.p + 1, ts := put1 it.o.dst s.ts v, n := n, m := m, v := v, x := x }
/-- a block that was made behind the last link of the chain -/
def frs (s : S) (b : Nat) : Bool := match s.hs with | h :: _ => Nat.ble h.2.1 b && Nat.blt b s.n | [] => false
noncomputable def goS (it : It) (P : Program) (call : CallT) (fl : Nat) (s : S) : Option S :=
  match it.ch with
  | true => match toR fl s.n s.m (evR it.o.op P call fl s.ts s.n s.m) with
    | .ok v n m => some (nxS it s v n m none)
    | .fail => none
  | false => match evR it.o.op P call fl s.ts s.n s.m with
    | .pure v => some (nxS it s v s.n s.m none)
    | .load b v => (match frs s b || chkL it.o.op it.lo P call fl s.ts b v s.hs.tail with | true => some (nxS it s v s.n s.m none) | false => none)
    | .alloc v x => some (nxS it s v (s.n + 1) (M.set s.m s.n x) (some x))
    | _ => none
noncomputable def stD (all : List Oper) (it : It) (P : Program) (call : CallT) (fl : Nat) (s : S) : Option S :=
  match it.o.guard with
  | none => goS it P call fl s
  | some g => match gd all s.ts g with
    | some true => goS it P call fl s
    | some false => some (nxS it s (.tup []) s.n s.m none)
    | none => none
noncomputable def evL (all : List Oper) (P : Program) (call : CallT) (fl : Nat) (l : List It) : S → Option S := List.rec some (fun it _ ih s => Option.rec none ih (stD all it P call fl s)) l
theorem evL_append (all : List Oper) (P : Program) (call : CallT) (fl : Nat) : ∀ (l r : List It) (s : S), evL all P call fl (l ++ r) s = (evL all P call fl l s).bind (evL all P call fl r)
  | [], r, s => rfl
  | it :: l, r, s => by
    show Option.rec (motive := fun _ => Option S) none (evL all P call fl (l ++ r)) (stD all it P call fl s) = (Option.rec (motive := fun _ => Option S) none (evL all P call fl l) (stD all it P call fl s)).bind _
    cases stD all it P call fl s with
    | none => rfl
    | some s' => exact evL_append all P call fl l r s'
/-- is the guard met? -/
def Met (all : List Oper) (ts : T) (o : Oper) : Prop := o.guard = none ∨ ∃ g, o.guard = some g ∧ gd all ts g = some true
theorem stD_ok {all : List Oper} {it : It} {P : Program} {call : CallT} {fl : Nat} {s s' : S} (h : stD all it P call fl s = some s') :
    s'.p = s.p + 1 ∧ s'.ts = put1 it.o.dst s.ts s'.v ∧ s'.hs = (match it.ch with | true => (s.p + 1, s'.n, s'.m) :: s.hs | false => s.hs) ∧
    ((∃ g, it.o.guard = some g ∧ gd all s.ts g = some false ∧ s'.v = .tup [] ∧ s'.n = s.n ∧ s'.m = s.m ∧ s'.x = none) ∨
     (Met all s.ts it.o ∧
      ((it.ch = true ∧ s'.x = none ∧ toR fl s.n s.m (evR it.o.op P call fl s.ts s.n s.m) = .ok s'.v s'.n s'.m) ∨
       (it.ch = false ∧ s'.x = none ∧ s'.n = s.n ∧ s'.m = s.m ∧ (evR it.o.op P call fl s.ts s.n s.m = .pure s'.v ∨ ∃ b, evR it.o.op P call fl s.ts s.n s.m = .load b s'.v ∧ (frs s b || chkL it.o.op it.lo P call fl s.ts b s'.v s.hs.tail) = true)) ∨
       (it.ch = false ∧ ∃ x, s'.x = some x ∧ evR it.o.op P call fl s.ts s.n s.m = .alloc s'.v x ∧ s'.n = s.n + 1 ∧ s'.m = M.set s.m s.n x)))) := by
  have go : ∀ s', goS it P call fl s = some s' → s'.p = s.p + 1 ∧ s'.ts = put1 it.o.dst s.ts s'.v ∧ s'.hs = (match it.ch with | true => (s.p + 1, s'.n, s'.m) :: s.hs | false => s.hs) ∧
      ((it.ch = true ∧ s'.x = none ∧ toR fl s.n s.m (evR it.o.op P call fl s.ts s.n s.m) = .ok s'.v s'.n s'.m) ∨
       (it.ch = false ∧ s'.x = none ∧ s'.n = s.n ∧ s'.m = s.m ∧ (evR it.o.op P call fl s.ts s.n s.m = .pure s'.v ∨ ∃ b, evR it.o.op P call fl s.ts s.n s.m = .load b s'.v ∧ (frs s b || chkL it.o.op it.lo P call fl s.ts b s'.v s.hs.tail) = true)) ∨
       (it.ch = false ∧ ∃ x, s'.x = some x ∧ evR it.o.op P call fl s.ts s.n s.m = .alloc s'.v x ∧ s'.n = s.n + 1 ∧ s'.m = M.set s.m s.n x)) := by
    intro s' h
    unfold goS at h
    split at h
    · rename_i hch
      split at h
      · rename_i v n m hr
        obtain rfl := Option.some.inj h
        exact ⟨rfl, rfl, by simp only [nxS]; rw [hch], .inl ⟨hch, rfl, hr⟩⟩
      · cases h
    · rename_i hch
      split at h
      · rename_i v hr
        obtain rfl := Option.some.inj h
        exact ⟨rfl, rfl, by simp only [nxS]; rw [hch], .inr (.inl ⟨hch, rfl, rfl, rfl, .inl hr⟩)⟩
      · rename_i b v hr
        split at h
        · rename_i hk
          obtain rfl := Option.some.inj h
          exact ⟨rfl, rfl, by simp only [nxS]; rw [hch], .inr (.inl ⟨hch, rfl, rfl, rfl, .inr ⟨b, hr, hk⟩⟩)⟩
        · cases h
      · rename_i v x hr
        obtain rfl := Option.some.inj h
        exact ⟨rfl, rfl, by simp only [nxS]; rw [hch], .inr (.inr ⟨hch, x, rfl, hr, rfl, rfl⟩)⟩
      · cases h
  unfold stD at h
  split at h
  · rename_i hg
    obtain ⟨h1, h2, h3, h4⟩ := go s' h
    exact ⟨h1, h2, h3, .inr ⟨.inl hg, h4⟩⟩
  · rename_i g hg
    split at h
    · rename_i hgd
      obtain ⟨h1, h2, h3, h4⟩ := go s' h
      exact ⟨h1, h2, h3, .inr ⟨.inr ⟨g, hg, hgd⟩, h4⟩⟩
    · rename_i hgd
      obtain rfl := Option.some.inj h
      exact ⟨rfl, rfl, rfl, .inl ⟨g, hg, hgd, rfl, rfl, rfl, rfl⟩⟩
    · cases h
/-! the plan -/
/-- what an operation reads -/
noncomputable def rds (all : List Oper) (o : Oper) : List Tmp :=
  (o.op.operands.toList.filterMap fun x => match x with | .tmp t => some t | _ => none) ++ (match o.guard with | some g => (dstOf all g.1).toList | none => [])
structure Plan (arr : Array Oper) (bef : Nat → Nat → Bool) (its : List It) : Prop where
  op : ∀ (p : Nat) (it : It), its[p]? = some it → arr[it.i]? = some it.o
  all : ∀ i, i < arr.size → ∃ (p : Nat) (it : It), its[p]? = some it ∧ it.i = i
  inj : ∀ (p p' : Nat) (it it' : It), its[p]? = some it → its[p']? = some it' → it.i = it'.i → p = p'
  edge : ∀ (p : Nat) (it : It) (j : Nat), its[p]? = some it → bef it.i j = true → ∃ (p' : Nat) (it' : It), p' < p ∧ its[p']? = some it' ∧ it'.i = j
  chain : ∀ (p : Nat) (it : It), its[p]? = some it → it.ch = true → ∀ (p' : Nat) (it' : It), p' < p → its[p']? = some it' → bef it.i it'.i = true
  dst : ∀ (p p' : Nat) (it it' : It) (d : Tmp), its[p]? = some it → its[p']? = some it' → it.o.dst = some d → it'.o.dst = some d → p = p'
  rd : ∀ (p p' : Nat) (it it' : It) (d : Tmp), its[p]? = some it → its[p']? = some it' → it'.o.dst = some d → d ∈ rds arr.toList it.o → bef it.i it'.i = true ∨ bef it'.i it.i = true ∨ p = p'
  lo : ∀ (p : Nat) (it : It), its[p]? = some it → it.lo = 0 ∨ ∃ (p' : Nat) (it' : It), it.lo = p' + 1 ∧ its[p']? = some it' ∧ it'.ch = true ∧ bef it.i it'.i = true
/-- the run that is reckoned -/
structure Run (P : Program) (call : CallT) (fl : Nat) (arr : Array Oper) (its : List It) (st : Nat → S) (ts0 : T) (n0 : Nat) (m0 : M) : Prop where
  zero : st 0 = { hs := [(0, n0, m0)], p := 0, ts := ts0, n := n0, m := m0, v := .unk, x := none }
  step : ∀ (p : Nat) (it : It), its[p]? = some it → stD arr.toList it P call fl (st p) = some (st (p + 1))
section
variable {P : Program} {call : CallT} {fl : Nat} {arr : Array Oper} {its : List It} {st : Nat → S} {ts0 : T} {n0 : Nat} {m0 : M}
theorem Run.le1 (hc : CallOK P call) (h : Run P call fl arr its st ts0 n0 m0) {p : Nat} {it : It} (hp : its[p]? = some it) : (st p).n ≤ (st (p + 1)).n := by
  obtain ⟨_, _, _, h4⟩ := stD_ok (h.step p it hp)
  rcases h4 with ⟨g, _, _, _, h5, _⟩ | ⟨_, h5 | h5 | h5⟩
  · omega
  · exact (toR_ok (evR_ok hc it.o (st p).ts fl (st p).n (st p).m) h5.2.2).1
  · omega
  · obtain ⟨_, x, _, _, h6, _⟩ := h5; omega
theorem Run.le (hc : CallOK P call) (h : Run P call fl arr its st ts0 n0 m0) : ∀ {p q : Nat}, q ≤ p → p ≤ its.length → (st q).n ≤ (st p).n
  | 0, q, hq, _ => by obtain rfl : q = 0 := by omega
                      exact Nat.le_refl _
  | p + 1, q, hq, hp => by
    rcases Nat.lt_or_ge q (p + 1) with h1 | h1
    · have hlt : p < its.length := by omega
      exact Nat.le_trans (Run.le hc h (by omega : q ≤ p) (by omega)) (h.le1 hc (List.getElem?_eq_getElem hlt))
    · obtain rfl : q = p + 1 := by omega
      exact Nat.le_refl _
theorem Run.pos (h : Run P call fl arr its st ts0 n0 m0) : ∀ {p : Nat}, p ≤ its.length → (st p).p = p
  | 0, _ => by rw [h.zero]
  | p + 1, hp => by
    have hlt : p < its.length := by omega
    obtain ⟨h1, _⟩ := stD_ok (h.step p _ (List.getElem?_eq_getElem hlt))
    rw [h1, Run.pos h (by omega)]
theorem Run.allocs (h : Run P call fl arr its st ts0 n0 m0) {p : Nat} {it : It} {x : Bk} (hp : its[p]? = some it) (hx : (st (p + 1)).x = some x) : (st (p + 1)).n = (st p).n + 1 ∧ it.ch = false := by
  obtain ⟨_, _, _, h4⟩ := stD_ok (h.step p it hp)
  rcases h4 with ⟨g, _, _, _, _, _, h5⟩ | ⟨_, h5 | h5 | h5⟩
  · rw [h5] at hx; cases hx
  · rw [h5.2.1] at hx; cases hx
  · rw [h5.2.1] at hx; cases hx
  · obtain ⟨h6, x', _, _, h7, _⟩ := h5; exact ⟨h7, h6⟩
/-- two allocations have two names -/
theorem Run.two (hc : CallOK P call) (h : Run P call fl arr its st ts0 n0 m0) {p p' : Nat} {it it' : It} {x x' : Bk} (hp : its[p]? = some it) (hp' : its[p']? = some it') (hx : (st (p + 1)).x = some x) (hx' : (st (p' + 1)).x = some x') (e : (st p).n = (st p').n) : p = p' := by
  have l1 : p < its.length := (List.getElem?_eq_some_iff.1 hp).1
  have l2 : p' < its.length := (List.getElem?_eq_some_iff.1 hp').1
  have a1 := (h.allocs hp hx).1
  have a2 := (h.allocs hp' hx').1
  rcases Nat.lt_trichotomy p p' with h1 | h1 | h1
  · have := h.le hc (show p + 1 ≤ p' from h1) (by omega); omega
  · exact h1
  · have := h.le hc (show p' + 1 ≤ p from h1) (by omega); omega
/-- without a link of the chain the memory only grows -/
theorem Run.noch (hc : CallOK P call) (h : Run P call fl arr its st ts0 n0 m0) {q : Nat} : ∀ {p : Nat}, q ≤ p → p ≤ its.length → (∀ (r : Nat) (it : It), q ≤ r → r < p → its[r]? = some it → it.ch = false) → ∀ b,
    M.get (st p).m b = .dead ∨ M.get (st p).m b = M.get (st q).m b ∨ ∃ (r : Nat) (it : It), q ≤ r ∧ r < p ∧ its[r]? = some it ∧ (st (r + 1)).x = some (M.get (st p).m b) ∧ (st r).n = b
  | 0, hq, _, _, b => by obtain rfl : q = 0 := by omega
                         exact .inr (.inl rfl)
  | p + 1, hq, hp, hno, b => by
    rcases Nat.lt_or_ge q (p + 1) with h1 | h1
    · have hlt : p < its.length := by omega
      have hp' := List.getElem?_eq_getElem hlt
      have ih := Run.noch hc h (by omega : q ≤ p) (by omega) (fun r it a1 a2 a3 => hno r it a1 (by omega) a3) b
      obtain ⟨_, _, _, h4⟩ := stD_ok (h.step p _ hp')
      have same : (st (p + 1)).m = (st p).m → (M.get (st (p + 1)).m b = .dead ∨ M.get (st (p + 1)).m b = M.get (st q).m b ∨ ∃ (r : Nat) (it : It), q ≤ r ∧ r < p + 1 ∧ its[r]? = some it ∧ (st (r + 1)).x = some (M.get (st (p + 1)).m b) ∧ (st r).n = b) := by
        intro e
        rw [e]
        rcases ih with h5 | h5 | ⟨r, it, b1, b2, b3⟩
        · exact .inl h5
        · exact .inr (.inl h5)
        · exact .inr (.inr ⟨r, it, b1, by omega, b3⟩)
      rcases h4 with ⟨g, _, _, _, _, h5, _⟩ | ⟨_, h5 | h5 | h5⟩
      · exact same h5
      · have := hno p _ (by omega) (by omega) hp'; rw [h5.1] at this; cases this
      · exact same h5.2.2.2.1
      · obtain ⟨_, x, h6, _, h7, h8⟩ := h5
        by_cases e : b = (st p).n
        · subst e
          rw [h8]
          rcases M.get_self (st p).m (st p).n x with h9 | h9
          · exact .inr (.inr ⟨p, _, by omega, by omega, hp', by rw [h9, h6], rfl⟩)
          · exact .inl h9
        · have e2 : M.get (st (p + 1)).m b = M.get (st p).m b := by rw [h8]; exact M.get_set _ _ _ _ e
          rw [e2]
          rcases ih with h9 | h9 | ⟨r, it, b1, b2, b3⟩
          · exact .inl h9
          · exact .inr (.inl h9)
          · exact .inr (.inr ⟨r, it, b1, by omega, b3⟩)
    · obtain rfl : q = p + 1 := by omega
      exact .inr (.inl rfl)
/-- a temporary on the way -/
theorem Run.tmp (h : Run P call fl arr its st ts0 n0 m0) (t : Tmp) : ∀ {p : Nat}, p ≤ its.length →
    T.get (st p).ts t = .unk ∨ (∃ (r : Nat) (it : It), r < p ∧ its[r]? = some it ∧ it.o.dst = some t ∧ T.get (st p).ts t = (st (r + 1)).v) ∨ ((∀ (r : Nat) (it : It), r < p → its[r]? = some it → it.o.dst ≠ some t) ∧ T.get (st p).ts t = T.get ts0 t)
  | 0, _ => by
    refine .inr (.inr ⟨fun r it hr => absurd hr (by omega), ?_⟩)
    rw [h.zero]
  | p + 1, hp => by
    have hlt : p < its.length := by omega
    have hp' := List.getElem?_eq_getElem hlt
    have ih := Run.tmp h t (p := p) (by omega)
    obtain ⟨_, h2, _⟩ := stD_ok (h.step p _ hp')
    by_cases e : (its[p]'hlt).o.dst = some t
    · have e2 : (st (p + 1)).ts = T.set (st p).ts t (st (p + 1)).v := by rw [h2, e]; rfl
      rcases Tr.get_self V.unk (st p).ts t (st (p + 1)).v with h3 | h3
      · exact .inr (.inl ⟨p, _, by omega, hp', e, by rw [e2]; exact h3⟩)
      · exact .inl (by rw [e2]; exact h3)
    · have e2 : T.get (st (p + 1)).ts t = T.get (st p).ts t := by
        rw [h2]
        cases hd : (its[p]'hlt).o.dst with
        | none => rfl
        | some d =>
          refine Tr.get_set V.unk (st p).ts d t _ fun e3 => e ?_
          rw [hd, e3]
      rw [e2]
      rcases ih with h3 | ⟨r, it, b1, b2⟩ | ⟨h3, h4⟩
      · exact .inl h3
      · exact .inr (.inl ⟨r, it, by omega, b2⟩)
      · refine .inr (.inr ⟨fun r it hr hi => ?_, h4⟩)
        rcases Nat.lt_or_ge r p with h5 | h5
        · exact h3 r it h5 hi
        · obtain rfl : r = p := by omega
          rw [hp'] at hi
          obtain rfl := Option.some.inj hi
          exact e
/-- where a link of the chain has just been done -/
def Bd (its : List It) (q : Nat) : Prop := q = 0 ∨ ∃ (r : Nat) (it : It), q = r + 1 ∧ its[r]? = some it ∧ it.ch = true
theorem Run.hist (h : Run P call fl arr its st ts0 n0 m0) : ∀ {p : Nat}, p ≤ its.length → ∃ ql tl, (st p).hs = (ql, (st ql).n, (st ql).m) :: tl ∧ ql ≤ p ∧ (∀ (r : Nat) (it : It), ql ≤ r → r < p → its[r]? = some it → it.ch = false) ∧
    ∀ q, q ≤ p → Bd its q → q ≠ ql → (q, (st q).n, (st q).m) ∈ tl
  | 0, _ => ⟨0, [], by rw [h.zero], Nat.le_refl _, fun r it _ hr => absurd hr (by omega), fun q hq _ hne => absurd (Nat.le_zero.1 hq) hne⟩
  | p + 1, hp => by
    have hlt : p < its.length := by omega
    have hp' := List.getElem?_eq_getElem hlt
    obtain ⟨ql, tl, i1, i2, i3, i4⟩ := Run.hist h (p := p) (by omega)
    obtain ⟨h1, _, h3, _⟩ := stD_ok (h.step p _ hp')
    cases hch : (its[p]'hlt).ch with
    | true =>
      rw [hch] at h3
      simp only at h3
      rw [h.pos (by omega)] at h3
      refine ⟨p + 1, (ql, (st ql).n, (st ql).m) :: tl, by rw [h3, i1], Nat.le_refl _, fun r it h5 h6 => absurd h6 (by omega), fun q hq hb hne => ?_⟩
      by_cases e : q = ql
      · subst e; exact List.mem_cons_self
      · exact List.mem_cons_of_mem _ (i4 q (by omega) hb e)
    | false =>
      rw [hch] at h3
      simp only at h3
      refine ⟨ql, tl, by rw [h3, i1], by omega, fun r it h5 h6 h7 => ?_, fun q hq hb hne => ?_⟩
      · rcases Nat.lt_or_ge r p with h8 | h8
        · exact i3 r it h5 h8 h7
        · obtain rfl : r = p := by omega
          rw [hp'] at h7
          obtain rfl := Option.some.inj h7
          exact hch
      · refine i4 q ?_ hb hne
        rcases Nat.lt_or_ge q (p + 1) with h8 | h8
        · omega
        · obtain rfl : q = p + 1 := by omega
          rcases hb with h9 | ⟨r, it, h9, h10, h11⟩
          · omega
          · obtain rfl : r = p := by omega
            rw [hp'] at h10
            obtain rfl := Option.some.inj h10
            rw [hch] at h11; cases h11
end
end Go.Proofs.YtbpjinefbnlenaaGreatDoor.E

/- An exact machine, part 19: a region in any order: each turn. -/
namespace Go.Proofs.YtbpjinefbnlenaaGreatDoor.E
open Go Go.RowKit
set_option linter.unusedVariables false

structure Jq (B fl nf nt : Nat) (w0 : World) (G0 : Gh) (ts0 : T) (n0 : Nat) (m0 : M) (its : List It) (st : Nat → S) (D : Nat → Bool) (a : Act) (w : World) (q : Nat) (G : Gh) (g : Nat → Bk) : Prop where
  q1 : q ≤ its.length
  bd : Bd its q
  done : ∀ (p : Nat) (it : It), p < q → its[p]? = some it → D it.i = true
  noch : ∀ (p : Nat) (it : It), q ≤ p → its[p]? = some it → D it.i = true → it.ch = false
  post : PostF B n0 (M.get m0) w0 G0 nf g w G fl
  g1 : ∀ b, ¬ ((st q).n ≤ b ∧ b < nf) → g b = M.get (st q).m b
  g3 : ∀ (p : Nat) (it : It) (x : Bk), q ≤ p → its[p]? = some it → D it.i = true → (st (p + 1)).x = some x → g (st p).n = x
  z : ∀ b, (st q).n ≤ b → b < nf → M.get (st q).m b = .dead
  al : ∀ b, G.al b → (st q).n ≤ b → b < nf → ∃ (p : Nat) (it : It) (x : Bk), q ≤ p ∧ its[p]? = some it ∧ D it.i = true ∧ (st (p + 1)).x = some x ∧ (st p).n = b
  t1 : ∀ (p : Nat) (it : It) (d : Tmp), its[p]? = some it → D it.i = true → it.o.dst = some d → CR G (st (p + 1)).v (a.tmps.getD d undef)
  t2 : ∀ t, (∀ (p : Nat) (it : It), its[p]? = some it → D it.i = true → it.o.dst ≠ some t) → CR G (T.get ts0 t) (a.tmps.getD t undef)
  size : a.tmps.size = nt
  dfs : a.defers = []
theorem gd_ok' {G : Gh} {arr : Array Oper} {ts : T} {a : Act} {o : Oper} {g : Nat × Bool} {b : Bool} (ht : ∀ d, dstOf arr.toList g.1 = some d → CR G (T.get ts d) (a.tmps.getD d undef)) (hg : o.guard = some g) (h : gd arr.toList ts g = some b) : Region.wanted o (yielded arr a.tmps) = b := by
  obtain ⟨i, want⟩ := g
  have h : Option.rec (motive := fun _ => Option Bool) none (fun d => gV want (T.get ts d)) (dstOf arr.toList i) = some b := h
  have ht : ∀ d, dstOf arr.toList i = some d → CR G (T.get ts d) (a.tmps.getD d undef) := ht
  rw [dstOf_eq] at h ht
  have e : arr.toList[i]? = arr[i]? := by simp
  rw [e] at h ht
  unfold Region.wanted
  rw [hg]
  simp only
  unfold yielded
  cases hd : (arr[i]?).bind (·.dst) with
  | none => rw [hd] at h; cases h
  | some d =>
    have hv := ht d hd
    rw [hd] at h
    have h : gV want (T.get ts d) = some b := h
    simp only [Option.bind_some]
    unfold gV at h
    split at h
    · rename_i x e1
      rw [e1] at hv
      have e2 := i_bool hv
      have hlt : d < a.tmps.size := by
        rcases Nat.lt_or_ge d a.tmps.size with h' | h'
        · exact h'
        · simp [Array.getD, Nat.not_lt.2 h', undef] at e2
      have e3 : a.tmps[d]? = some (.bool x) := by
        rw [← e2]; simp [hlt]
      rw [e3]
      have h := Option.some.inj h
      rw [← h]
      cases x <;> cases want <;> rfl
    · rename_i l e1
      rw [e1] at hv
      obtain ⟨cs, e2⟩ : ∃ cs, a.tmps.getD d undef = .tuple cs := by
        generalize a.tmps.getD d undef = u at hv
        cases hv; exact ⟨_, rfl⟩
      have h := Option.some.inj h
      rw [← h]
      cases h3 : a.tmps[d]? with
      | none => rfl
      | some u =>
        have : a.tmps.getD d undef = u := by simp [Array.getD_eq_getD_getElem?, h3]
        rw [this] at e2
        subst e2
        rfl
    · cases h
section
variable {P : Program} {call : CallT} {arr : Array Oper} {bef : Nat → Nat → Bool} {B fl nf nt : Nat} {w0 w : World} {G0 G : Gh} {ts0 : T} {n0 : Nat} {m0 : M} {its : List It} {st : Nat → S} {D : Nat → Bool} {a : Act} {q : Nat} {g : Nat → Bk} {p : Nat} {it : It}
theorem Jq.ge (h : Jq B fl nf nt w0 G0 ts0 n0 m0 its st D a w q G g) (hp : its[p]? = some it) (hD : D it.i = false) : q ≤ p := by
  rcases Nat.lt_or_ge p q with h1 | h1
  · have := h.done p it h1 hp; rw [hD] at this; cases this
  · exact h1
/-- the machine's memory on the way lies in what there is -/
theorem Jq.sub (h : Jq B fl nf nt w0 G0 ts0 n0 m0 its st D a w q G g) (hc : CallOK P call) (hr : Run P call fl arr its st ts0 n0 m0) {p : Nat} (hp : p ≤ its.length) (hqp : q ≤ p) (hall : ∀ (r : Nat) (it : It), r < p → its[r]? = some it → D it.i = true) : ∀ b, M.get (st p).m b = .dead ∨ M.get (st p).m b = g b := by
  intro b
  rcases hr.noch hc hqp hp (fun r it h1 h2 h3 => h.noch r it h1 h3 (hall r it h2 h3)) b with h1 | h1 | ⟨r, it, h1, h2, h3, h4, h5⟩
  · exact .inl h1
  · by_cases e : (st q).n ≤ b ∧ b < nf
    · exact .inl (by rw [h1]; exact h.z b e.1 e.2)
    · exact .inr (by rw [h1, h.g1 b e])
  · exact .inr (by rw [← h5]; rw [← h5] at h4; exact (h.g3 r it _ h1 h3 (hall r it h2 h3) h4).symm)
/-- what is read is what the machine reads -/
theorem Jq.read (h : Jq B fl nf nt w0 G0 ts0 n0 m0 its st D a w q G g) (hpl : Plan arr bef its) (hr : Run P call fl arr its st ts0 n0 m0) (hp : its[p]? = some it) (hD : D it.i = false) (hb : ∀ j, bef it.i j = true → D j = true) (hcl : ∀ k j, D k = true → bef k j = true → D j = true) {t : Tmp} (ht : t ∈ rds arr.toList it.o) : CR G (T.get (st p).ts t) (a.tmps.getD t undef) := by
  have hlt : p < its.length := (List.getElem?_eq_some_iff.1 hp).1
  -- an operation that is ahead of another stands ahead of it
  have ahead : ∀ (r r' : Nat) (ir ir' : It), its[r]? = some ir → its[r']? = some ir' → bef ir.i ir'.i = true → r' < r := fun r r' ir ir' h1 h2 h3 => by
    obtain ⟨s, is, h4, h5, h6⟩ := hpl.edge r ir _ h1 h3
    have := hpl.inj s r' is ir' h5 h2 h6
    omega
  rcases hr.tmp t (p := p) (by omega) with h1 | ⟨r, ir, h1, h2, h3, h4⟩ | ⟨h1, h2⟩
  · rw [h1]; exact .unk _
  · rw [h4]
    refine h.t1 r ir t h2 ?_ h3
    rcases hpl.rd p r it ir t hp h2 h3 ht with h5 | h5 | h5
    · exact hb _ h5
    · have := ahead r p ir it h2 hp h5; omega
    · omega
  · rw [h2]
    refine h.t2 t fun r ir h3 h4 h5 => ?_
    rcases hpl.rd p r it ir t hp h3 h5 ht with h6 | h6 | h6
    · exact h1 r ir (ahead p r it ir hp h3 h6) h3 h5
    · have := hcl _ _ h4 h6; rw [hD] at this; cases this
    · subst h6
      rw [hp] at h3
      obtain rfl := Option.some.inj h3
      rw [hD] at h4; cases h4
theorem Jq.orel (h : Jq B fl nf nt w0 G0 ts0 n0 m0 its st D a w q G g) (hpl : Plan arr bef its) (hr : Run P call fl arr its st ts0 n0 m0) (hp : its[p]? = some it) (hD : D it.i = false) (hb : ∀ j, bef it.i j = true → D j = true) (hcl : ∀ k j, D k = true → bef k j = true → D j = true) : ORel G it.o.op (st p).ts a := by
  intro x hx
  cases x with
  | tmp t => exact h.read hpl hr hp hD hb hcl (List.mem_append_left _ (List.mem_filterMap.2 ⟨.tmp t, hx, rfl⟩))
  | const v => exact cv_ok G v
  | func f => exact .fn f [] [] rfl (fun i => .unk _)
  | global k => exact .unk _
/-- the temporaries after a turn -/
theorem Jq.temps (h : Jq B fl nf nt w0 G0 ts0 n0 m0 its st D a w q G g) (hpl : Plan arr bef its) (hp : its[p]? = some it) (hd : dstOk nt it.o.dst = true) {G' : Gh} (he : Ext G G') {x : Value} (hx : CR G' (st (p + 1)).v x) :
    (∀ (r : Nat) (ir : It) (d : Tmp), its[r]? = some ir → updB D it.i ir.i = true → ir.o.dst = some d → CR G' (st (r + 1)).v ((a.put it.o.dst x).tmps.getD d undef)) ∧
    (∀ t, (∀ (r : Nat) (ir : It), its[r]? = some ir → updB D it.i ir.i = true → ir.o.dst ≠ some t) → CR G' (T.get ts0 t) ((a.put it.o.dst x).tmps.getD t undef)) ∧ (a.put it.o.dst x).tmps.size = nt ∧ (a.put it.o.dst x).defers = [] := by
  have keep : ∀ t, it.o.dst ≠ some t → (a.put it.o.dst x).tmps.getD t undef = a.tmps.getD t undef := fun t ht => by
    cases e : it.o.dst with
    | none => rfl
    | some d =>
      have : d ≠ t := fun e2 => ht (by rw [e, e2])
      simp [Act.put, Array.getD_eq_getD_getElem?, Array.getElem?_setIfInBounds_ne this]
  refine ⟨fun r ir d h1 h2 h3 => ?_, fun t ht => ?_, ?_, ?_⟩
  · by_cases e : r = p
    · subst e
      rw [hp] at h1
      obtain rfl := Option.some.inj h1
      have hlt : d < a.tmps.size := by rw [h.size]; rw [h3] at hd; exact Nat.le_of_ble_eq_true hd
      have : (a.put it.o.dst x).tmps.getD d undef = x := by
        rw [h3]; simp [Act.put, hlt]
      rw [this]; exact hx
    · have h4 : it.o.dst ≠ some d := fun e2 => e (hpl.dst r p ir it d h1 hp h3 e2)
      rw [keep d h4]
      refine (h.t1 r ir d h1 ?_ h3).ext he
      unfold updB at h2
      split at h2
      · rename_i e2; exact absurd (hpl.inj r p ir it h1 hp e2) e
      · exact h2
  · have h4 : it.o.dst ≠ some t := ht p it hp (by unfold updB; rw [if_pos rfl])
    rw [keep t h4]
    refine (h.t2 t fun r ir h1 h2 => ht r ir h1 ?_).ext he
    unfold updB; split
    · rfl
    · exact h2
  · cases it.o.dst <;> simp [Act.put, h.size]
  · rw [put_defers]; exact h.dfs
theorem upd_mono (i : Nat) {j : Nat} (h : D j = true) : updB D i j = true := by unfold updB; split <;> trivial
/-- a turn that leaves the memory as it is -/
theorem Jq.quiet (h : Jq B fl nf nt w0 G0 ts0 n0 m0 its st D a w q G g) (hpl : Plan arr bef its) (hp : its[p]? = some it) (hD : D it.i = false) (hd : dstOk nt it.o.dst = true) (hch : it.ch = false) (hxn : (st (p + 1)).x = none) {x : Value} (hx : CR G (st (p + 1)).v x) :
    Jq B fl nf nt w0 G0 ts0 n0 m0 its st (updB D it.i) (a.put it.o.dst x) w q G g := by
  obtain ⟨k1, k2, k3, k4⟩ := h.temps hpl hp hd (Ext.refl G) hx
  have old : ∀ (r : Nat) (ir : It), its[r]? = some ir → updB D it.i ir.i = true → r = p ∨ D ir.i = true := fun r ir h1 h2 => by
    unfold updB at h2
    split at h2
    · rename_i e; exact .inl (hpl.inj r p ir it h1 hp e)
    · exact .inr h2
  refine ⟨h.q1, h.bd, fun r ir h1 h2 => upd_mono _ (h.done r ir h1 h2), fun r ir h1 h2 h3 => ?_, h.post, h.g1, fun r ir y h1 h2 h3 h4 => ?_, h.z, fun b h1 h2 h3 => ?_, k1, k2, k3, k4⟩
  · rcases old r ir h2 h3 with rfl | h4
    · rw [hp] at h2; obtain rfl := Option.some.inj h2; exact hch
    · exact h.noch r ir h1 h2 h4
  · rcases old r ir h2 h3 with rfl | h5
    · rw [hxn] at h4; cases h4
    · exact h.g3 r ir y h1 h2 h5 h4
  · obtain ⟨r, ir, y, h4, h5, h6, h7⟩ := h.al b h1 h2 h3
    exact ⟨r, ir, y, h4, h5, upd_mono _ h6, h7⟩
/-- a turn that makes a block -/
theorem Jq.alloc (h : Jq B fl nf nt w0 G0 ts0 n0 m0 its st D a w q G g) (hpl : Plan arr bef its) (hc : CallOK P call) (hr : Run P call fl arr its st ts0 n0 m0) (hnf : (st its.length).n ≤ nf) (hn0 : n0 ≤ (st q).n) (hp : its[p]? = some it) (hD : D it.i = false) (hd : dstOk nt it.o.dst = true) (hch : it.ch = false) {y : Bk} (hy : (st (p + 1)).x = some y) :
    ¬ G.al (st p).n ∧ ∀ (ob : Obj) (x : Value), BkR (w.alloc ob) (G.put (st p).n w.heap.size 0) (st p).n y → CR (G.put (st p).n w.heap.size 0) (st (p + 1)).v x →
    Jq B fl nf nt w0 G0 ts0 n0 m0 its st (updB D it.i) (a.put it.o.dst x) (w.alloc ob) q (G.put (st p).n w.heap.size 0) (fun b => if b = (st p).n then y else g b) := by
  have hlt : p < its.length := (List.getElem?_eq_some_iff.1 hp).1
  have hqp := h.ge hp hD
  have hnq := hr.le hc hqp (by omega)
  have hn1 := hr.le hc (show p + 1 ≤ its.length from hlt) (Nat.le_refl _)
  have hone := (hr.allocs hp hy).1
  have hna : ¬ G.al (st p).n := fun ha => by
    obtain ⟨r, ir, z, h4, h5, h6, h7, h8⟩ := h.al _ ha hnq (by omega)
    obtain rfl := hr.two hc h5 hp h7 hy h8
    rw [hp] at h5
    obtain rfl := Option.some.inj h5
    rw [hD] at h6; cases h6
  refine ⟨hna, fun ob x hb hx => ?_⟩
  obtain ⟨k1, k2, k3, k4⟩ := h.temps hpl hp hd (Gh.put_ext _ _ hna) hx
  have old : ∀ (r : Nat) (ir : It), its[r]? = some ir → updB D it.i ir.i = true → r = p ∨ D ir.i = true := fun r ir h1 h2 => by
    unfold updB at h2
    split at h2
    · rename_i e; exact .inl (hpl.inj r p ir it h1 hp e)
    · exact .inr h2
  refine ⟨h.q1, h.bd, fun r ir h1 h2 => upd_mono _ (h.done r ir h1 h2), fun r ir h1 h2 h3 => ?_, h.post.alloc ⟨by omega, by omega⟩ hna hb, fun b h1 => ?_, fun r ir u h1 h2 h3 h4 => ?_, h.z, fun b h1 h2 h3 => ?_, k1, k2, k3, k4⟩
  · rcases old r ir h2 h3 with rfl | h4
    · rw [hp] at h2; obtain rfl := Option.some.inj h2; exact hch
    · exact h.noch r ir h1 h2 h4
  · have : b ≠ (st p).n := fun e => h1 (by omega)
    simp only [if_neg this]
    exact h.g1 b h1
  · rcases old r ir h2 h3 with rfl | h5
    · rw [hy] at h4
      obtain rfl := Option.some.inj h4
      simp only [if_true]
    · have : (st r).n ≠ (st p).n := fun e => by
        obtain rfl := hr.two hc h2 hp h4 hy e
        rw [hp] at h2
        obtain rfl := Option.some.inj h2
        rw [hD] at h5; cases h5
      simp only [if_neg this]
      exact h.g3 r ir u h1 h2 h5 h4
  · rcases h1 with h1 | h1
    · exact ⟨p, it, y, hqp, hp, by unfold updB; rw [if_pos rfl], hy, h1.symm⟩
    · obtain ⟨r, ir, u, h4, h5, h6, h7⟩ := h.al b h1 h2 h3
      exact ⟨r, ir, u, h4, h5, upd_mono _ h6, h7⟩
/-- a link of the chain -/
theorem Jq.link (h : Jq B fl nf nt w0 G0 ts0 n0 m0 its st D a w q G g) (h0 : MemF B w0 G0 (M.get m0)) (hfl : fl ≤ n0) (hpl : Plan arr bef its) (hc : CallOK P call) (hr : Run P call fl arr its st ts0 n0 m0) (hnf : (st its.length).n ≤ nf) (hn0 : n0 ≤ (st q).n) (hp : its[p]? = some it) (hD : D it.i = false) (hd : dstOk nt it.o.dst = true) (hch : it.ch = true) (hxn : (st (p + 1)).x = none) (hall : ∀ (r : Nat) (it : It), r < p → its[r]? = some it → D it.i = true)
    {w' : World} {G' : Gh} {x : Value} (hk : Post B (st p).n (st p).m w G (st (p + 1)).n (st (p + 1)).m w' G' fl) (hx : CR G' (st (p + 1)).v x) :
    ∃ g', Jq B fl nf nt w0 G0 ts0 n0 m0 its st (updB D it.i) (a.put it.o.dst x) w' (p + 1) G' g' := by
  have hlt : p < its.length := (List.getElem?_eq_some_iff.1 hp).1
  have hqp := h.ge hp hD
  have hnq := hr.le hc hqp (by omega)
  have hn1 := hr.le hc (show p + 1 ≤ its.length from hlt) (Nat.le_refl _)
  have hlen := hk.len
  have hsub := h.sub hc hr (by omega : p ≤ its.length) hqp hall
  obtain ⟨k1, k2, k3, k4⟩ := h.temps hpl hp hd hk.ext hx
  have old : ∀ (r : Nat) (ir : It), its[r]? = some ir → updB D it.i ir.i = true → r = p ∨ D ir.i = true := fun r ir h1 h2 => by
    unfold updB at h2
    split at h2
    · rename_i e; exact .inl (hpl.inj r p ir it h1 hp e)
    · exact .inr h2
  -- what has no name yet is dead
  have hx0 : ∀ b, (st (p + 1)).n ≤ b → b < nf → M.get (st p).m b = .dead := fun b h1 h2 => by
    rcases hr.noch hc hqp (by omega) (fun r it h1 h2 h3 => h.noch r it h1 h3 (hall r it h2 h3)) b with h3 | h3 | ⟨r, ir, h3, h4, h5, h6, h7⟩
    · exact h3
    · rw [h3]; exact h.z b (by omega) h2
    · have e1 := (hr.allocs h5 h6).1
      have e2 := hr.le hc (show r + 1 ≤ p from h4) (by omega)
      omega
  refine ⟨_, by omega, .inr ⟨p, it, rfl, hp, hch⟩, fun r ir h1 h2 => ?_, fun r ir h1 h2 h3 => ?_, h.post.chain h0 hsub hk hfl (by omega) (by omega) hx0, fun b h1 => if_neg h1, fun r ir u h1 h2 h3 h4 => ?_, fun b h1 h2 => ?_, fun b h1 h2 h3 => ?_, k1, k2, k3, k4⟩
  · rcases Nat.lt_or_ge r p with h3 | h3
    · exact upd_mono _ (hall r ir h3 h2)
    · obtain rfl : r = p := by omega
      rw [hp] at h2
      obtain rfl := Option.some.inj h2
      unfold updB; rw [if_pos rfl]
  · rcases old r ir h2 h3 with rfl | h4
    · omega
    · exact h.noch r ir (by omega) h2 h4
  · rcases old r ir h2 h3 with rfl | h5
    · omega
    · have e1 := (hr.allocs h2 h4).1
      have hrl : r < its.length := (List.getElem?_eq_some_iff.1 h2).1
      have e2 := hr.le hc (show p + 1 ≤ r from h1) (by omega)
      have e3 := hr.le hc (show r + 1 ≤ its.length from hrl) (Nat.le_refl _)
      refine Eq.trans (if_pos ⟨e2, by omega⟩) ?_
      exact h.g3 r ir u (by omega) h2 h5 h4
  · refine Classical.byContradiction fun hl => ?_
    exact hk.dead b (by omega) hl (hx0 b h1 h2)
  · rcases hk.new b h1 with h4 | h4
    · obtain ⟨r, ir, u, h5, h6, h7, h8, h9⟩ := h.al b h4 (by omega) h3
      refine ⟨r, ir, u, ?_, h6, upd_mono _ h7, h8, h9⟩
      rcases Nat.lt_trichotomy r p with h10 | h10 | h10
      · have e1 := (hr.allocs h6 h8).1
        have e2 := hr.le hc (show r + 1 ≤ p from h10) (by omega)
        omega
      · subst h10
        rw [hp] at h6
        obtain rfl := Option.some.inj h6
        rw [hD] at h7; cases h7
      · exact h10
    · omega
/-- J: somewhere on the way -/
def J (B fl nf nt : Nat) (w0 : World) (G0 : Gh) (ts0 : T) (n0 : Nat) (m0 : M) (its : List It) (st : Nat → S) (D : Nat → Bool) (a : Act) (w : World) : Prop := ∃ q G g, Jq B fl nf nt w0 G0 ts0 n0 m0 its st D a w q G g
theorem J.turn {Q : Exit → Act → World → Prop} (hj : J B fl nf nt w0 G0 ts0 n0 m0 its st D a w) (h0 : MemF B w0 G0 (M.get m0)) (hfl : fl ≤ n0) (hpl : Plan arr bef its) (hc : CallOK P call) (hr : Run P call fl arr its st ts0 n0 m0) (hnf : (st its.length).n ≤ nf) (hp : its[p]? = some it) (hD : D it.i = false) (hd : dstOk nt it.o.dst = true)
    (hb : ∀ j, bef it.i j = true → D j = true) (hcl : ∀ k j, D k = true → bef k j = true → D j = true) (Kk : Act → World → Prop) (hK : ∀ a' w', J B fl nf nt w0 G0 ts0 n0 m0 its st (updB D it.i) a' w' → Kk a' w') : Turn P arr Q it.o a w Kk := by
  obtain ⟨q, G, g, h⟩ := hj
  have hlt : p < its.length := (List.getElem?_eq_some_iff.1 hp).1
  have hqp := h.ge hp hD
  have hn0 : n0 ≤ (st q).n := by have := hr.le hc (Nat.zero_le q) h.q1; rwa [hr.zero] at this
  have hor := h.orel hpl hr hp hD hb hcl
  have hn1 := hr.le hc (show p + 1 ≤ its.length from hlt) (Nat.le_refl _)
  have hnp := hr.le hc hqp (by omega)
  have hgd : ∀ gg b, it.o.guard = some gg → gd arr.toList (st p).ts gg = some b → Region.wanted it.o (yielded arr a.tmps) = b := fun gg b hg hgd =>
    gd_ok' (fun d hdd => h.read hpl hr hp hD hb hcl (List.mem_append_right _ (by rw [hg]; simp [hdd]))) hg hgd
  have met : Met arr.toList (st p).ts it.o → Region.wanted it.o (yielded arr a.tmps) = true := by
    rintro (hg | ⟨gg, hg, hgg⟩)
    · unfold Region.wanted; rw [hg]
    · exact hgd gg true hg hgg
  have prev : it.ch = true → ∀ (r : Nat) (ir : It), r < p → its[r]? = some ir → D ir.i = true := fun hch r ir h1 h2 => hb _ (hpl.chain p it hp hch r ir h1 h2)
  unfold Turn
  obtain ⟨_, _, _, h4⟩ := stD_ok (hr.step p it hp)
  rcases h4 with ⟨gg, hg, hgg, hv, hsn, hsm, hsx⟩ | ⟨hmet, h5⟩
  · rw [hgd gg false hg hgg, if_neg (by simp)]
    have hx : CR G (st (p + 1)).v undef := by rw [hv]; exact cr_undef G
    refine hK _ _ ?_
    cases hch : it.ch with
    | false => exact ⟨q, G, g, h.quiet hpl hp hD hd hch hsx hx⟩
    | true =>
      have hm := h.post.memf.weaken (st p).n (h.sub hc hr (by omega) hqp (prev hch))
      obtain ⟨g', hJ⟩ := h.link h0 hfl hpl hc hr hnf hn0 hp hD hd hch hsx (prev hch) (w' := w) (G' := G) (x := undef) (by rw [hsn, hsm]; exact Post.refl hm fl) hx
      exact ⟨p + 1, G, g', hJ⟩
  · rw [met hmet, if_pos rfl]
    refine .inl ?_
    have hok := evR_ok hc it.o (st p).ts fl (st p).n (st p).m
    rcases h5 with ⟨hch, hsx, hto⟩ | ⟨hch, hsx, hsn, hsm, h6⟩ | ⟨hch, y, hsx, hal, hsn, hsm⟩
    · obtain ⟨hle, hop⟩ := toR_ok hok hto
      have hm := h.post.memf.weaken (st p).n (h.sub hc hr (by omega) hqp (prev hch))
      refine hop B w G a hm hor ⟨by omega, fun i h7 h8 ha => ?_⟩ _ _ fun x w' G' hk hx => ?_
      · obtain ⟨r, ir, u, h9, h10, h11, h12, h13⟩ := h.al i ha (by omega) (by omega)
        have e1 := (hr.allocs h10 h12).1
        rcases Nat.lt_trichotomy r p with h14 | h14 | h14
        · have e2 := hr.le hc (show r + 1 ≤ p from h14) (by omega)
          omega
        · subst h14
          rw [hp] at h10
          obtain rfl := Option.some.inj h10
          rw [hD] at h11; cases h11
        · have hrl : r < its.length := (List.getElem?_eq_some_iff.1 h10).1
          have e2 := hr.le hc (show p + 1 ≤ r from h14) (by omega)
          omega
      · obtain ⟨g', hJ⟩ := h.link h0 hfl hpl hc hr hnf hn0 hp hD hd hch hsx (prev hch) hk hx
        exact hK _ _ ⟨p + 1, G', g', hJ⟩
    · have fin : ∀ x, (execOp a.eval it.o).run P w = .ok (.value x) w → CR G (st (p + 1)).v x → it.o.wp P a w Kk Q := by
        intro x hrun hx
        unfold Oper.wp
        rw [hrun]
        exact hK _ _ ⟨q, G, g, h.quiet hpl hp hD hd hch hsx hx⟩
      rcases h6 with h6 | ⟨b, h6, h7⟩
      · rw [h6] at hok
        obtain ⟨x, hrun, hx⟩ := hok G a w hor
        exact fin x hrun hx
      · rw [h6] at hok
        obtain ⟨halb, hld⟩ := hok G a w hor
        obtain ⟨ql, tl, i1, i2, i3, i4⟩ := hr.hist (p := p) (by omega)
        by_cases e : q = ql
        · subst e
          have hbk : BkR w G b (M.get (st p).m b) := by
            rcases hr.noch hc hqp (by omega) i3 b with h8 | h8 | ⟨r, ir, h8, h9, h10, h11, h12⟩
            · rw [h8]; trivial
            · rw [h8]
              by_cases e2 : (st q).n ≤ b ∧ b < nf
              · rw [h.z b e2.1 e2.2]; trivial
              · rw [← h.g1 b e2]; exact h.post.memf.blk b
            · have e1 := (hr.allocs h10 h11).1
              have e2 := hr.le hc (show r + 1 ≤ p from h9) (by omega)
              have e3 := hr.le hc h8 (by omega)
              obtain ⟨r', ir', u, h13, h14, h15, h16, h17⟩ := h.al b halb (by omega) (by omega)
              have e4 : r' = r := hr.two hc h14 h10 h16 h11 (by rw [h17, h12])
              subst e4
              have := h.g3 r' ir' _ h13 h14 h15 h11
              rw [h12] at this
              rw [← this]
              exact h.post.memf.blk b
          obtain ⟨x, hrun, hx⟩ := hld hbk
          exact fin x hrun hx
        · rw [Bool.or_eq_true] at h7
          rcases h7 with h7 | h7
          · unfold frs at h7
            rw [i1] at h7
            simp only [Bool.and_eq_true] at h7
            have b1 : (st ql).n ≤ b := Nat.le_of_ble_eq_true h7.1
            have b2 : b < (st p).n := Nat.le_of_ble_eq_true h7.2
            have e0 : q ≤ ql := by
              rcases Nat.lt_or_ge ql q with h8 | h8
              · rcases h.bd with h9 | ⟨r, ir, h9, h10, h11⟩
                · omega
                · have := i3 r ir (by omega) (by omega) h10; rw [h11] at this; cases this
              · exact h8
            have e1 := hr.le hc e0 (by omega)
            obtain ⟨r, ir, u, h13, h14, h15, h16, h17⟩ := h.al b halb (by omega) (by omega)
            have hrl : r < its.length := (List.getElem?_eq_some_iff.1 h14).1
            have e2 := (hr.allocs h14 h16).1
            have r1 : ql ≤ r := by
              rcases Nat.lt_or_ge r ql with h8 | h8
              · have := hr.le hc (show r + 1 ≤ ql from h8) (by omega); omega
              · exact h8
            have r2 : r < p := by
              rcases Nat.lt_or_ge r p with h8 | h8
              · exact h8
              · have := hr.le hc h8 (by omega); omega
            have hgb : g b = u := by have := h.g3 r ir u h13 h14 h15 h16; rwa [h17] at this
            have hbk : BkR w G b (M.get (st p).m b) := by
              rcases hr.noch hc (show r + 1 ≤ p from r2) (by omega) (fun k ik a1 a2 a3 => i3 k ik (by omega) a2 a3) b with h8 | h8 | ⟨k, ik, h8, h9, h10, h11, h12⟩
              · rw [h8]; trivial
              · obtain ⟨_, _, _, h20⟩ := stD_ok (hr.step r ir h14)
                rcases h20 with ⟨_, _, _, _, _, _, h21⟩ | ⟨_, h21 | h21 | h21⟩
                · rw [h21] at h16; cases h16
                · rw [h21.2.1] at h16; cases h16
                · rw [h21.2.1] at h16; cases h16
                · obtain ⟨_, y, h22, _, _, h23⟩ := h21
                  rw [h16] at h22
                  obtain rfl := Option.some.inj h22
                  rw [h8, h23, ← h17]
                  rcases M.get_self (st r).m (st r).n u with h24 | h24
                  · rw [h24, h17, ← hgb]; exact h.post.memf.blk b
                  · rw [h24]; trivial
              · have := hr.two hc h14 h10 h16 h11 (by rw [h17, h12]); omega
            obtain ⟨x, hrun, hx⟩ := hld hbk
            exact fin x hrun hx
          · have hmem := i4 q hqp h.bd e
            have hlo : it.lo ≤ q := by
              rcases hpl.lo p it hp with h8 | ⟨r, ir, h8, h9, h10, h11⟩
              · omega
              · rw [h8]
                have h12 := hb _ h11
                rcases Nat.lt_or_ge r q with h13 | h13
                · exact h13
                · have := h.noch r ir h13 h9 h12; rw [h10] at this; cases this
            unfold chkL at h7
            rw [i1] at h7
            have h8 := List.all_eq_true.1 h7 _ hmem
            unfold chk1 at h8
            rw [Nat.ble_eq_true_of_le hlo] at h8
            simp only at h8
            split at h8
            · rename_i b' v' hev
              rw [Bool.and_eq_true] at h8
              obtain rfl := Nat.eq_of_beq_eq_true h8.1
              obtain rfl := veq_ok h8.2
              have hok2 := evR_ok hc it.o (st p).ts fl (st q).n (st q).m
              rw [hev] at hok2
              obtain ⟨_, hld2⟩ := hok2 G a w hor
              have hbk : BkR w G b' (M.get (st q).m b') := by
                by_cases e2 : (st q).n ≤ b' ∧ b' < nf
                · rw [h.z b' e2.1 e2.2]; trivial
                · rw [← h.g1 b' e2]; exact h.post.memf.blk b'
              obtain ⟨x, hrun, hx⟩ := hld2 hbk
              exact fin x hrun hx
            · cases h8
    · rw [hal] at hok
      obtain ⟨x, ob, hrun, hnew⟩ := hok G a w hor
      obtain ⟨hna, hJ⟩ := h.alloc hpl hc hr hnf hn0 hp hD hd hch hsx
      obtain ⟨k1, k2⟩ := hnew (G.put (st p).n w.heap.size 0) (Gh.put_ext _ _ hna) (.inl rfl) (Gh.put_ρ _ _ _ _)
      unfold Oper.wp
      rw [hrun]
      exact hK _ _ ⟨q, _, _, hJ ob x k1 k2⟩
end
end Go.Proofs.YtbpjinefbnlenaaGreatDoor.E

/- An exact machine, part 20: regions in any order: the plan; the whole. -/
namespace Go.Proofs.YtbpjinefbnlenaaGreatDoor.E
open Go Go.RowKit
set_option linter.unusedVariables false

structure Row where
  p : Nat
  it : It
  ms : Nat
  rd : List Tmp
noncomputable def rowsOf (all : List Oper) (masks : List Nat) (its : List It) : List Row := its.zipIdx.map fun x => { p := x.2, it := x.1, ms := masks.getD x.1.i 0, rd := rds all x.1.o }
theorem rowsOf_mem {all : List Oper} {masks : List Nat} {its : List It} {p : Nat} {it : It} (h : its[p]? = some it) : { p := p, it := it, ms := masks.getD it.i 0, rd := rds all it.o } ∈ rowsOf all masks its := by
  unfold rowsOf
  refine List.mem_map.2 ⟨(it, p), ?_, rfl⟩
  exact List.mem_zipIdx_iff_getElem?.2 h
theorem rowsOf_inv {all : List Oper} {masks : List Nat} {its : List It} {r : Row} (h : r ∈ rowsOf all masks its) : its[r.p]? = some r.it ∧ r.ms = masks.getD r.it.i 0 := by
  unfold rowsOf at h
  obtain ⟨x, h1, rfl⟩ := List.mem_map.1 h
  exact ⟨List.mem_zipIdx_iff_getElem?.1 h1, rfl⟩
def imp (a b : Bool) : Bool := match a with | true => b | false => true
theorem imp_ok {a b : Bool} (h : imp a b = true) (ha : a = true) : b = true := by subst ha; exact h
def sameD (a b : Option Tmp) : Bool := match a, b with | some d, some e => Nat.beq d e | _, _ => false
def readsD (l : List Tmp) (b : Option Tmp) : Bool := match b with | some e => l.any (Nat.beq e) | none => false
def pairOK (r r' : Row) : Bool :=
  imp (Nat.beq r.it.i r'.it.i) (Nat.beq r.p r'.p) && (imp (r.it.ch && Nat.blt r'.p r.p) (r.ms.testBit r'.it.i) && (imp (sameD r.it.o.dst r'.it.o.dst) (Nat.beq r.p r'.p) &&
  (imp (readsD r.rd r'.it.o.dst) (r.ms.testBit r'.it.i || (r'.ms.testBit r.it.i || Nat.beq r.p r'.p)) && imp (r.ms.testBit r'.it.i) (Nat.blt r'.p r.p))))
def rowOK (N : Nat) (rows : List Row) (r : Row) : Bool :=
  Nat.blt r.it.i N && (Nat.blt r.ms (2 ^ N) && ((Nat.beq r.it.lo 0 || rows.any fun r' => Nat.beq r.it.lo (r'.p + 1) && (r'.it.ch && r.ms.testBit r'.it.i)) && rows.all (pairOK r)))
def backOK (l : List (Oper × Nat)) : Bool := l.all fun x => x.1.after.toList.all fun e => imp (Region.binds .any e) (Nat.blt e.on x.2)
noncomputable def mkIts (all : List Oper) (l : List (Nat × Bool × Nat)) : List It := l.map fun x => { i := x.1, o := all.getD x.1 default, ch := x.2.1, lo := x.2.2 }
noncomputable def okIts (all : List Oper) (its : List It) : Bool :=
  backOK all.zipIdx && ((List.range all.length).all (fun i => its.any fun it => Nat.beq it.i i) && (fun rows => List.all rows (rowOK all.length rows)) (rowsOf all (befs [] all) its))
noncomputable def befF (all : List Oper) (i j : Nat) : Bool := ((befs [] all).getD i 0).testBit j
theorem plan_ok {arr : Array Oper} {l : List (Nat × Bool × Nat)} (h : okIts arr.toList (mkIts arr.toList l) = true) :
    Plan arr (befF arr.toList) (mkIts arr.toList l) ∧ ∀ (i : Nat) (o : Oper), arr[i]? = some o → ∀ e ∈ o.after, Region.binds .any e = true → e.on < i := by
  unfold okIts at h
  simp only [Bool.and_eq_true] at h
  obtain ⟨hback, hcov, hrows⟩ := h
  generalize hits : mkIts arr.toList l = its at *
  have hop : ∀ (p : Nat) (it : It), its[p]? = some it → it.o = arr.toList.getD it.i default := by
    intro p it hp
    rw [← hits] at hp
    unfold mkIts at hp
    rw [List.getElem?_map] at hp
    cases hl : l[p]? with
    | none => rw [hl] at hp; cases hp
    | some x => rw [hl] at hp; obtain rfl := Option.some.inj hp; rfl
  have row : ∀ (p : Nat) (it : It), its[p]? = some it → rowOK arr.toList.length (rowsOf arr.toList (befs [] arr.toList) its) { p := p, it := it, ms := (befs [] arr.toList).getD it.i 0, rd := rds arr.toList it.o } = true :=
    fun p it hp => List.all_eq_true.1 hrows _ (rowsOf_mem hp)
  have pair : ∀ (p p' : Nat) (it it' : It), its[p]? = some it → its[p']? = some it' → pairOK { p := p, it := it, ms := (befs [] arr.toList).getD it.i 0, rd := rds arr.toList it.o } { p := p', it := it', ms := (befs [] arr.toList).getD it'.i 0, rd := rds arr.toList it'.o } = true := by
    intro p p' it it' hp hp'
    have := row p it hp
    unfold rowOK at this
    simp only [Bool.and_eq_true] at this
    exact List.all_eq_true.1 this.2.2.2 _ (rowsOf_mem hp')
  have cov : ∀ i, i < arr.size → ∃ (p : Nat) (it : It), its[p]? = some it ∧ it.i = i := by
    intro i hi
    have h1 := List.all_eq_true.1 hcov i (List.mem_range.2 (by simpa using hi))
    obtain ⟨it, h2, h3⟩ := List.any_eq_true.1 h1
    obtain ⟨p, h4⟩ := List.getElem?_of_mem h2
    exact ⟨p, it, h4, Nat.eq_of_beq_eq_true h3⟩
  refine ⟨⟨fun p it hp => ?_, cov, fun p p' it it' hp hp' e => ?_, fun p it j hp hb => ?_, fun p it hp hch p' it' hlt hp' => ?_, fun p p' it it' d hp hp' h1 h2 => ?_, fun p p' it it' d hp hp' h1 h2 => ?_, fun p it hp => ?_⟩, fun i o hi e he hb => ?_⟩
  · have := row p it hp
    unfold rowOK at this
    simp only [Bool.and_eq_true] at this
    have hlt : it.i < arr.toList.length := Nat.le_of_ble_eq_true this.1
    rw [hop p it hp]
    simp only [Array.length_toList] at hlt
    simp [List.getD_eq_getElem?_getD, hlt]
  · have := pair p p' it it' hp hp'
    unfold pairOK at this
    simp only [Bool.and_eq_true] at this
    have h1 := imp_ok this.1 (by rw [e]; exact Nat.beq_refl _)
    exact Nat.eq_of_beq_eq_true h1
  · have h1 := row p it hp
    unfold rowOK at h1
    simp only [Bool.and_eq_true] at h1
    have hm : (befs [] arr.toList).getD it.i 0 < 2 ^ arr.toList.length := Nat.le_of_ble_eq_true h1.2.1
    have hj : j < arr.size := by
      rcases Nat.lt_or_ge j arr.size with h2 | h2
      · exact h2
      · have h3 : (befs [] arr.toList).getD it.i 0 < 2 ^ j := Nat.lt_of_lt_of_le hm (Nat.pow_le_pow_right (by omega) (by simpa using h2))
        unfold befF at hb
        rw [Nat.testBit_lt_two_pow h3] at hb
        cases hb
    obtain ⟨p', it', h2, h3⟩ := cov j hj
    have h4 := pair p p' it it' hp h2
    unfold pairOK at h4
    simp only [Bool.and_eq_true] at h4
    have h5 := imp_ok h4.2.2.2.2 (by rw [h3]; exact hb)
    exact ⟨p', it', Nat.le_of_ble_eq_true h5, h2, h3⟩
  · have h4 := pair p p' it it' hp hp'
    unfold pairOK at h4
    simp only [Bool.and_eq_true] at h4
    exact imp_ok h4.2.1 (by rw [hch]; exact Nat.ble_eq_true_of_le hlt)
  · have h4 := pair p p' it it' hp hp'
    unfold pairOK at h4
    simp only [Bool.and_eq_true] at h4
    exact Nat.eq_of_beq_eq_true (imp_ok h4.2.2.1 (by rw [h1, h2]; exact Nat.beq_refl _))
  · have h4 := pair p p' it it' hp hp'
    unfold pairOK at h4
    simp only [Bool.and_eq_true] at h4
    have h5 := imp_ok h4.2.2.2.1 (by rw [h1]; exact List.any_eq_true.2 ⟨d, h2, Nat.beq_refl _⟩)
    rw [Bool.or_eq_true, Bool.or_eq_true] at h5
    exact h5.imp id (Or.imp id Nat.eq_of_beq_eq_true)
  · have h1 := row p it hp
    unfold rowOK at h1
    simp only [Bool.and_eq_true] at h1
    have h2 := h1.2.2.1
    rw [Bool.or_eq_true] at h2
    rcases h2 with h2 | h2
    · exact .inl (Nat.eq_of_beq_eq_true h2)
    · obtain ⟨r, h3, h4⟩ := List.any_eq_true.1 h2
      simp only [Bool.and_eq_true] at h4
      exact .inr ⟨r.p, r.it, Nat.eq_of_beq_eq_true h4.1, (rowsOf_inv h3).1, h4.2.1, h4.2.2⟩
  · unfold backOK at hback
    have h1 := List.all_eq_true.1 hback (o, i) (List.mem_zipIdx_iff_getElem?.2 (by simpa using hi))
    have h2 := List.all_eq_true.1 h1 e (by simpa using he)
    exact Nat.le_of_ble_eq_true (imp_ok h2 hb)
/-! the whole -/
noncomputable def s0 (ts : T) (n : Nat) (m : M) : S := { hs := [(0, n, m)], p := 0, ts := ts, n := n, m := m, v := .unk, x := none }
noncomputable def drO (o : Option S) : Out := Option.rec .fail (fun s => .nrm s.ts s.n s.m) o
noncomputable def drG (all : List Oper) (its : List It) (ok : Bool) : K := fun P call fl ts n m => Bool.rec .fail (drO (evL all P call fl its (s0 ts n m))) ok
theorem run_of {all : List Oper} {P : Program} {call : CallT} {fl : Nat} {its : List It} {s sf : S} (h : evL all P call fl its s = some sf) : ∃ st : Nat → S, st 0 = s ∧ st its.length = sf ∧ ∀ (p : Nat) (it : It), its[p]? = some it → stD all it P call fl (st p) = some (st (p + 1)) := by
  have pre : ∀ p, p ≤ its.length → ∃ s', evL all P call fl (its.take p) s = some s' := by
    intro p hp
    have := h
    rw [← List.take_append_drop p its, evL_append] at this
    cases hh : evL all P call fl (its.take p) s with
    | none => rw [hh] at this; cases this
    | some s' => exact ⟨s', rfl⟩
  refine ⟨fun p => (evL all P call fl (its.take p) s).getD s, by rfl, by simp [h], fun p it hp => ?_⟩
  have hlt : p < its.length := (List.getElem?_eq_some_iff.1 hp).1
  obtain ⟨s1, h1⟩ := pre p (by omega)
  obtain ⟨s2, h2⟩ := pre (p + 1) hlt
  have e : its.take (p + 1) = its.take p ++ [it] := by rw [List.take_add_one, hp]; rfl
  have h3 := h2
  rw [e, evL_append, h1] at h3
  simp only [h1, h2, Option.getD_some]
  have h3 : Option.rec (motive := fun _ => Option S) none some (stD all it P call fl s1) = some s2 := h3
  cases hs : stD all it P call fl s1 with
  | none => rw [hs] at h3; cases h3
  | some s' => rw [hs] at h3; exact h3
theorem drG_ok {P : Program} (hm : P.follows .mixedOrders = true) {nt id : Nat} {arr : Array Oper} (l : List (Nat × Bool × Nat)) (hd : dOks nt arr.toList = true) : ExOK P nt (.region id arr true) (drG arr.toList (mkIts arr.toList l) (okIts arr.toList (mkIts arr.toList l))) := by
  intro call fl ts n m hc hne
  cases hok : okIts arr.toList (mkIts arr.toList l) with
  | false => rw [hok] at hne; exact absurd rfl hne
  | true =>
    rw [hok] at hne
    obtain ⟨hpl, hback⟩ := plan_ok hok
    generalize mkIts arr.toList l = its at *
    have e : drG arr.toList its true P call fl ts n m = drO (evL arr.toList P call fl its (s0 ts n m)) := rfl
    rw [e] at hne ⊢
    cases hev : evL arr.toList P call fl its (s0 ts n m) with
    | none => rw [hev] at hne; exact absurd rfl hne
    | some sf =>
      obtain ⟨st, hs0, hsf, hst⟩ := run_of hev
      have hr : Run P call fl arr its st ts n m := ⟨hs0, hst⟩
      have hnN : n ≤ sf.n := by
        have := hr.le hc (Nat.zero_le its.length) (Nat.le_refl _)
        rw [hs0, hsf] at this
        exact this
      refine ⟨hnN, fun B w G a Q hmr ht hdf hfl hfr hK => wp_region_any hm ?_⟩
      have hfr : Free G n sf.n := hfr
      have hK : KO fl B n m w G nt Q (.nrm sf.ts sf.n sf.m) := hK
      have hbel : Below w.heap.size w { w with drawn := w.drawn + 1 } := (Below.refl _ w).drew
      have hq := hmr.quiet hbel fl
      have hK := KO.after hmr hq hfl hK
      have h0 := hq.memr.toF
      have hd' := List.all_eq_true.1 hd
      have hdst : ∀ (p : Nat) (it : It), its[p]? = some it → dstOk nt it.o.dst = true := fun p it hp => hd' _ (by have := hpl.op p it hp; simpa using Array.mem_of_getElem? this)
      refine wpAny_two (arr.size) arr.size rfl (Nat.le_refl _) hback (befF arr.toList) (fun i o hi j hj => ?_) (fun i h1 h2 => absurd h2 (by omega))
        (J B fl sf.n nt { w with drawn := w.drawn + 1 } G ts n m its st) (fun _ a w => Q .normal a w)
        (fun D a w i o hi ho hD _ hb hcl hj K hKk => ?_) (fun D a w hall _ hj => ?_) (fun k a w o h1 h2 => absurd (Array.getElem?_eq_some_iff.1 h2).1 (by omega)) (fun a w h => h) ?_
      · obtain ⟨e, h1, h2, h3⟩ := befs_get arr.toList [] i o (by simpa using hi) j (by simpa [befF] using hj)
        exact ⟨e, by simpa using h1, h2, h3⟩
      · obtain ⟨p, it, h1, h2⟩ := hpl.all i hi
        have h3 := hpl.op p it h1
        rw [h2, ho] at h3
        obtain rfl := Option.some.inj h3
        subst h2
        exact hj.turn h0 hfl hpl hc hr (by rw [hsf]; exact Nat.le_refl _) h1 hD (hdst p it h1) hb hcl K hKk
      · obtain ⟨q, G', g, h⟩ := hj
        have hallD : ∀ (r : Nat) (it : It), its[r]? = some it → D it.i = true := fun r it h1 => hall _ (by have := hpl.op r it h1; exact (Array.getElem?_eq_some_iff.1 this).1)
        have hsub := h.sub hc hr (Nat.le_refl _) h.q1 (fun r it _ h1 => hallD r it h1)
        rw [hsf] at hsub
        refine hK a w G' (h.post.post hnN hsub) ⟨h.size, fun t => ?_⟩ h.dfs
        rcases hr.tmp t (Nat.le_refl its.length) with h1 | ⟨r, it, _, h2, h3, h4⟩ | ⟨h1, h2⟩
        · rw [hsf] at h1; rw [h1]; exact .unk _
        · rw [hsf] at h4; rw [h4]; exact h.t1 r it t h2 (hallD r it h2) h3
        · rw [hsf] at h2; rw [h2]
          exact h.t2 t fun r it h3 _ => h1 r it (List.getElem?_eq_some_iff.1 h3).1 h3
      · have nal : ∀ b, n ≤ b → b < sf.n → ¬ G.al b := hfr
        refine ⟨0, G, M.get m, Nat.zero_le _, .inl rfl, fun r it h1 => absurd h1 (by omega), fun r it _ _ h1 => (by cases h1), PostF.refl h0 hfr, fun b _ => by rw [hs0]; rfl, fun r it x _ _ h1 => (by cases h1), fun b h1 h2 => ?_, fun b h1 h2 h3 => ?_, fun r it d _ h1 => (by cases h1), fun t _ => ht.val t, ht.size, hdf⟩
        · rw [hs0] at h1 ⊢
          exact Classical.byContradiction fun hl => nal b h1 h2 (h0.own b hl).2.2
        · rw [hs0] at h2
          exact absurd h1 (nal b h2 h3)
/-! a plan for each region -/
noncomputable def isCh (o : Oper) : Bool := match o.op with
  | .store .. => true
  | .mapUpdate .. => true
  | .insert .. => true
  | .next .. => true
  | .call c => (match c.callee with | .builtin .len => false | .builtin .cap => false | .builtin .min => false | _ => true)
  | _ => false
noncomputable def sched (N : Nat) (masks : List Nat) (chs : List Nat) : Nat → List Nat := List.rec (fun dm => (List.range N).filter fun i => !(dm.testBit i)) (fun c _ ih dm => ((List.range N).filter fun i => (masks.getD c 0).testBit i && !(dm.testBit i)) ++ c :: ih (dm ||| (masks.getD c 0) ||| 2 ^ c)) chs
noncomputable def planL (all : List Oper) : List (Nat × Bool × Nat) :=
  (fun masks : List Nat => (fun chs : List Nat => (fun sc : List Nat => sc.map fun i => (i, chs.contains i, sc.zipIdx.foldl (fun acc x => match chs.contains x.1 && (masks.getD i 0).testBit x.1 with | true => Nat.max acc (x.2 + 1) | false => acc) 0)) (sched all.length masks chs 0)) ((all.zipIdx.filter fun x => isCh x.1).map (·.2))) (befs [] all)
noncomputable def dr (arr : Array Oper) : K := drG arr.toList (mkIts arr.toList (planL arr.toList)) (okIts arr.toList (mkIts arr.toList (planL arr.toList)))
theorem dr_ok {P : Program} (hm : P.follows .mixedOrders = true) : DrOK P dr := fun nt id arr hd => drG_ok hm _ hd
end Go.Proofs.YtbpjinefbnlenaaGreatDoor.E

/- An exact machine, part 21: library functions by their contracts; a whole call. -/
namespace Go.Proofs.YtbpjinefbnlenaaGreatDoor.E
open Go Go.RowKit
set_option linter.unusedVariables false

section
variable {P : Program}
/-- a call that makes a text: nothing that was there is touched -/
theorem fn_text {f fl n : Nat} {args : List V} {m : M} {s : List UInt8} (h : ∀ (B : Nat) (w : World) (G : Gh) (vs : List Value), MemR B w G n m → LR G args vs → Calls P f vs.toArray w fun e w' => e = .returned (.string ⟨s.toArray⟩) ∧ Below w.heap.size w w') : FnOK P f args fl n m (.str s) n m := by
  intro B w G vs hm hl hfl
  refine (h B w G vs hm hl).mono ?_
  rintro e w' ⟨rfl, hb⟩
  exact ⟨_, G, rfl, hm.quiet hb fl, .str s⟩
noncomputable def spRep (args : List V) (n : Nat) (m : M) : R :=
  match args with
  | [.str s, .int .i64 c] => match ile 0 c && (Nat.ble (s.length * c.toNat) 1000000 && Nat.ble c.toNat 1000000) with
    | true => .ok (.str (Lib.repeatL s c.toNat)) n m
    | false => .fail
  | _ => .fail
theorem spRep_ok {f : Nat} (hcl : callable P f = true) (h : ∀ (s : ByteArray) (c : Nat) (w : World), c ≤ 9223372036854775807 → s.size * c ≤ 140737488355328 → Calls P f #[.string s, .int .i64 c] w fun e w' => e = .returned (.string ⟨(Lib.repeatL s.data.toList c).toArray⟩) ∧ Below w.heap.size w w')
    (fl : Nat) (xs : List V) (n : Nat) (m : M) (v : V) (n' : Nat) (m' : M) (e : spRep xs n m = .ok v n' m') : n ≤ n' ∧ callable P f = true ∧ FnOK P f xs fl n m v n' m' := by
  unfold spRep at e
  split at e
  · rename_i s c
    split at e
    · rename_i hb
      simp only [Bool.and_eq_true, ile_eq, decide_eq_true_eq] at hb
      obtain ⟨h1, h2, h3⟩ := hb
      have h2 := Nat.le_of_ble_eq_true h2
      have h3 := Nat.le_of_ble_eq_true h3
      simp only [R.ok.injEq] at e
      obtain ⟨rfl, rfl, rfl⟩ := e
      refine ⟨Nat.le_refl _, hcl, fn_text fun B w G vs hm hl => ?_⟩
      obtain ⟨x, t, rfl, k1, hl⟩ := hl.head
      obtain ⟨y, t, rfl, k2, hl⟩ := hl.head
      obtain rfl := hl.nil_inv
      rw [i_str k1, i_int k2]
      have hs : (⟨s.toArray⟩ : ByteArray).size = s.length := by simp [ByteArray.size]
      have := h ⟨s.toArray⟩ c.toNat w (by omega) (by rw [hs]; omega)
      rw [Int.toNat_of_nonneg h1] at this
      simpa using this
    · cases e
  · cases e
noncomputable def strsC (x : V) (ih : Option (List (List UInt8))) : Option (List (List UInt8)) := match x, ih with | .str s, some l => some (s :: l) | _, _ => none
theorem strsC_ok {x : V} {ih : Option (List (List UInt8))} {ss : List (List UInt8)} (h : strsC x ih = some ss) : ∃ s l, x = .str s ∧ ih = some l ∧ ss = s :: l := by
  unfold strsC at h
  split at h
  · exact ⟨_, _, rfl, rfl, (Option.some.inj h).symm⟩
  · cases h
noncomputable def strs (l : List V) : Option (List (List UInt8)) := List.rec (some []) (fun x _ ih => strsC x ih) l
theorem strs_ok : ∀ {G : Gh} {l : List V} {us : List Value} {ss : List (List UInt8)}, strs l = some ss → LR G l us → us = ss.map fun s => Value.string ⟨s.toArray⟩
  | G, [], us, ss, h, hl => by
    obtain rfl := hl.nil_inv
    obtain rfl := Option.some.inj (show some [] = some ss from h)
    rfl
  | G, x :: l, us, ss, h, hl => by
    obtain ⟨y, t, rfl, h1, h2⟩ := hl.head
    obtain ⟨s, l', rfl, hs, rfl⟩ := strsC_ok (show strsC x (strs l) = some ss from h)
    rw [i_str h1, strs_ok hs h2]
    rfl
noncomputable def spJoin (args : List V) (n : Nat) (m : M) : R :=
  match args with
  | [x, .str sep] => match srcV m 1 x with
    | some (q, l) => match strs l with
      | some ss => match Nat.ble (Lib.join ss sep).length 1000000 && Nat.ble ss.length 1000000 with
        | true => .ok (.str (Lib.join ss sep)) n m
        | false => .fail
      | none => .fail
    | none => .fail
  | _ => .fail
theorem spJoin_ok {f : Nat} (hcl : callable P f = true)
    (h0 : ∀ (a : Option Addr) (c : Nat) (sep : ByteArray) (w : World), Calls P f #[.slice a 0 c, .string sep] w fun e w' => e = .returned (.string ⟨#[]⟩) ∧ w' = w)
    (h1 : ∀ (bk o c : Nat) (xs : List ByteArray) (sep : ByteArray) (w : World), (∀ (j : Nat) x, xs[j]? = some x → w.cell? ⟨bk, o + j, none⟩ = some (.string x)) → bk < w.heap.size → xs.length ≤ 140737488355328 → xs.length ≤ c →
      (Lib.join (xs.map (·.data.toList)) sep.data.toList).length ≤ 140737488355328 → Calls P f #[.slice (some ⟨bk, o, none⟩) xs.length c, .string sep] w fun e w' => e = .returned (.string ⟨(Lib.join (xs.map (·.data.toList)) sep.data.toList).toArray⟩) ∧ Below w.heap.size w w')
    (fl : Nat) (xs : List V) (n : Nat) (m : M) (v : V) (n' : Nat) (m' : M) (e : spJoin xs n m = .ok v n' m') : n ≤ n' ∧ callable P f = true ∧ FnOK P f xs fl n m v n' m' := by
  unfold spJoin at e
  split at e
  · rename_i x sep
    split at e
    · rename_i q l hsrc
      split at e
      · rename_i ss hss
        split at e
        · rename_i hb
          rw [Bool.and_eq_true] at hb
          have b1 := Nat.le_of_ble_eq_true hb.1
          have b2 := Nat.le_of_ble_eq_true hb.2
          simp only [R.ok.injEq] at e
          obtain ⟨rfl, rfl, rfl⟩ := e
          refine ⟨Nat.le_refl _, hcl, fn_text fun B w G vs hm hl => ?_⟩
          obtain ⟨u, t, rfl, k1, hl⟩ := hl.head
          obtain ⟨y, t, rfl, k2, hl⟩ := hl.head
          obtain rfl := hl.nil_inv
          rw [i_str k2]
          have hln : q = ss.length := by
            -- as many elements as texts
            have : ∀ (l : List V) (ss : List (List UInt8)), strs l = some ss → l.length = ss.length := by
              intro l
              induction l with
              | nil => intro ss h; obtain rfl := Option.some.inj (show some [] = some ss from h); rfl
              | cons x l ih =>
                intro ss h
                obtain ⟨s, l', rfl, hs, rfl⟩ := strsC_ok (show strsC x (strs l) = some ss from h)
                simp [ih _ hs]
            have h2 := this _ _ hss
            obtain ⟨h3, _⟩ := srcV_ok hm hsrc k1
            omega
          unfold srcV at hsrc
          split at hsrc
          · simp only [Option.some.injEq, Prod.mk.injEq] at hsrc
            obtain ⟨rfl, rfl⟩ := hsrc
            obtain rfl := Option.some.inj (show some [] = some ss from hss)
            have : u = .slice none 0 0 := by cases k1; rfl
            subst this
            refine (h0 none 0 ⟨sep.toArray⟩ w).mono ?_
            rintro e w' ⟨rfl, rfl⟩
            exact ⟨rfl, Below.refl _ _⟩
          · simp only [Option.some.injEq, Prod.mk.injEq] at hsrc
            obtain ⟨rfl, rfl⟩ := hsrc
            obtain rfl := Option.some.inj (show some [] = some ss from hss)
            obtain ⟨ad, c, rfl⟩ : ∃ ad c, u = .slice (some ad) 0 c := by cases k1; exact ⟨_, _, rfl⟩
            refine (h0 (some ad) c ⟨sep.toArray⟩ w).mono ?_
            rintro e w' ⟨rfl, rfl⟩
            exact ⟨rfl, Below.refl _ _⟩
          · rename_i b o q' c op
            split at hsrc
            · rename_i l' hs
              simp only [Option.some.injEq, Prod.mk.injEq] at hsrc
              obtain ⟨rfl, rfl⟩ := hsrc
              obtain ⟨ex, hal, hcap⟩ := i_sl k1
              obtain ⟨hl1, us, h2, h3, h4, _⟩ := slCells_ok (P := P) hs (hm.blk b)
              have hus := strs_ok hss h2.lr
              subst hus
              have hlive : live m b := by
                unfold live; intro hd; rw [hd] at hs; cases hs
              have hm2 : (ss.map fun s => (⟨s.toArray⟩ : ByteArray)).map (·.data.toList) = ss := by
                rw [List.map_map]
                have : ((fun x : ByteArray => x.data.toList) ∘ fun s : List UInt8 => (⟨s.toArray⟩ : ByteArray)) = id := by
                  funext s; rfl
                rw [this, List.map_id]
              have hll : (ss.map fun s => (⟨s.toArray⟩ : ByteArray)).length = q' := by rw [List.length_map]; omega
              have := h1 (G.ρ b) o (capV G b c op) (ss.map fun s => (⟨s.toArray⟩ : ByteArray)) ⟨sep.toArray⟩ w (fun j x hj => by
                refine h4 j (.string x) ?_
                rw [List.getElem?_map] at hj ⊢
                cases hq : ss[j]? with
                | none => rw [hq] at hj; cases hj
                | some s => rw [hq] at hj; simp only [Option.map_some, Option.some.injEq] at hj ⊢; rw [hj]) (hm.own b hlive).2.1 (by omega) (by omega) (by rw [hm2]; show (Lib.join ss sep).length ≤ _; omega)
              rw [hll, hm2] at this
              rw [ex]
              exact this
            · cases hsrc
          · cases hsrc
        · cases e
      · cases e
    · cases e
  · cases e
/-- a whole call, from nothing -/
noncomputable def mem0 (n : Nat) : M := Tr.full Bk.dead n
theorem get_mem0 : ∀ (n i : Nat), M.get (mem0 n) i = .dead
  | 0, i => rfl
  | n + 1, i => by
    have e : mem0 (n + 1) = .n (mem0 n) Bk.dead (mem0 n) := rfl
    rw [e]
    exact bit_cases (C := fun i => Tr.get Bk.dead (.n (mem0 n) Bk.dead (mem0 n)) i = Bk.dead) i rfl (fun j => by rw [Tr.get_l]; exact get_mem0 n j) (fun j => by rw [Tr.get_r]; exact get_mem0 n j)
theorem whole {call : CallT} (hc : CallOK P call) {f k n' : Nat} {m' : M} {args : List V} {v : V} (h : call 0 f args 0 (mem0 k) = .ok v n' m') (w : World) (vs : List Value) (ha : LR ⟨fun _ => False, id, id⟩ args vs) :
    Calls P f vs.toArray w fun e w' => ∃ x G', e = .returned x ∧ Below w.heap.size w w' ∧ CR G' v x := by
  obtain ⟨_, _, hfn⟩ := hc _ _ _ _ _ _ _ _ h
  have hm : MemR w.heap.size w ⟨fun _ => False, id, id⟩ 0 (mem0 k) := ⟨fun i => by rw [get_mem0]; trivial, fun i j _ hi => absurd (get_mem0 k i) hi, fun i hi => absurd (get_mem0 k i) hi, Nat.le_refl _⟩
  refine (hfn w.heap.size w _ vs hm ha ⟨Nat.le_refl _, fun i _ _ h => h⟩).mono ?_
  rintro e w' ⟨x, G', rfl, hp, hx⟩
  exact ⟨x, G', rfl, hp.below hm, hx⟩
noncomputable def isTrue (r : R) : Bool := match r with
  | .ok (.bool b) _ _ => b
  | _ => false
theorem whole_true {call : CallT} (hc : CallOK P call) {f k : Nat} (h : isTrue (call 0 f [] 0 (mem0 k)) = true) (w : World) : Calls P f #[] w fun e w' => e = .returned (.bool true) ∧ Below w.heap.size w w' := by
  unfold isTrue at h
  split at h
  · rename_i b n' m' hr
    subst h
    refine (whole hc hr w [] .nil).mono ?_
    rintro e w' ⟨x, G', rfl, h1, h2⟩
    rw [i_bool h2]
    exact ⟨rfl, h1⟩
  · cases h
end
end Go.Proofs.YtbpjinefbnlenaaGreatDoor.E

/- An exact machine, part 22: what is asked of a program's functions, reckoned. -/
namespace Go.Proofs.YtbpjinefbnlenaaGreatDoor.E
open Go Go.RowKit
set_option linter.unusedVariables false

noncomputable def fnB (fn : Func) : Bool := match fn.body with
  | none => true
  | some c => dOk fn.ntmps c && fn.name != "runtime.NumGoroutine"
noncomputable def fnsB (P : Program) : Bool := List.rec true (fun fn _ ih => Bool.rec false ih (fnB fn)) P.funcs.toList
theorem fnsB_all : ∀ l : List Func, List.rec (motive := fun _ => Bool) true (fun fn _ ih => Bool.rec false ih (fnB fn)) l = true → ∀ fn ∈ l, fnB fn = true
  | [], _, fn, h => by cases h
  | g :: l, h, fn, hm => by
    obtain ⟨h1, h2⟩ := and_rec (show Bool.rec (motive := fun _ => Bool) false (List.rec (motive := fun _ => Bool) true (fun fn _ ih => Bool.rec false ih (fnB fn)) l) (fnB g) = true from h)
    rcases List.mem_cons.1 hm with rfl | hm
    · exact h1
    · exact fnsB_all l h2 fn hm
theorem FnsOK.of {P : Program} (h : fnsB P = true) : FnsOK P := by
  intro f fn c hf hb
  have h1 := fnsB_all _ h fn (by simpa using Array.mem_of_getElem? hf)
  unfold fnB at h1
  rw [hb] at h1
  simp only [Bool.and_eq_true, bne_iff_ne, ne_eq] at h1
  exact h1
end Go.Proofs.YtbpjinefbnlenaaGreatDoor.E
