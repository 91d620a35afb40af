/- An exact machine, part 15: functions. -/
import Derived.Test.YtpmgggfjmkpleaaGreatDoorE14
namespace Go.Proofs.YtpmgggfjmkpleaaGreatDoor.E
open Go Go.RowKit
set_option linter.unusedVariables false

section
variable {P : Program} {nt : Nat}
noncomputable def cRegD (dr : Array Oper → K) (arr : Array Oper) (draw : Bool) : K := Bool.rec (cReg arr) (dr arr) draw
noncomputable def exec (dr : Array Oper → K) (c : Code) : K :=
  Code.rec cSkip (fun _ arr draw => cRegD dr arr draw) (fun _ _ a b => cSeq a b) (fun c _ _ a b => cCond c a b) (fun i _ a => cBlk i a) (fun _ a => cLoop a) (fun _ _ _ _ _ _ => cFail) cExit (fun _ a => a) (fun _ => cSkip) (fun _ => cFail) cRet (fun _ => cFail) c
noncomputable def dOk (nt : Nat) (c : Code) : Bool :=
  Code.rec true (fun _ arr _ => dOks nt arr.toList) (fun _ _ a b => Bool.rec false b a) (fun _ _ _ a b => Bool.rec false b a) (fun _ _ a => a) (fun _ a => a) (fun _ _ _ _ _ _ => true) (fun _ => true) (fun _ a => a) (fun _ => true) (fun _ => true) true (fun _ => true) c
/-- regions whose order is drawn -/
def DrOK (P : Program) (dr : Array Oper → K) : Prop := ∀ (nt id : Nat) (arr : Array Oper), dOks nt arr.toList = true → ExOK P nt (.region id arr true) (dr arr)
theorem and_rec {a b : Bool} (h : Bool.rec (motive := fun _ => Bool) false b a = true) : a = true ∧ b = true := by cases a <;> simp_all
theorem exec_ok {dr : Array Oper → K} (hdr : DrOK P dr) : ∀ c : Code, dOk nt c = true → ExOK P nt c (exec dr c)
  | .skip, _ => skip_ok
  | .region id arr false, h => reg_ok h
  | .region id arr true, h => hdr nt id arr h
  | .seq a b, h => by
    have h : Bool.rec (motive := fun _ => Bool) false (dOk nt b) (dOk nt a) = true := h
    exact seq_ok (exec_ok hdr a (and_rec h).1) (exec_ok hdr b (and_rec h).2)
  | .cond c a b, h => by
    have h : Bool.rec (motive := fun _ => Bool) false (dOk nt b) (dOk nt a) = true := h
    exact cond_ok (exec_ok hdr a (and_rec h).1) (exec_ok hdr b (and_rec h).2)
  | .block i a, h => blk_ok (exec_ok hdr a h)
  | .loop a, h => loop_ok (exec_ok hdr a h)
  | .rangeFunc _ _ _ _, _ => fail_ok
  | .exit i, _ => exit_ok
  | .scope a, h => scope_ok (exec_ok hdr a h)
  | .label l, _ => label_ok
  | .goto l, _ => fail_ok
  | .ret, _ => ret_ok
  | .refuse _, _ => fail_ok
/-! results -/
noncomputable def res1 (P : Program) (ts : T) (m : M) (r : ResultVar) : Option V :=
  ResultVar.rec (fun t => some (T.get ts t)) (fun a t => vPtr none (T.get ts a) fun b off => Bk.casesOn (M.get m b) none (fun tt l op => ldc P t l off) (fun _ => none) (fun _ _ => none)) r
noncomputable def resC (x : Option V) (ih : Option (List V)) : Option (List V) := Option.rec none (fun v => Option.rec none (fun l => some (v :: l)) ih) x
noncomputable def resV (P : Program) (ts : T) (m : M) (l : List ResultVar) : Option (List V) := List.rec (some []) (fun r _ ih => resC (res1 P ts m r) ih) l
def resOf (tmps : Array Value) : ResultVar → Sem Value
  | .tmp t => pure (tmps.getD t undef)
  | .cell a t => do loadVar t (← asAddr (tmps.getD a undef))
theorem results_eq (fn : Func) (tmps : Array Value) : results fn tmps = (do let vs ← fn.results.mapM (resOf tmps); pure (if h : vs.size = 1 then vs[0] else .tuple vs)) := by
  unfold results
  have : (fun (r : ResultVar) => (match r with | .tmp t => pure (tmps.getD t undef) | .cell a t => do loadVar t (← asAddr (tmps.getD a undef)) : Sem Value)) = resOf tmps := by
    funext r; cases r <;> rfl
  rw [← this]
  rfl
theorem res1_ok {B : Nat} {w : World} {G : Gh} {n : Nat} {m : M} {ts : T} {a : Act} {r : ResultVar} {v : V} (hm : MemR B w G n m) (ht : TR G ts nt a) (h : res1 P ts m r = some v) : ∃ x, (resOf a.tmps r).run P w = .ok x w ∧ CR G v x := by
  cases r with
  | tmp t =>
    obtain rfl := Option.some.inj (show some (T.get ts t) = some v from h)
    exact ⟨_, rfl, ht.val t⟩
  | cell a' t =>
    have h : vPtr none (T.get ts a') (fun b off => Bk.casesOn (motive := fun _ => Option V) (M.get m b) none (fun tt l op => ldc P t l off) (fun _ => none) (fun _ _ => none)) = some v := h
    have hv := ht.val a'
    cases e : T.get ts a' with
    | ptr b off =>
      rw [e] at h hv
      have h : Bk.casesOn (motive := fun _ => Option V) (M.get m b) none (fun tt l op => ldc P t l off) (fun _ => none) (fun _ _ => none) = some v := h
      have hb := hm.blk b
      cases hg : M.get m b with
      | cells tt l op =>
        rw [hg] at h hb
        obtain ⟨ep, _⟩ := i_ptr hv
        obtain ⟨x, h1, h2⟩ := loadVar_run (P := P) h hb
        refine ⟨x, ?_, h2⟩
        simp only [resOf, ep, asAddr, Sem.run_bind, Sem.run_pure, Result.andThen_ok, h1]
      | _ => rw [hg] at h; cases h
    | _ => rw [e] at h; cases h
theorem resV_ok {B : Nat} {w : World} {G : Gh} {n : Nat} {m : M} {ts : T} {a : Act} (hm : MemR B w G n m) (ht : TR G ts nt a) : ∀ (l : List ResultVar) (vs : List V), resV P ts m l = some vs → ∃ xs, (l.mapM (resOf a.tmps)).run P w = .ok xs w ∧ LR G vs xs
  | [], vs, h => by
    obtain rfl := Option.some.inj (show some [] = some vs from h)
    exact ⟨[], by simp [Sem.run_pure], .nil⟩
  | r :: l, vs, h => by
    have h : resC (res1 P ts m r) (resV P ts m l) = some vs := h
    cases h1 : res1 P ts m r with
    | none => rw [h1] at h; cases h
    | some v =>
      rw [h1] at h
      cases h2 : resV P ts m l with
      | none => rw [h2] at h; cases h
      | some vl =>
        rw [h2] at h
        obtain rfl := Option.some.inj (show some (v :: vl) = some vs from h)
        obtain ⟨x, h3, h4⟩ := res1_ok hm ht h1
        obtain ⟨xs, h5, h6⟩ := resV_ok hm ht l vl h2
        refine ⟨x :: xs, ?_, h6.cons h4⟩
        rw [List.mapM_cons]
        simp only [Sem.run_bind, h3, h5, Result.andThen_ok, Sem.run_pure]
noncomputable def oneV (l : List V) : V := List.rec (V.tup []) (fun v t _ => List.rec v (fun _ _ _ => V.tup (v :: t)) t) l
noncomputable def fin2 (n : Nat) (m : M) (l : Option (List V)) : R := Option.rec .fail (fun l => .ok (oneV l) n m) l
noncomputable def fin (P : Program) (rs : List ResultVar) (o : Out) : R := Out.rec R.fail (fun ts n m => fin2 n m (resV P ts m rs)) (fun _ _ _ _ => R.fail) (fun ts n m => fin2 n m (resV P ts m rs)) o
theorem fin2_ok {B : Nat} {w : World} {G : Gh} {n n' : Nat} {m m' : M} {ts : T} {a : Act} {fn : Func} {v : V} (hm : MemR B w G n m) (ht : TR G ts nt a) (h : fin2 n m (resV P ts m fn.results.toList) = .ok v n' m') :
    n' = n ∧ m' = m ∧ ∃ x, (results fn a.tmps).run P w = .ok x w ∧ CR G v x := by
  cases hr : resV P ts m fn.results.toList with
  | none => rw [hr] at h; cases h
  | some vs =>
    rw [hr] at h
    have h : R.ok (oneV vs) n m = .ok v n' m' := h
    simp only [R.ok.injEq] at h
    obtain ⟨rfl, rfl, rfl⟩ := h
    obtain ⟨xs, h1, h2⟩ := resV_ok hm ht _ _ hr
    have e : ∀ (mm : Sem (List Value)), mm.run P w = .ok xs w → ((List.toArray <$> mm : Sem (Array Value))).run P w = .ok xs.toArray w := by
      intro mm hmm
      rw [map_eq_pure_bind]
      simp only [Sem.run_bind, hmm, Result.andThen_ok, Sem.run_pure]
    refine ⟨rfl, rfl, if h : xs.toArray.size = 1 then xs.toArray[0] else .tuple xs.toArray, ?_, ?_⟩
    · rw [results_eq, Array.mapM_eq_mapM_toList]
      simp only [Sem.run_bind]
      rw [e _ h1]
      simp only [Result.andThen_ok, Sem.run_pure]
    · match vs, h2 with
      | [], h2 => obtain rfl := h2.nil_inv; exact .tup [] [] rfl fun i => .unk _
      | [v], h2 =>
        obtain ⟨x, t, rfl, h3, h4⟩ := h2.head
        obtain rfl := h4.nil_inv
        exact h3
      | v :: v2 :: l, h2 =>
        obtain ⟨x, t, rfl, h3, h4⟩ := h2.head
        obtain ⟨x2, t2, rfl, h5, h6⟩ := h4.head
        rw [dif_neg (by simp)]
        exact .tup _ _ h2.1 h2.2
/-! a call -/
noncomputable def T.full (n : Nat) : T := Tr.full V.unk n
theorem get_full : ∀ (n i : Nat), Tr.get V.unk (Tr.full V.unk n) i = V.unk
  | 0, i => rfl
  | n + 1, i => by
    have e : Tr.full V.unk (n + 1) = .n (Tr.full V.unk n) V.unk (Tr.full V.unk n) := rfl
    rw [e]
    exact bit_cases (C := fun i => Tr.get V.unk (.n (Tr.full V.unk n) V.unk (Tr.full V.unk n)) i = V.unk) i rfl (fun j => by rw [Tr.get_l]; exact get_full n j) (fun j => by rw [Tr.get_r]; exact get_full n j)
noncomputable def argsT (l : List V) : Nat → T → T := List.rec (fun _ ts => ts) (fun v _ ih i ts => ih (Nat.succ i) (T.set ts i v)) l
theorem argsT_ok {G : Gh} {tm : Array Value} : ∀ (l : List V) (i : Nat) (ts : T), (∀ t, CR G (T.get ts t) (tm.getD t undef)) → (∀ j, CR G (l.getD j .unk) (tm.getD (i + j) undef)) → ∀ t, CR G (T.get (argsT l i ts) t) (tm.getD t undef)
  | [], i, ts, h, _ => h
  | v :: l, i, ts, h, hl => by
    refine argsT_ok l (i + 1) (T.set ts i v) (fun t => ?_) fun j => by have := hl (j + 1); rwa [show i + (j + 1) = i + 1 + j by omega] at this
    by_cases e : t = i
    · subst e
      rcases Tr.get_self V.unk ts t v with h' | h' <;> show CR G (Tr.get V.unk (Tr.set ts t v) t) _ <;> rw [h']
      · exact hl 0
      · exact .unk _
    · show CR G (Tr.get V.unk (Tr.set ts i v) t) _
      rw [Tr.get_set V.unk ts i t v e]
      exact h t
noncomputable def lvl (n : Nat) : Nat := Bool.rec (Bool.rec (Bool.rec 14 10 (Nat.ble n 1023)) 7 (Nat.ble n 127)) 5 (Nat.ble n 31)
noncomputable def callFn (dr : Array Oper → K) (P : Program) (call : CallT) (fn : Func) (fl : Nat) (xs : List V) (n : Nat) (m : M) : R :=
  Option.rec R.fail (fun c => Bool.rec R.fail (fin P fn.results.toList (exec dr c P call fl (argsT xs 0 (T.full (lvl fn.ntmps))) n m)) (Bool.rec false (Nat.ble fl n) (Nat.ble xs.length fn.ntmps))) fn.body
/-- what holds of every function of the program -/
def FnsOK (P : Program) : Prop := ∀ (f : Nat) (fn : Func) (c : Code), P.funcs[f]? = some fn → fn.body = some c → dOk fn.ntmps c = true ∧ fn.name ≠ "runtime.NumGoroutine"
theorem callFn_ok {dr : Array Oper → K} {call : CallT} {f : Nat} {fn : Func} {fl n n' : Nat} {xs : List V} {m m' : M} {v : V} (hdr : DrOK P dr) (hc : CallOK P call) (hall : FnsOK P) (hf : P.funcs[f]? = some fn) (h : callFn dr P call fn fl xs n m = .ok v n' m') :
    n ≤ n' ∧ callable P f = true ∧ FnOK P f xs fl n m v n' m' := by
  cases hb : fn.body with
  | none => unfold callFn at h; rw [hb] at h; cases h
  | some c =>
    obtain ⟨hd, hnm⟩ := hall f fn c hf hb
    have h : Bool.rec (motive := fun _ => R) R.fail (fin P fn.results.toList (exec dr c P call fl (argsT xs 0 (T.full (lvl fn.ntmps))) n m)) (Bool.rec (motive := fun _ => Bool) false (Nat.ble fl n) (Nat.ble xs.length fn.ntmps)) = .ok v n' m' := by
      unfold callFn at h; rw [hb] at h; exact h
    cases hck : Bool.rec (motive := fun _ => Bool) false (Nat.ble fl n) (Nat.ble xs.length fn.ntmps) with
    | false => rw [hck] at h; cases h
    | true =>
      rw [hck] at h
      obtain ⟨hx, hfl⟩ := and_rec hck
      have hx := Nat.le_of_ble_eq_true hx
      have hfl := Nat.le_of_ble_eq_true hfl
      have h : fin P fn.results.toList (exec dr c P call fl (argsT xs 0 (T.full (lvl fn.ntmps))) n m) = .ok v n' m' := h
      have hne : exec dr c P call fl (argsT xs 0 (T.full (lvl fn.ntmps))) n m ≠ .fail := fun e => by rw [e] at h; cases h
      obtain ⟨h1, h2⟩ := exec_ok hdr c hd call fl _ n m hc hne
      have hno : nOf (exec dr c P call fl (argsT xs 0 (T.full (lvl fn.ntmps))) n m) = n' := by
        cases ho : exec dr c P call fl (argsT xs 0 (T.full (lvl fn.ntmps))) n m with
        | fail => exact absurd ho hne
        | ex i ts1 n1 m1 => rw [ho] at h; cases h
        | nrm ts1 n1 m1 =>
          rw [ho] at h
          have h : fin2 n1 m1 (resV P ts1 m1 fn.results.toList) = .ok v n' m' := h
          cases hr : resV P ts1 m1 fn.results.toList with
          | none => rw [hr] at h; cases h
          | some vs => rw [hr] at h; have h : R.ok (oneV vs) n1 m1 = .ok v n' m' := h; simp only [R.ok.injEq] at h; exact h.2.1
        | ret ts1 n1 m1 =>
          rw [ho] at h
          have h : fin2 n1 m1 (resV P ts1 m1 fn.results.toList) = .ok v n' m' := h
          cases hr : resV P ts1 m1 fn.results.toList with
          | none => rw [hr] at h; cases h
          | some vs => rw [hr] at h; have h : R.ok (oneV vs) n1 m1 = .ok v n' m' := h; simp only [R.ok.injEq] at h; exact h.2.1
      rw [hno] at h1 h2
      refine ⟨h1, ?_, ?_⟩
      · unfold callable; rw [hf]; simp [hb, hnm]
      · intro B w G vs hm hl hfr
        refine calls_of_wp hf hb (h2 B w G _ _ hm ⟨?_, ?_⟩ rfl hfr.1 hfr.2 ?_)
        · have := hl.1; simp; omega
        · intro t
          refine argsT_ok xs 0 (T.full (lvl fn.ntmps)) (fun t => by show CR G (Tr.get V.unk (Tr.full V.unk _) t) _; rw [get_full]; exact .unk _) (fun j => ?_) t
          have hj := hl.2 j
          rcases Nat.lt_or_ge j vs.length with hlt | hge
          · have e : ((vs.toArray ++ Array.replicate (fn.ntmps - vs.toArray.size) undef).getD (0 + j) undef) = vs.getD j undef := by
              rw [Nat.zero_add]
              simp [Array.getD_eq_getD_getElem?, Array.getElem?_append, hlt]
            rw [e]; exact hj
          · have : xs.getD j .unk = .unk := by
              rw [List.getD_eq_getElem?_getD, List.getElem?_eq_none (by have := hl.1; omega)]; rfl
            rw [this]; exact .unk _
        · cases ho : exec dr c P call fl (argsT xs 0 (T.full (lvl fn.ntmps))) n m with
          | fail => exact absurd ho hne
          | ex i ts1 n1 m1 => rw [ho] at h; cases h
          | nrm ts1 n1 m1 =>
            rw [ho] at h
            intro a' w' G' hp ht' hdf'
            obtain ⟨rfl, rfl, x, hr, hv⟩ := fin2_ok hp.memr ht' h
            exact ⟨hdf', x, hr, x, G', rfl, hp, hv⟩
          | ret ts1 n1 m1 =>
            rw [ho] at h
            intro a' w' G' hp ht' hdf'
            obtain ⟨rfl, rfl, x, hr, hv⟩ := fin2_ok hp.memr ht' h
            exact ⟨hdf', x, hr, x, G', rfl, hp, hv⟩
/-- functions whose contracts are given -/
def SpOK (P : Program) (sp : Nat → Option (List V → Nat → M → R)) : Prop := ∀ f h, sp f = some h → ∀ fl xs n m v n' m', h xs n m = .ok v n' m' → n ≤ n' ∧ callable P f = true ∧ FnOK P f xs fl n m v n' m'
noncomputable def runF (dr : Array Oper → K) (sp : Nat → Option (List V → Nat → M → R)) (P : Program) (d : Nat) : CallT :=
  Nat.rec (fun _ _ _ _ _ => R.fail) (fun _ ih fl f xs n m => Option.rec (Option.rec R.fail (fun fn => callFn dr P ih fn fl xs n m) P.funcs[f]?) (fun h => h xs n m) (sp f)) d
theorem runF_ok {dr : Array Oper → K} {sp : Nat → Option (List V → Nat → M → R)} (hdr : DrOK P dr) (hall : FnsOK P) (hsp : SpOK P sp) : ∀ d, CallOK P (runF dr sp P d)
  | 0 => fun fl f xs n m v n' m' h => by cases h
  | d + 1 => fun fl f xs n m v n' m' h => by
    have h : Option.rec (motive := fun _ => R) (Option.rec (motive := fun _ => R) R.fail (fun fn => callFn dr P (runF dr sp P d) fn fl xs n m) P.funcs[f]?) (fun h => h xs n m) (sp f) = .ok v n' m' := h
    cases hs : sp f with
    | some g => rw [hs] at h; exact hsp f g hs fl xs n m v n' m' h
    | none =>
      rw [hs] at h
      cases hf : P.funcs[f]? with
      | none =>
        have h : Option.rec (motive := fun _ => R) R.fail (fun fn => callFn dr P (runF dr sp P d) fn fl xs n m) P.funcs[f]? = .ok v n' m' := h
        rw [hf] at h; cases h
      | some fn =>
        have h : Option.rec (motive := fun _ => R) R.fail (fun fn => callFn dr P (runF dr sp P d) fn fl xs n m) P.funcs[f]? = .ok v n' m' := h
        rw [hf] at h
        exact callFn_ok hdr (runF_ok hdr hall hsp d) hall hf h
end
end Go.Proofs.YtpmgggfjmkpleaaGreatDoor.E
