/- A machine of values, part 12: all pure operations in one. -/
import Derived.Test.YtbpjinefbnlenaaGreatDoorAm4b
import Derived.Test.YtbpjinefbnlenaaGreatDoorAm11o
import Derived.Laws.Externs
namespace Go.Proofs.YtbpjinefbnlenaaGreatDoor
open Go Go.RowKit
set_option linter.unusedVariables false

inductive Hint where
  | none
  | dec (b : Bool)
  | sel
  | call (res : AV) (new : List Blk)
  | same
  | bstr (U : Nat)
  | inp (e : Sh) (l : List e.T) (m : Option Nat)
  | mv (e : Sh) (l : List e.T)
/-- a call of a function without a body that hands its argument back (internal/abi.NoEscape) -/
def SameFn (P : Program) (g : FuncId) : Prop := ∃ fn, P.funcs[g]? = some fn ∧ (fn.name == "runtime.NumGoroutine") = false ∧ fn.body.isNone = true ∧ Extern.findNext fn = none ∧ Extern.find fn = some Extern.AbiNoEscape.same
def evSame (P : Program) (ts : List AV) (f : Operand) (args : List Operand) : Option (AV × List Blk × Prop) :=
  match ev ts f, args with
  | some (.fn g .nil), [x] =>
    match ev ts x with
    | some a => some (a, [], SameFn P g)
    | none => none
  | _, _ => none
theorem evSame_ok {P : Program} {o : Oper} {ts : List AV} {mem : List Blk} {base : Nat} {f : Operand} {args : Array Operand} {tys : Array TypeId} {av : AV} {new : List Blk} {C : Prop}
    (ho : o.op = .call { callee := .value f, args := args, argTypes := tys }) (h : evSame P ts f args.toList = some (av, new, C)) : PureOp P o ts mem base av new C := by
  unfold evSame at h
  split at h
  · rename_i g x hf hx
    split at h
    · rename_i u hu
      simp only [Option.some.injEq, Prod.mk.injEq] at h
      obtain ⟨rfl, rfl, rfl⟩ := h
      refine pure_val fun B w G a hC hm ht => ?_
      obtain ⟨vs, e1, hcv⟩ := (show ∃ vs : List Value, [a.eval f] = [Value.func (.func g) #[] vs.toArray] ∧ CellsR w G .nil vs from ev_ok ht hf)
      obtain rfl : vs = [] := hcv
      have ef : a.eval f = .func (.func g) #[] #[] := by simpa using e1
      have e2 : args = #[x] := by apply Array.ext'; simpa using hx
      obtain ⟨fn, h1, h2, h3, h4, h5⟩ := hC
      refine ⟨a.eval x, ?_, ev_ok ht hu⟩
      simp only [execOp, ho, resolve, ef, Deferred.ofValue, Sem.run_bind, Sem.run_pure, Result.andThen_ok, invoke]
      rw [run_callFunc_extern h1 h2 h3 h4 h5, e2, show (#[] ++ Array.map a.eval #[x] ++ #[] : Array Value) = #[a.eval x] by simp]
      rfl
    · cases h
  · cases h
/-- a choice between two values that is not known -/
def selAV (c : Bool) (a b : AV) : Option AV :=
  match a, b with
  | .bool x, .bool y => some (.bool (cond c x y))
  | .int k x, .int k' y => if k = k' then some (.int k (cond c x y)) else none
  | .str x, .str y => some (.str (cond c x y))
  | _, _ => none
theorem selAV_ok {w : World} {G : Gh} {c : Bool} {a b r : AV} {u v : Value} (h : selAV c a b = some r) (ha : ValR w G a u) (hb : ValR w G b v) : ValR w G r (if c then u else v) := by
  unfold selAV at h
  split at h
  · simp only [Option.some.injEq] at h; subst h; cases c <;> assumption
  · split at h
    · rename_i hk; subst hk; simp only [Option.some.injEq] at h; subst h; cases c <;> assumption
    · cases h
  · simp only [Option.some.injEq] at h; subst h; cases c <;> assumption
  · cases h
def oev (ts : List AV) : Option Operand → Option (Option AV)
  | none => some none
  | some x => (ev ts x).map some
theorem oev_ok {w : World} {G : Gh} {ts : List AV} {a : Act} (ht : TmpsR w G ts a) {x : Option Operand} {r : Option AV} (h : oev ts x = some r) : OV w G r (x.map a.eval) := by
  cases x with
  | none => simp only [oev, Option.some.injEq] at h; subst h; trivial
  | some x =>
    simp only [oev, Option.map_eq_some_iff] at h
    obtain ⟨y, hy, rfl⟩ := h
    exact ev_ok ht hy
def minI (a b : AV) : Option AV :=
  match a, b with
  | .int k x, .int k' y => if k = k' then some (.int k (if y < x then y else x)) else none
  | _, _ => none
def maxI (a b : AV) : Option AV :=
  match a, b with
  | .int k x, .int k' y => if k = k' then some (.int k (if y > x then y else x)) else none
  | _, _ => none
def v1 (r : Option AV) : Option (AV × List Blk × Prop) := r.map fun a => (a, [], True)
def v2 (r : Option (AV × Prop)) : Option (AV × List Blk × Prop) := r.map fun (a, C) => (a, [], C)
def evPure (P : Program) (ts : List AV) (mem : List Blk) (base : Nat) (o : Oper) (h : Hint) : Option (AV × List Blk × Prop) :=
  match o.op with
  | .move x => v1 (ev ts x)
  | .assign x => v1 (ev ts x)
  | .pick c a b =>
    match h with
    | .sel =>
      match ev ts c, ev ts a, ev ts b with
      | some (.bool t), some x, some y => v1 (selAV t x y)
      | _, _, _ => none
    | _ =>
      match ev ts c with
      | some (.bool true) => v1 (ev ts a)
      | some (.bool false) => v1 (ev ts b)
      | _ => none
  | .alloc t => (evAlloc P t).map fun c => (.ptr base [], [.box t c], True)
  | .box t x => (evBox ts x).map fun c => (.ptr base [], [.box t c], True)
  | .build t parts => v2 (evBuild P ts t parts.toList)
  | .buildSlice t len parts =>
    match h with
    | .sel => (bldFx P ts base o).map fun (b, C) => (.row base, [b], C)
    | _ => (evBuildSlice P ts t len parts.toList).map fun (b, C) => (.row base, [b], C)
  | .load t p =>
    match ev ts p with
    | some p => v2 (evLoad P mem t p)
    | none => none
  | .nilCheck x =>
    match ev ts x with
    | some (.ptr b p) => some (.ptr b p, [], True)
    | some (.pv c) => some (.pv c, [], True)
    | some (.fn f c) => some (.fn f c, [], True)
    | _ => none
  | .binOp op t x y _ =>
    match ev ts x, ev ts y with
    | some a, some b => v2 (evBinX P op t a b)
    | _, _ => none
  | .unOp op _ x =>
    match ev ts x with
    | some a => v1 (evUn op a)
    | none => none
  | .convert s d x =>
    match ev ts x with
    | some a => v1 (evConvX P mem s d a)
    | none => none
  | .makeFunc (.func f) first caps => if first.size = 0 then v1 ((capsAV ts caps.toList).map (.fn f ·)) else none
  | .slice t x lo hi mx =>
    match ev ts x, oev ts lo, oev ts hi, oev ts mx with
    | some a, some l, some h, some m => v2 (evSlice P t a l h m)
    | _, _, _, _ => none
  | .fieldAddr s x f =>
    match ev ts x with
    | some a => v1 (evFieldAddr P s a f)
    | none => none
  | .field s x f =>
    match ev ts x with
    | some a => v1 (evField P s a f)
    | none => none
  | .indexAddr t x i =>
    match ev ts x, ev ts i with
    | some a, some b => v2 (evIndexAddr P mem t a b)
    | _, _ => none
  | .index t x i =>
    match ev ts x, ev ts i with
    | some a, some b => v2 (evIndex P t a b)
    | _, _ => none
  | .extract x i =>
    match ev ts x with
    | some a => v1 (evExtract a i)
    | none => none
  | .makeSlice t l c =>
    match h with
    | .sel => none
    | _ => (evMake P ts t l c).map fun (b, C) => (.row base, [b], C)
  | .call c =>
    match c.callee with
    | .builtin .len =>
      match c.args.toList, c.argTypes.toList with
      | [x], [t] =>
        match ev ts x with
        | some a => v1 (evLen P mem t a)
        | none => none
      | _, _ => none
    | .builtin .min =>
      match c.args.toList with
      | [x, y] =>
        match ev ts x, ev ts y with
        | some a, some b => v1 (minI a b)
        | _, _ => none
      | _ => none
    | .builtin .max =>
      match c.args.toList with
      | [x, y] =>
        match ev ts x, ev ts y with
        | some a, some b => v1 (maxI a b)
        | _, _ => none
      | _ => none
    | .value f =>
      match h with
      | .call res new => evCall P ts mem base f c.args.toList res new
      | .same => evSame P ts f c.args.toList
      | _ => none
    | _ => none
  | _ => none
theorem v1_ok {r : Option AV} {av : AV} {new : List Blk} {C : Prop} (h : v1 r = some (av, new, C)) : r = some av ∧ new = [] ∧ C = True := by
  simp only [v1, Option.map_eq_some_iff, Prod.mk.injEq] at h
  obtain ⟨x, hx, rfl, rfl, rfl⟩ := h
  exact ⟨hx, rfl, rfl⟩
theorem v2_ok {r : Option (AV × Prop)} {av : AV} {new : List Blk} {C : Prop} (h : v2 r = some (av, new, C)) : r = some (av, C) ∧ new = [] := by
  simp only [v2, Option.map_eq_some_iff, Prod.mk.injEq, Prod.exists] at h
  obtain ⟨x, D, hx, rfl, rfl, rfl⟩ := h
  exact ⟨hx, rfl⟩
theorem arr1 {α : Type} {a : Array α} {x : α} (h : a.toList = [x]) : a = #[x] := by apply Array.ext'; simpa using h
theorem arr2 {α : Type} {a : Array α} {x y : α} (h : a.toList = [x, y]) : a = #[x, y] := by apply Array.ext'; simpa using h
theorem evPure_ok {P : Program} {o : Oper} {ts : List AV} {mem : List Blk} {base : Nat} {h : Hint} {av : AV} {new : List Blk} {C : Prop} (he : evPure P ts mem base o h = some (av, new, C)) : PureOp P o ts mem base av new C := by
  unfold evPure at he
  split at he
  case h_1 x ho =>
    obtain ⟨h1, rfl, rfl⟩ := v1_ok he
    exact pure_val fun B w G a _ hm ht => ⟨_, by simp only [execOp, ho]; rfl, ev_ok ht h1⟩
  case h_2 x ho =>
    obtain ⟨h1, rfl, rfl⟩ := v1_ok he
    exact pure_val fun B w G a _ hm ht => ⟨_, by simp only [execOp, ho]; rfl, ev_ok ht h1⟩
  case h_3 c x y ho =>
    have fin : ∀ (t : Bool) (a : Act) (w : World), a.eval c = .bool t → (execOp a.eval o).run P w = .ok (.value (if t then a.eval x else a.eval y)) w := by
      intro t a w hc
      simp only [execOp, ho, hc, asBool, Sem.run_bind, Sem.run_pure, Result.andThen_ok]
    split at he
    · split at he
      · rename_i t u v hc hx hy
        obtain ⟨h1, rfl, rfl⟩ := v1_ok he
        exact pure_val fun B w G a _ hm ht => ⟨_, fin t a w (val_bool (ev_ok ht hc)), selAV_ok h1 (ev_ok ht hx) (ev_ok ht hy)⟩
      · cases he
    · split at he
      · rename_i hc
        obtain ⟨h1, rfl, rfl⟩ := v1_ok he
        exact pure_val fun B w G a _ hm ht => ⟨_, fin true a w (val_bool (ev_ok ht hc)), ev_ok ht h1⟩
      · rename_i hc
        obtain ⟨h1, rfl, rfl⟩ := v1_ok he
        exact pure_val fun B w G a _ hm ht => ⟨_, fin false a w (val_bool (ev_ok ht hc)), ev_ok ht h1⟩
      · cases he
  case h_4 t ho =>
    simp only [Option.map_eq_some_iff, Prod.mk.injEq] at he
    obtain ⟨c, hc, rfl, rfl, rfl⟩ := he
    exact evAlloc_ok ho hc
  case h_5 t x ho =>
    simp only [Option.map_eq_some_iff, Prod.mk.injEq] at he
    obtain ⟨c, hc, rfl, rfl, rfl⟩ := he
    exact evBox_ok ho hc
  case h_6 t parts ho =>
    obtain ⟨h1, rfl⟩ := v2_ok he
    refine pure_val fun B w G a hC hm ht => ?_
    obtain ⟨v, hr, hv⟩ := evBuild_ok h1 hC ht
    exact ⟨v, by simp only [execOp, ho, Sem.run_bind, hr, Result.andThen_ok, Sem.run_pure], hv⟩
  case h_7 t len parts ho =>
    split at he
    · simp only [Option.map_eq_some_iff, Prod.mk.injEq, Prod.exists] at he
      obtain ⟨b, D, hb, rfl, rfl, rfl⟩ := he
      exact bldFx_ok hb
    · simp only [Option.map_eq_some_iff, Prod.mk.injEq, Prod.exists] at he
      obtain ⟨b, D, hb, rfl, rfl, rfl⟩ := he
      exact evBuildSlice_ok ho hb
  case h_8 t p ho =>
    split at he
    · rename_i q hq
      obtain ⟨h1, rfl⟩ := v2_ok he
      refine pure_val fun B w G a hC hm ht => ?_
      obtain ⟨v, hr, hv⟩ := evLoad_ok h1 hC hm (ev_ok ht hq)
      exact ⟨v, by simp only [execOp, ho, Sem.run_bind, hr, Result.andThen_ok, Sem.run_pure], hv⟩
    · cases he
  case h_9 x ho =>
    split at he
    · rename_i b p hx
      simp only [Option.some.injEq, Prod.mk.injEq] at he
      obtain ⟨rfl, rfl, rfl⟩ := he
      refine pure_val fun B w G a _ hm ht => ⟨a.eval x, ?_, ev_ok ht hx⟩
      rw [val_ptr (ev_ok ht hx)]
      simp only [execOp, ho]
      rw [val_ptr (ev_ok ht hx)]
      rfl
    · rename_i c hx
      simp only [Option.some.injEq, Prod.mk.injEq] at he
      obtain ⟨rfl, rfl, rfl⟩ := he
      refine pure_val fun B w G a _ hm ht => ⟨a.eval x, ?_, ev_ok ht hx⟩
      obtain ⟨b, off, cells, hv, _⟩ := val_pv (ev_ok ht hx)
      rw [hv]
      simp only [execOp, ho]
      rw [hv]
      rfl
    · rename_i f c hx
      simp only [Option.some.injEq, Prod.mk.injEq] at he
      obtain ⟨rfl, rfl, rfl⟩ := he
      refine pure_val fun B w G a _ hm ht => ⟨a.eval x, ?_, ev_ok ht hx⟩
      obtain ⟨vs, e1, _⟩ := (show ∃ vs : List Value, [a.eval x] = [Value.func (.func f) #[] vs.toArray] ∧ _ from ev_ok ht hx)
      have e2 : a.eval x = Value.func (.func f) #[] vs.toArray := by simpa using e1
      rw [e2]
      simp only [execOp, ho]
      rw [e2]
      rfl
    · cases he
  case h_10 op t x y ty ho =>
    split at he
    · rename_i u v hu hv
      obtain ⟨h1, rfl⟩ := v2_ok he
      refine pure_val fun B w G a hC hm ht => ?_
      obtain ⟨r, hr, hv⟩ := evBinX_ok (P := P) x y h1 hC (ev_ok ht hu) (ev_ok ht hv)
      refine ⟨r, ?_, hv⟩
      simp only [execOp, ho]
      rw [Sem.run_bind, hr]
      rfl
    · cases he
  case h_11 op t x ho =>
    split at he
    · rename_i u hu
      obtain ⟨h1, rfl, rfl⟩ := v1_ok he
      refine pure_val fun B w G a _ hm ht => ?_
      obtain ⟨r, hr, hv⟩ := evUn_ok (P := P) h1 (ev_ok ht hu)
      exact ⟨r, by simp only [execOp, ho, Sem.run_bind, hr, Result.andThen_ok, Sem.run_pure], hv⟩
    · cases he
  case h_12 s d x ho =>
    split at he
    · rename_i u hu
      obtain ⟨h1, rfl, rfl⟩ := v1_ok he
      refine pure_val fun B w G a _ hm ht => ?_
      obtain ⟨r, hr, hv⟩ := evConvX_ok (P := P) hm h1 (ev_ok ht hu)
      exact ⟨r, by simp only [execOp, ho, Sem.run_bind, hr, Result.andThen_ok, Sem.run_pure], hv⟩
    · cases he
  case h_13 f first caps ho =>
    split at he
    · rename_i hz
      obtain ⟨h1, rfl, rfl⟩ := v1_ok he
      simp only [Option.map_eq_some_iff] at h1
      obtain ⟨c, hc, rfl⟩ := h1
      refine pure_val fun B w G a _ hm ht => ⟨.func (.func f) #[] (caps.toList.map a.eval).toArray, ?_, caps.toList.map a.eval, rfl, caps_ok ht _ _ hc⟩
      have e1 : first = #[] := Array.eq_empty_of_size_eq_zero hz
      have e2 : caps.map a.eval = (caps.toList.map a.eval).toArray := by apply Array.ext'; simp
      simp only [execOp, ho, Instr.makeFunc, e1, e2, Sem.run_bind, Sem.run_pure, Result.andThen_ok]
      simp
    · cases he
  case h_14 t x lo hi mx ho =>
    split at he
    · rename_i u l h m hu hl hh hmx
      obtain ⟨h1, rfl⟩ := v2_ok he
      refine pure_val fun B w G a hC hm ht => ?_
      obtain ⟨r, hr, hv⟩ := evSlice_ok (P := P) h1 hC (ev_ok ht hu) (oev_ok ht hl) (oev_ok ht hh) (oev_ok ht hmx)
      exact ⟨r, by simp only [execOp, ho, Sem.run_bind, hr, Result.andThen_ok, Sem.run_pure], hv⟩
    · cases he
  case h_15 s x f ho =>
    split at he
    · rename_i u hu
      obtain ⟨h1, rfl, rfl⟩ := v1_ok he
      refine pure_val fun B w G a _ hm ht => ?_
      obtain ⟨r, hr, hv⟩ := evFieldAddr_ok (P := P) h1 (ev_ok ht hu)
      exact ⟨r, by simp only [execOp, ho, Sem.run_bind, hr, Result.andThen_ok, Sem.run_pure], hv⟩
    · cases he
  case h_16 s x f ho =>
    split at he
    · rename_i u hu
      obtain ⟨h1, rfl, rfl⟩ := v1_ok he
      refine pure_val fun B w G a _ hm ht => ?_
      obtain ⟨r, hr, hv⟩ := evField_ok (P := P) h1 (ev_ok ht hu)
      exact ⟨r, by simp only [execOp, ho, Sem.run_bind, hr, Result.andThen_ok, Sem.run_pure], hv⟩
    · cases he
  case h_17 t x i ho =>
    split at he
    · rename_i u v hu hv
      obtain ⟨h1, rfl⟩ := v2_ok he
      refine pure_val fun B w G a hC hm ht => ?_
      obtain ⟨r, hr, hv⟩ := evIndexAddr_ok (P := P) h1 hC hm (ev_ok ht hu) (ev_ok ht hv)
      exact ⟨r, by simp only [execOp, ho, Sem.run_bind, hr, Result.andThen_ok, Sem.run_pure], hv⟩
    · cases he
  case h_18 t x i ho =>
    split at he
    · rename_i u v hu hv
      obtain ⟨h1, rfl⟩ := v2_ok he
      refine pure_val fun B w G a hC hm ht => ?_
      obtain ⟨r, hr, hv⟩ := evIndex_ok (P := P) h1 hC (ev_ok ht hu) (ev_ok ht hv)
      exact ⟨r, by simp only [execOp, ho, Sem.run_bind, hr, Result.andThen_ok, Sem.run_pure], hv⟩
    · cases he
  case h_19 x i ho =>
    split at he
    · rename_i u hu
      obtain ⟨h1, rfl, rfl⟩ := v1_ok he
      refine pure_val fun B w G a _ hm ht => ?_
      obtain ⟨r, hr, hv⟩ := evExtract_ok (P := P) h1 (ev_ok ht hu)
      exact ⟨r, by simp only [execOp, ho, Sem.run_bind, hr, Result.andThen_ok, Sem.run_pure], hv⟩
    · cases he
  case h_20 t l c ho =>
    split at he
    · cases he
    · simp only [Option.map_eq_some_iff, Prod.mk.injEq, Prod.exists] at he
      obtain ⟨b, D, hb, rfl, rfl, rfl⟩ := he
      exact evMake_ok ho hb
  case h_21 c ho =>
    obtain ⟨callee, args, tys⟩ := c
    simp only at he
    split at he
    · split at he
      · rename_i x t hargs htys
        have e1 := arr1 hargs
        have e2 := arr1 htys
        split at he
        · rename_i u hu
          obtain ⟨h1, rfl, rfl⟩ := v1_ok he
          refine pure_val fun B w G a _ hm ht => ?_
          obtain ⟨r, hr, hv⟩ := evLen_ok (P := P) (ty := o.type) h1 hm (ev_ok ht hu)
          refine ⟨r, ?_, hv⟩
          simp only [execOp, ho, resolve, Sem.run_bind, Sem.run_pure, Result.andThen_ok, invoke, builtin, e1, e2, List.map_toArray, List.map_cons, List.map_nil, hr]
        · cases he
      · cases he
    · split at he
      · rename_i x y hargs
        have e1 := arr2 hargs
        split at he
        · rename_i u v hu hv
          obtain ⟨h1, rfl, rfl⟩ := v1_ok he
          refine pure_val fun B w G a _ hm ht => ?_
          unfold minI at h1
          split at h1
          · rename_i k p k' q
            split at h1
            · rename_i hk
              subst hk
              simp only [Option.some.injEq] at h1
              subst h1
              have a1 := val_int (ev_ok ht hu)
              have a2 := val_int (ev_ok ht hv)
              refine ⟨.int k (if q < p then q else p), ?_, rfl⟩
              simp only [execOp, ho, resolve, Sem.run_bind, Sem.run_pure, Result.andThen_ok, invoke, builtin, e1, List.map_toArray, List.map_cons, List.map_nil, a1, a2, Builtin.min_, List.foldlM, Builtin.min2]
            · cases h1
          · cases h1
        · cases he
      · cases he
    · split at he
      · rename_i x y hargs
        have e1 := arr2 hargs
        split at he
        · rename_i u v hu hv
          obtain ⟨h1, rfl, rfl⟩ := v1_ok he
          refine pure_val fun B w G a _ hm ht => ?_
          unfold maxI at h1
          split at h1
          · rename_i k p k' q
            split at h1
            · rename_i hk
              subst hk
              simp only [Option.some.injEq] at h1
              subst h1
              have a1 := val_int (ev_ok ht hu)
              have a2 := val_int (ev_ok ht hv)
              refine ⟨.int k (if q > p then q else p), ?_, rfl⟩
              simp only [execOp, ho, resolve, Sem.run_bind, Sem.run_pure, Result.andThen_ok, invoke, builtin, e1, List.map_toArray, List.map_cons, List.map_nil, a1, a2, Builtin.max_, List.foldlM, Builtin.max2]
            · cases h1
          · cases h1
        · cases he
      · cases he
    · split at he
      · exact evCall_ok ho he
      · exact evSame_ok ho he
      · cases he
    · cases he
  case h_22 => cases he
/-- with a decided test -/
def decH (h : Hint) (av : AV) (new : List Blk) (C : Prop) : Option (AV × List Blk × Prop) :=
  match h, av with
  | .dec b, .bool c => some (.bool b, new, C ∧ c = b)
  | .dec _, _ => none
  | _, _ => some (av, new, C)
def evDec (P : Program) (ts : List AV) (mem : List Blk) (base : Nat) (o : Oper) (h : Hint) : Option (AV × List Blk × Prop) :=
  match evPure P ts mem base o h with
  | some (av, new, C) => decH h av new C
  | none =>
    match evMore P ts mem base o with
    | some (av, new, C) => decH h av new C
    | none => none
theorem decH_ok {P : Program} {o : Oper} {ts : List AV} {mem : List Blk} {base : Nat} {h : Hint} {av av' : AV} {new new' : List Blk} {C C' : Prop} (hok : PureOp P o ts mem base av' new' C') (he : decH h av' new' C' = some (av, new, C)) : PureOp P o ts mem base av new C := by
  unfold decH at he
  split at he
  · simp only [Option.some.injEq, Prod.mk.injEq] at he
    obtain ⟨rfl, rfl, rfl⟩ := he
    intro B w G a hC hm ht h1 h2 next Q hn
    obtain ⟨hC, rfl⟩ := hC
    exact hok B w G a hC hm ht h1 h2 next Q hn
  · cases he
  · simp only [Option.some.injEq, Prod.mk.injEq] at he
    obtain ⟨rfl, rfl, rfl⟩ := he
    exact hok
theorem evDec_ok {P : Program} {o : Oper} {ts : List AV} {mem : List Blk} {base : Nat} {h : Hint} {av : AV} {new : List Blk} {C : Prop} (he : evDec P ts mem base o h = some (av, new, C)) : PureOp P o ts mem base av new C := by
  unfold evDec at he
  split at he
  · rename_i av' new' C' hp
    exact decH_ok (evPure_ok hp) he
  · split at he
    · rename_i av' new' C' hp
      exact decH_ok (evMore_ok hp) he
    · cases he
end Go.Proofs.YtbpjinefbnlenaaGreatDoor
