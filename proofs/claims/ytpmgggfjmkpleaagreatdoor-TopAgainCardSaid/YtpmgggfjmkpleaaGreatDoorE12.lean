/- An exact machine, part 12: iterators, type assertions, builtins. -/
import Derived.Test.YtpmgggfjmkpleaaGreatDoorE11
namespace Go.Proofs.YtpmgggfjmkpleaaGreatDoor.E
open Go Go.RowKit
set_option linter.unusedVariables false

section
variable {P : Program} {o : Oper} {ts : T} {v : V} {fl n : Nat} {m : M}
noncomputable def oNext (fl n : Nat) (m : M) (x : V) (st : Bool) : R :=
  match x, st with
  | .ptr b 0, true => match M.get m b with
    | .iter s pos => match Nat.blt pos s.length with
      | true => match Nat.ble fl b && Nat.blt (s.getD pos 0).toNat 128 with
        | true => .ok (.tup [.bool true, .int .i64 pos, .int .i32 (s.getD pos 0).toNat]) n (M.set m b (.iter s (pos + 1)))
        | false => .fail
      | false => .ok (.tup [.bool false]) n m
    | _ => .fail
  | _, _ => .fail
theorem cr_tup1 {G : Gh} {a : V} {x : Value} (h : CR G a x) : CR G (.tup [a]) (.tuple #[x]) := by
  have := (LR.nil (G := G)).cons h
  exact .tup _ _ this.1 this.2
theorem cr_tup3 {G : Gh} {a b c : V} {x y z : Value} (h : CR G a x) (k : CR G b y) (l : CR G c z) : CR G (.tup [a, b, c]) (.tuple #[x, y, z]) := by
  have := ((LR.nil (G := G)).cons l |>.cons k).cons h
  exact .tup _ _ this.1 this.2
theorem next_ok {x : Operand} {st : Bool} {n' : Nat} {m' : M} (ho : o.op = .next x st) (h : oNext fl n m (evo ts x) st = .ok v n' m') : OpOK P o ts fl n m v n' m' := by
  refine op_of_run fun B w G a hm ha hfl => ?_
  rw [ho] at ha
  have hx := ha x (by simp [Op.operands])
  unfold oNext at h
  split at h
  case h_2 => cases h
  rename_i b ex
  rw [ex] at hx
  obtain ⟨ep, hal⟩ := i_ptr hx
  split at h
  case h_2 => cases h
  rename_i s pos hget
  have hbk := hm.blk b
  rw [hget] at hbk
  have hbk : w.heap[G.ρ b]? = some (.stringIter ⟨s.toArray⟩ pos) := hbk
  have hsz : (⟨s.toArray⟩ : ByteArray).size = s.length := by simp [ByteArray.size]
  split at h
  · rename_i hlt
    have hlt : pos < s.length := Nat.le_of_ble_eq_true hlt
    split at h
    case h_2 => cases h
    rename_i hc
    rw [Bool.and_eq_true] at hc
    have hfb := Nat.le_of_ble_eq_true hc.1
    have hc2 : (s.getD pos 0).toNat < 128 := Nat.le_of_ble_eq_true hc.2
    simp only [R.ok.injEq] at h
    obtain ⟨rfl, rfl, rfl⟩ := h
    have hg : (⟨s.toArray⟩ : ByteArray)[pos]'(by rw [hsz]; exact hlt) = s.getD pos 0 := by
      show s.toArray[pos]'_ = _
      simp [List.getD_eq_getElem?_getD, hlt]
    have hr := Lib.run_next_ascii_at (P := P) w (G.ρ b) ⟨s.toArray⟩ pos o.type hbk (by rw [hsz]; exact hlt) (by rw [hg]; exact hc2)
    rw [hg] at hr
    have hlive : live m b := by unfold live; rw [hget]; exact fun h => by cases h
    refine ⟨_, w.iterAt (G.ρ b) ⟨s.toArray⟩ (pos + 1), G, ?_, (hm.write (w' := w.iterAt (G.ρ b) ⟨s.toArray⟩ (pos + 1)) (x := .iter s (pos + 1)) hlive ⟨rfl, rfl, rfl, by rw [Lib.iterAt_size]; exact Nat.le_refl _⟩ (Lib.iterAt_size _ _ _ _) (fun k hk => Lib.iterAt_other w _ _ _ _ hk) (Lib.iterAt_heap w _ _ _ _ hbk)).mono hfb, cr_tup3 (.bool _) (.int _ _) (.int _ _)⟩
    simp only [execOp, ho, ep, Sem.run_bind, hr, Result.andThen_ok, Sem.run_pure]
  · rename_i hlt
    have hlt : ¬ pos < s.length := fun e => by
      have : Nat.blt pos s.length = true := Nat.ble_eq_true_of_le e
      rw [this] at hlt; cases hlt
    simp only [R.ok.injEq] at h
    obtain ⟨rfl, rfl, rfl⟩ := h
    have hr := Lib.run_next_end_at (P := P) w (G.ρ b) ⟨s.toArray⟩ pos o.type hbk (by rw [hsz]; exact hlt)
    refine ⟨_, w, G, ?_, Post.refl hm fl, cr_tup1 (.bool _)⟩
    simp only [execOp, ho, ep, Sem.run_bind, hr, Result.andThen_ok, Sem.run_pure]
def pTA (P : Program) (t : TypeId) (ok : Bool) (x : V) (z : Option V) : Option V :=
  match x, ok, notAgg P t, P.underlying t, z with
  | .nili, true, true, some _, some z => some (.tup [z, .bool false])
  | _, _, _, _, _ => none
theorem ta_ok {x : Operand} {t t' : TypeId} {ok : Bool} (ho : o.op = .typeAssert x t' t ok) (h : pTA P t ok (evo ts x) (zv1 P t) = some v) : PureOK P o ts v := by
  intro G a w ha
  rw [ho] at ha
  have hx := ha x (by simp [Op.operands])
  unfold pTA at h
  split at h
  · rename_i d z e hna hu hz
    obtain rfl := Option.some.inj h
    rw [e] at hx
    have ex : a.eval x = .nilIface := by generalize a.eval x = u at hx; cases hx; rfl
    obtain ⟨zz, hzr, hzc⟩ := zv1_run (w := w) hz hna
    refine ⟨.tuple #[zz, .bool false], ?_, cr_pair (hzc G) (.bool _)⟩
    simp only [execOp, ho, Instr.typeAssert, Sem.run_bind, run_underlying hu, Result.andThen_ok, ex]
    cases d <;> simp only [Sem.run_bind, hzr, Result.andThen_ok, Sem.run_pure, if_true]
  · cases h
/-! builtins -/
noncomputable def lenV (P : Program) (m : M) (t : TypeId) (x : V) : Option Nat :=
  match P.underlying t, x with
  | some .string, .str s => some s.length
  | some (.slice _), .sl _ _ k _ _ => some k
  | some (.slice _), .nils => some 0
  | some (.slice _), .emp _ => some 0
  | some (.array k _), _ => some k
  | some (.pointer a), _ => (match P.underlying a with | some (.array k _) => some k | _ => none)
  | some (.map _ _), .nilm => some 0
  | some (.map _ _), .mp b => (match M.get m b with | .map es => some es.length | _ => none)
  | _, _ => none
theorem lenV_run {B : Nat} {w : World} {G : Gh} {t ty : TypeId} {x : V} {u : Value} {k : Nat} (hm : MemR B w G n m) (h : lenV P m t x = some k) (hx : CR G x u) : (Builtin.len_ #[t] ty #[u]).run P w = .ok (.int .i64 k) w := by
  unfold lenV at h
  split at h
  · rename_i s hu
    obtain rfl := Option.some.inj h
    rw [i_str hx]
    unfold Builtin.len_
    have hs : (⟨s.toArray⟩ : ByteArray).size = s.length := by simp [ByteArray.size]
    simp only [List.getElem?_toArray, List.getElem?_cons_zero, Sem.run_bind, run_underlying hu, Result.andThen_ok, goInt, hs, Sem.run_pure]
  · rename_i hu
    obtain rfl := Option.some.inj h
    obtain ⟨e, _⟩ := i_sl hx
    rw [e]
    unfold Builtin.len_
    simp [run_underlying hu, goInt]
  · rename_i hu
    obtain rfl := Option.some.inj h
    cases hx
    unfold Builtin.len_
    simp [run_underlying hu, goInt]
  · rename_i hu
    obtain rfl := Option.some.inj h
    cases hx
    unfold Builtin.len_
    simp [run_underlying hu, goInt]
  · rename_i hu
    obtain rfl := Option.some.inj h
    unfold Builtin.len_
    simp [run_underlying hu, goInt]
  · rename_i a hu
    split at h
    · rename_i ha
      obtain rfl := Option.some.inj h
      unfold Builtin.len_
      simp [run_underlying hu, run_underlying ha, goInt]
    · cases h
  · rename_i hu
    obtain rfl := Option.some.inj h
    cases hx
    unfold Builtin.len_
    simp [run_underlying hu, goInt]
  · rename_i b hu
    split at h
    · rename_i es hget
      obtain rfl := Option.some.inj h
      have hbk := hm.blk b
      rw [hget] at hbk
      obtain ⟨ys, clock, h1, h2⟩ := hbk
      cases hx
      have hl : ys.length = es.length := EntsR.len h2
      unfold Builtin.len_
      simp [run_underlying hu, goInt, getObj, Sem.run, h1, hl]
    · cases h
  · cases h
/-- a call of a builtin -/
def bCall (b : Builtin) (args : Array Operand) (tys : Array TypeId) : Op := .call { callee := .builtin b, args := args, argTypes := tys }
theorem bi_len {t : TypeId} {x : Operand} {k : Nat} (ho : o.op = bCall .len #[x] #[t]) (h : lenV P m t (evo ts x) = some k) : OpOK P o ts fl n m (.int .i64 k) n m := by
  refine op_of_run fun B w G a hm ha hfl => ?_
  rw [ho] at ha
  have hx := ha x (by simp [bCall, Op.operands, Call.operands])
  refine ⟨.int .i64 k, w, G, ?_, Post.refl hm fl, .int _ _⟩
  have hr := lenV_run (ty := o.type) hm h hx
  simp only [execOp, ho, bCall, resolve, Sem.run_bind, Sem.run_pure, Result.andThen_ok, invoke, builtin, List.map_toArray, List.map_cons, List.map_nil, hr]
def capVV (P : Program) (t : TypeId) (x : V) : Option Nat :=
  match P.underlying t, x with
  | some (.slice _), .sl _ _ _ c false => some c
  | some (.slice _), .nils => some 0
  | some (.slice _), .emp true => some 0
  | some (.array k _), _ => some k
  | some (.pointer a), _ => (match P.underlying a with | some (.array k _) => some k | _ => none)
  | _, _ => none
theorem bi_cap {t : TypeId} {x : Operand} {k : Nat} (ho : o.op = bCall .cap #[x] #[t]) (h : capVV P t (evo ts x) = some k) : PureOK P o ts (.int .i64 k) := by
  intro G a w ha
  rw [ho] at ha
  have hx := ha x (by simp [bCall, Op.operands, Call.operands])
  refine ⟨.int .i64 k, ?_, .int _ _⟩
  have hr : (Builtin.cap_ #[t] o.type #[a.eval x]).run P w = .ok (.int .i64 k) w := by
    unfold capVV at h
    split at h
    · rename_i hu e
      obtain rfl := Option.some.inj h
      rw [e] at hx
      obtain ⟨e, _⟩ := i_sl hx
      rw [e]
      simp [Builtin.cap_, run_underlying hu, goInt, capV]
    · rename_i hu e
      obtain rfl := Option.some.inj h
      rw [e] at hx
      generalize a.eval x = u at hx
      cases hx
      simp [Builtin.cap_, run_underlying hu, goInt]
    · rename_i hu e
      obtain rfl := Option.some.inj h
      rw [e] at hx
      generalize a.eval x = u at hx
      cases hx with
      | emp z a c hz =>
        obtain rfl := hz rfl
        simp [Builtin.cap_, run_underlying hu, goInt]
    · rename_i hu
      obtain rfl := Option.some.inj h
      simp [Builtin.cap_, run_underlying hu, goInt]
    · rename_i a' hu
      split at h
      · rename_i ha'
        obtain rfl := Option.some.inj h
        simp [Builtin.cap_, run_underlying hu, run_underlying ha', goInt]
      · cases h
    · cases h
  simp only [execOp, ho, bCall, resolve, Sem.run_bind, Sem.run_pure, Result.andThen_ok, invoke, builtin, List.map_toArray, List.map_cons, List.map_nil, hr]
noncomputable def minV (a b : V) : Option V := match a, b with
  | .int k x, .int _ y => some (.int k (match ilt y x with | true => y | false => x))
  | _, _ => none
theorem bi_min {x y : Operand} {tys : Array TypeId} (ho : o.op = bCall .min #[x, y] tys) (h : minV (evo ts x) (evo ts y) = some v) : PureOK P o ts v := by
  intro G a w ha
  rw [ho] at ha
  have hx := ha x (by simp [bCall, Op.operands, Call.operands])
  have hy := ha y (by simp [bCall, Op.operands, Call.operands])
  unfold minV at h
  split at h
  · rename_i k i k' j e1 e2
    obtain rfl := Option.some.inj h
    rw [e1] at hx
    rw [e2] at hy
    refine ⟨_, ?_, .int _ _⟩
    simp only [execOp, ho, bCall, resolve, Sem.run_bind, Sem.run_pure, Result.andThen_ok, invoke, builtin, List.map_toArray, List.map_cons, List.map_nil, Builtin.min_, List.foldlM, i_int hx, i_int hy, Builtin.min2]
    rw [ilt_eq]
    by_cases hlt : j < i <;> simp [hlt]
  · cases h
/-- what is copied -/
noncomputable def src2 (m : M) (k : Nat) (x : V) : Option (Nat × List V) := match x with
  | .str s => (match Nat.beq k 1 with | true => some (s.length, bytesL s) | false => none)
  | x => srcV m k x
theorem src2_ok {B : Nat} {w : World} {G : Gh} {k q : Nat} {x : V} {l : List V} {u : Value} (hm : MemR B w G n m) (h : src2 m k x = some (q, l)) (hx : CR G x u) :
    (Builtin.lenOf u).run P w = .ok q w ∧ ∀ j, j ≤ q → ∃ us, L1 G (l.take (j * k)) us ∧ us.length = j * k ∧ (Builtin.firstCells k j u).run P w = .ok us.toArray w := by
  unfold src2 at h
  split at h
  · rename_i s
    split at h
    case h_2 => cases h
    rename_i hk
    obtain rfl := Nat.eq_of_beq_eq_true hk
    simp only [Option.some.injEq, Prod.mk.injEq] at h
    obtain ⟨rfl, rfl⟩ := h
    rw [i_str hx]
    refine ⟨by simp [Builtin.lenOf, ByteArray.size], fun j hj => ⟨(s.map fun b => Value.int .u8 b.toNat).take (j * 1), (bytesL_ok G s).take _, by simp; omega, ?_⟩⟩
    simp only [Builtin.firstCells, Sem.run_pure]
    congr 1
    simp [ByteArray.data_extract, List.map_take]
  · obtain ⟨hl, ad, c, rfl, hs⟩ := srcV_ok hm h hx
    refine ⟨by simp [Builtin.lenOf], fun j hj => ?_⟩
    rcases Nat.eq_zero_or_pos q with h0 | h0
    · have : j = 0 := by omega
      subst this
      refine ⟨[], by rw [Nat.zero_mul, List.take_zero]; exact .nil, by simp, ?_⟩
      cases ad
      · simp [Builtin.firstCells]
      · exact run_firstCells_some w k 0 _ q c [] (by simp) (fun j v h => by simp at h)
    · obtain ⟨b, us, rfl, h1, h2, h3⟩ := hs h0
      have hle : j * k ≤ q * k := Nat.mul_le_mul_right _ hj
      refine ⟨us.take (j * k), h1.take _, by simp; omega, run_firstCells_some w k j b q c _ (by simp; omega) fun i v hi => ?_⟩
      rw [List.getElem?_take] at hi
      split at hi
      · exact h3 i v hi
      · cases hi
noncomputable def oCopy (P : Program) (fl n : Nat) (m : M) (t : TypeId) (d x : V) : R :=
  match elT P t with
  | some (e, k) => match src2 m k x, d with
    | some _, .nils => .ok (.int .i64 0) n m
    | some _, .emp _ => .ok (.int .i64 0) n m
    | some (q, ys), .sl b o p c op => match M.get m b with
      | .cells tt l op2 => match Nat.ble fl b && Nat.ble (o + Nat.min q p * k) l.length with
        | true => .ok (.int .i64 (Nat.min q p)) n (M.set m b (.cells tt (setR l o (ys.take (Nat.min q p * k))) op2))
        | false => .fail
      | _ => .fail
    | _, _ => .fail
  | none => .fail
theorem bi_copy {t t2 : TypeId} {x y : Operand} {n' : Nat} {m' : M} (ho : o.op = bCall .copy #[x, y] #[t, t2]) (h : oCopy P fl n m t (evo ts x) (evo ts y) = .ok v n' m') : OpOK P o ts fl n m v n' m' := by
  refine op_of_run fun B w G a hm ha hfl => ?_
  rw [ho] at ha
  have hx := ha x (by simp [bCall, Op.operands, Call.operands])
  have hy := ha y (by simp [bCall, Op.operands, Call.operands])
  unfold oCopy at h
  split at h
  case h_2 => cases h
  rename_i e k he
  obtain ⟨inf, zv, ht, hi, hz, hk, h0, hzs, hby⟩ := elT_ok he
  have hso : (sizeOf e).run P w = .ok k w := by simp [sizeOf, typeInfo, hi, hk]
  have fin : ∀ (r : Value) (w' : World), (Builtin.copy_ #[t, t2] o.type #[a.eval x, a.eval y]).run P w = .ok r w' → (execOp a.eval o).run P w = .ok (.value r) w' := by
    intro r w' hr
    simp only [execOp, ho, bCall, resolve, Sem.run_bind, Sem.run_pure, Result.andThen_ok, invoke, builtin, List.map_toArray, List.map_cons, List.map_nil, hr]
  split at h
  · rename_i p hp ex
    obtain ⟨q, ys⟩ := p
    simp only [R.ok.injEq] at h
    obtain ⟨rfl, rfl, rfl⟩ := h
    rw [ex] at hx
    obtain ⟨h1, h2⟩ := src2_ok (P := P) hm hp hy
    obtain ⟨us, _, hul, hr⟩ := h2 0 (Nat.zero_le _)
    have ed : a.eval x = .slice none 0 0 := by generalize a.eval x = u at hx; cases hx; rfl
    refine ⟨.int .i64 0, w, G, fin _ _ ?_, Post.refl hm fl, .int _ _⟩
    simp only [Builtin.copy_, Sem.run_bind, run_underlying ht, Result.andThen_ok, ed, h1, hso, Nat.min_zero, hr, List.getElem?_toArray, List.getElem?_cons_zero, List.getElem?_cons_succ, Sem.run_pure]
    rfl
  · rename_i p z hp ex
    obtain ⟨q, ys⟩ := p
    simp only [R.ok.injEq] at h
    obtain ⟨rfl, rfl, rfl⟩ := h
    rw [ex] at hx
    obtain ⟨h1, h2⟩ := src2_ok (P := P) hm hp hy
    obtain ⟨us, _, hul, hr⟩ := h2 0 (Nat.zero_le _)
    obtain ⟨ad, c, ed⟩ : ∃ ad c, a.eval x = .slice (some ad) 0 c := by generalize a.eval x = u at hx; cases hx; exact ⟨_, _, rfl⟩
    have hus : us = [] := List.length_eq_zero_iff.1 (by rw [hul]; omega)
    subst hus
    refine ⟨.int .i64 0, w, G, fin _ _ ?_, Post.refl hm fl, .int _ _⟩
    simp only [Builtin.copy_, Sem.run_bind, run_underlying ht, Result.andThen_ok, ed, h1, hso, Nat.min_zero, hr, List.getElem?_toArray, List.getElem?_cons_zero, List.getElem?_cons_succ, Sem.run_pure, storeCells]
    rfl
  · rename_i q ys b off p c op hp ex
    rw [ex] at hx
    obtain ⟨es, hal, hpc⟩ := i_sl hx
    split at h
    case h_2 => cases h
    rename_i tt l op2 hget
    split at h
    case h_2 => cases h
    rename_i hc
    rw [Bool.and_eq_true] at hc
    have c1 := Nat.le_of_ble_eq_true hc.1
    have c2 := Nat.le_of_ble_eq_true hc.2
    simp only [R.ok.injEq] at h
    obtain ⟨rfl, rfl, rfl⟩ := h
    obtain ⟨h1, h2⟩ := src2_ok (P := P) hm hp hy
    obtain ⟨us, hL, hul, hr⟩ := h2 (Nat.min q p) (Nat.min_le_left _ _)
    have hbk := hm.blk b
    rw [hget] at hbk
    have hlen := hL.lr.1
    obtain ⟨w', k1, k2, k3, k4, k5⟩ := store_run (P := P) hbk hL (off := off) (by omega)
    have hlive : live m b := by unfold live; rw [hget]; exact fun h => by cases h
    refine ⟨.int .i64 (Nat.min q p), w', G, fin _ _ ?_, (hm.write hlive k2 k3 k4 k5).mono c1, .int _ _⟩
    simp only [Builtin.copy_, Sem.run_bind, run_underlying ht, Result.andThen_ok, es, h1, hso, hr, List.getElem?_toArray, List.getElem?_cons_zero, List.getElem?_cons_succ, Sem.run_pure, k1]
    rfl
  · cases h
noncomputable def oDel (P : Program) (fl n : Nat) (m : M) (t : TypeId) (mv k : V) : R :=
  match mv with
  | .mp b => match M.get m b, P.underlying t with
    | .map es, some (.map kt _) => match keyT P kt && (lenOk P kt k && Nat.ble fl b), mfind P kt k es with
      | true, some none => .ok (.tup []) n (M.set m b (.map es))
      | true, some (some i) => .ok (.tup []) n (M.set m b (.map (es.eraseIdx i)))
      | _, _ => .fail
    | _, _ => .fail
  | _ => .fail
theorem bi_del {t t2 : TypeId} {x y : Operand} {n' : Nat} {m' : M} (ho : o.op = bCall .delete #[x, y] #[t, t2]) (h : oDel P fl n m t (evo ts x) (evo ts y) = .ok v n' m') : OpOK P o ts fl n m v n' m' := by
  refine op_of_run fun B w G a hm ha hfl => ?_
  rw [ho] at ha
  have hx := ha x (by simp [bCall, Op.operands, Call.operands])
  have hy := ha y (by simp [bCall, Op.operands, Call.operands])
  unfold oDel at h
  split at h
  case h_2 => cases h
  rename_i b e
  rw [e] at hx
  have ex : a.eval x = .map (some (G.ρ b)) := by generalize a.eval x = u at hx; cases hx; rfl
  split at h
  case h_2 => cases h
  rename_i es kt et hget hu
  have hbk := hm.blk b
  rw [hget] at hbk
  obtain ⟨ys, clock, h1, h2⟩ := hbk
  have hlive : live m b := by unfold live; rw [hget]; exact fun h => by cases h
  have fin : ∀ w', (Builtin.delete_ #[t, t2] o.type #[a.eval x, a.eval y]).run P w = .ok (.tuple #[]) w' → (execOp a.eval o).run P w = .ok (.value (.tuple #[])) w' := by
    intro w' hr
    simp only [execOp, ho, bCall, resolve, Sem.run_bind, Sem.run_pure, Result.andThen_ok, invoke, builtin, List.map_toArray, List.map_cons, List.map_nil, hr]
  split at h
  · rename_i hc hf
    simp only [Bool.and_eq_true] at hc
    obtain ⟨hkt, hlen, hfb⟩ := hc
    have hfb := Nat.le_of_ble_eq_true hfb
    simp only [R.ok.injEq] at h
    obtain ⟨rfl, rfl, rfl⟩ := h
    have hck : (Instr.checkKey ys.toArray.isEmpty 10000 kt (a.eval y)).run P w = .ok () w := check_ok (em := ys.toArray.isEmpty) hkt hlen hy 9998
    obtain ⟨r, hr, hfound⟩ := findKey_ok (w := w) hkt hy h2 hf
    obtain rfl : r = none := hfound
    obtain ⟨w', k1, k2, k3, k4, k5⟩ := run_setObj' (P := P) (o := .map ys.toArray clock) h1
    refine ⟨.tuple #[], w', G, fin _ ?_, (hm.write (x := .map es) hlive k2 k3 k4 ⟨ys, clock, k5, h2⟩).mono hfb, cr_undef G⟩
    simp only [Builtin.delete_, Sem.run_bind, run_underlying hu, Result.andThen_ok, ex, run_getObj' h1, hck, hr, k1, List.getElem?_toArray, List.getElem?_cons_zero, List.getElem?_cons_succ, Sem.run_pure]
  · rename_i i hc hf
    simp only [Bool.and_eq_true] at hc
    obtain ⟨hkt, hlen, hfb⟩ := hc
    have hfb := Nat.le_of_ble_eq_true hfb
    simp only [R.ok.injEq] at h
    obtain ⟨rfl, rfl, rfl⟩ := h
    have hck : (Instr.checkKey ys.toArray.isEmpty 10000 kt (a.eval y)).run P w = .ok () w := check_ok (em := ys.toArray.isEmpty) hkt hlen hy 9998
    obtain ⟨r, hr, y0, hy0, rfl⟩ := findKey_ok (w := w) hkt hy h2 hf
    obtain ⟨w', k1, k2, k3, k4, k5⟩ := run_setObj' (P := P) (o := .map (ys.eraseIdx i).toArray clock) h1
    have hlt : i < ys.length := (List.getElem?_eq_some_iff.1 hy0).1
    have e3 : ys.toArray.eraseIdxIfInBounds (0 + i) = (ys.eraseIdx i).toArray := by
      rw [Nat.zero_add]
      simp [Array.eraseIdxIfInBounds, hlt]
    refine ⟨.tuple #[], w', G, fin _ ?_, (hm.write (x := .map (es.eraseIdx i)) hlive k2 k3 k4 ⟨ys.eraseIdx i, clock, k5, h2.erase i⟩).mono hfb, cr_undef G⟩
    simp only [Builtin.delete_, Sem.run_bind, run_underlying hu, Result.andThen_ok, ex, run_getObj' h1, hck, hr, e3, k1, List.getElem?_toArray, List.getElem?_cons_zero, List.getElem?_cons_succ, Sem.run_pure]
  · cases h
theorem bi_app {t : TypeId} {x y : Operand} {n' : Nat} {m' : M} (ho : o.op = bCall .append #[x, y] #[t, t]) (h : appendV P fl n m t (evo ts x) (evo ts y) = .ok v n' m') : OpOK P o ts fl n m v n' m' := by
  refine op_of_run fun B w G a hm ha hfl => ?_
  rw [ho] at ha
  have hx := ha x (by simp [bCall, Op.operands, Call.operands])
  have hy := ha y (by simp [bCall, Op.operands, Call.operands])
  obtain ⟨r, w', G', hr, h1, h2⟩ := append_run (ty := o.type) h hm hx hy hfl
  refine ⟨r, w', G', ?_, h1, h2⟩
  simp only [execOp, ho, bCall, resolve, Sem.run_bind, Sem.run_pure, Result.andThen_ok, invoke, builtin, List.map_toArray, List.map_cons, List.map_nil, hr]
end
end Go.Proofs.YtpmgggfjmkpleaaGreatDoor.E
