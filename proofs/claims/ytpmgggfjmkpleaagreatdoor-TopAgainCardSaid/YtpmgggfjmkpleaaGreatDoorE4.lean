/- An exact machine, part 4: operations that only compute. -/
import Derived.Test.YtpmgggfjmkpleaaGreatDoorE3
namespace Go.Proofs.YtpmgggfjmkpleaaGreatDoor.E
open Go Go.RowKit
set_option linter.unusedVariables false

section
variable {P : Program} {o : Oper} {ts : T} {v : V}
theorem mem1 {op : Op} {l : List Operand} (h : op.operands.toList = l) {x : Operand} (hx : x ∈ l) : x ∈ op.operands.toList := by rw [h]; exact hx
def pPick (c a b : V) : Option V :=
  match c with
  | .bool true => some a
  | .bool false => some b
  | _ => none
theorem move_ok {x : Operand} (ho : o.op = .move x ∨ o.op = .assign x) : PureOK P o ts (evo ts x) := by
  intro G a w h
  rcases ho with ho | ho <;>
  · rw [ho] at h
    exact ⟨a.eval x, by simp only [execOp, ho]; rfl, h x (by simp [Op.operands])⟩
theorem pick_ok {c x y : Operand} (ho : o.op = .pick c x y) (h : pPick (evo ts c) (evo ts x) (evo ts y) = some v) : PureOK P o ts v := by
  intro G a w ha
  rw [ho] at ha
  have hc := ha c (by simp [Op.operands])
  have hx := ha x (by simp [Op.operands])
  have hy := ha y (by simp [Op.operands])
  unfold pPick at h
  split at h
  · rename_i e
    obtain rfl := Option.some.inj h
    rw [e] at hc
    have hc := i_bool hc
    exact ⟨a.eval x, by simp only [execOp, ho, hc, Sem.run_bind]; rfl, hx⟩
  · rename_i e
    obtain rfl := Option.some.inj h
    rw [e] at hc
    have hc := i_bool hc
    exact ⟨a.eval y, by simp only [execOp, ho, hc, Sem.run_bind]; rfl, hy⟩
  · cases h
theorem i_nili {G : Gh} {x : Value} (h : CR G .nili x) : x = .nilIface := by cases h; rfl
theorem eqNil {P : Program} {w : World} {t : TypeId} {ms : Array (String × TypeId)} (hu : P.underlying t = some (.interface ms)) (d : Nat) : (Op.equalIn (d + 1) t .nilIface .nilIface).run P w = .ok true w := by
  simp only [Op.equalIn, Sem.run_bind, run_underlying hu, Result.andThen_ok]
  rfl
/-- binary operations -/
def pBin (P : Program) (op : BinOp) (t : TypeId) (x y : Operand) (a b : V) : Option V :=
  match a, b with
  | .nili, .nili => match P.underlying t, y with
    | some (.interface _), .const _ => (match op with | .eql => some (.bool true) | .neq => some (.bool false) | _ => none)
    | _, _ => none
  | a, b => evBin P op t a b
theorem bin_ok {op : BinOp} {t t' : TypeId} {x y : Operand} (ho : o.op = .binOp op t x y t') (h : pBin P op t x y (evo ts x) (evo ts y) = some v) : PureOK P o ts v := by
  intro G a w ha
  rw [ho] at ha
  have hx := ha x (by simp [Op.operands])
  have hy := ha y (by simp [Op.operands])
  have key : ∃ r, (do eqGuard op t x y (a.eval x) (a.eval y); binOp op t (a.eval x) (a.eval y) : Sem Value).run P w = .ok r w ∧ CR G v r := by
    unfold pBin at h
    split at h
    · rename_i e1 e2
      rw [e1] at hx
      rw [e2] at hy
      split at h
      · rename_i ms c hu
        have g1 : a.eval x = .nilIface := i_nili hx
        have g2 : a.eval (.const c) = .nilIface := i_nili hy
        rw [g1, g2]
        have heq : (Op.equal t .nilIface .nilIface).run P w = .ok true w := eqNil hu 9999
        have hg : ∀ o : BinOp, (eqGuard o t x (.const c) .nilIface .nilIface).run P w = .ok () w := by
          intro o
          unfold eqGuard
          cases o <;> cases x <;> rfl
        split at h
        · obtain rfl := Option.some.inj h
          refine ⟨.bool true, ?_, .bool _⟩
          have e : binOp .eql t .nilIface .nilIface = (do pure (.bool (← Op.equal t .nilIface .nilIface))) := rfl
          rw [e]
          simp only [Sem.run_bind, hg, Result.andThen_ok, heq]
          rfl
        · obtain rfl := Option.some.inj h
          refine ⟨.bool false, ?_, .bool _⟩
          have e : binOp .neq t .nilIface .nilIface = (do pure (.bool (!(← Op.equal t .nilIface .nilIface)))) := rfl
          rw [e]
          simp only [Sem.run_bind, hg, Result.andThen_ok, heq]
          rfl
        · cases h
      · cases h
    · exact evBin_ok x y h hx hy
  obtain ⟨r, hr, hv⟩ := key
  refine ⟨r, ?_, hv⟩
  simp only [execOp, ho, Sem.run_bind] at hr ⊢
  rw [hr]
  rfl
theorem un_ok {op : UnOp} {t : TypeId} {x : Operand} (ho : o.op = .unOp op t x) (h : evUn op (evo ts x) = some v) : PureOK P o ts v := by
  intro G a w ha
  rw [ho] at ha
  obtain ⟨r, hr, hv⟩ := evUn_ok (P := P) (w := w) h (ha x (by simp [Op.operands]))
  exact ⟨r, by simp only [execOp, ho, Sem.run_bind, hr, Result.andThen_ok]; rfl, hv⟩
def pFunc (f : Fn) (first : List Operand) (xs : List V) : Option V :=
  match f, first with
  | .func f, [] => some (.fn f xs)
  | _, _ => none
theorem orels {G : Gh} {a : Act} : ∀ l : List Operand, (∀ x ∈ l, CR G (evo ts x) (a.eval x)) → LR G (evos l ts) (l.map a.eval)
  | [], _ => .nil
  | x :: l, h => (orels l fun y hy => h y (by simp [hy])).cons (h x (by simp))
theorem func_ok {f : Fn} {first caps : Array Operand} (ho : o.op = .makeFunc f first caps) (h : pFunc f first.toList (evos caps.toList ts) = some v) : PureOK P o ts v := by
  intro G a w ha
  rw [ho] at ha
  unfold pFunc at h
  split at h
  · rename_i f hf
    obtain rfl := Option.some.inj h
    have e1 : first = #[] := Array.toList_inj.1 (by simpa using hf)
    subst e1
    have hl := orels (G := G) (a := a) caps.toList fun x hx => ha x (by simp [Op.operands]; simpa using hx)
    refine ⟨.func (.func f) #[] (caps.toList.map a.eval).toArray, ?_, .fn f _ _ hl.1 hl.2⟩
    have e2 : caps.map a.eval = (caps.toList.map a.eval).toArray := by apply Array.ext'; simp
    have e3 : (#[] : Array Operand).map a.eval = #[] := by simp
    simp only [execOp, ho, Instr.makeFunc, Sem.run_bind]
    rw [e2, e3]
    rfl
  · cases h
/-- a field's place -/
def fOff (P : Program) (t : TypeId) (i : Nat) : Option Nat := match P.underlying t with
  | some (.struct fs) => (match fs.toList[i]? with | some f => (match sz P f.type with | some (k + 1) => some f.offset | _ => none) | none => none)
  | _ => none
noncomputable def vPtr {α : Type} (d : α) (v : V) (f : Nat → Nat → α) : α := V.casesOn v d (fun _ _ => d) (fun _ => d) (fun _ => d) (fun _ => d) (fun _ => d) d (fun _ _ _ _ _ => d) d f d (fun _ => d) d (fun _ _ => d) d (fun _ => d) (fun _ _ => d) (fun _ => d) (fun _ _ _ => d)
noncomputable def vInt {α : Type} (d : α) (v : V) (f : IntKind → Int → α) : α := V.casesOn v d f (fun _ => d) (fun _ => d) (fun _ => d) (fun _ => d) d (fun _ _ _ _ _ => d) d (fun _ _ => d) d (fun _ => d) d (fun _ _ => d) d (fun _ => d) (fun _ _ => d) (fun _ => d) (fun _ _ _ => d)
theorem vPtr_some {α : Type} {v : V} {f : Nat → Nat → Option α} {r : α} (h : vPtr none v f = some r) : ∃ b o, v = .ptr b o ∧ f b o = some r := by
  cases v <;> first | exact ⟨_, _, rfl, h⟩ | cases h
theorem vInt_some {α : Type} {v : V} {f : IntKind → Int → Option α} {r : α} (h : vInt none v f = some r) : ∃ k i, v = .int k i ∧ f k i = some r := by
  cases v <;> first | exact ⟨_, _, rfl, h⟩ | cases h
noncomputable def pFA (P : Program) (t : TypeId) (i : Nat) (x : V) : Option V := vPtr none x fun b o => Option.rec none (fun d => some (.ptr b (Nat.add o d))) (fOff P t i)
theorem addr_add' (b off j : Nat) : (⟨b, off, none⟩ : Addr).add j = ⟨b, off + j, none⟩ := by
  unfold Addr.add
  split <;> simp_all
theorem i_ptr {G : Gh} {b p : Nat} {x : Value} (h : CR G (.ptr b p) x) : x = .pointer (some ⟨G.ρ b, p, none⟩) ∧ G.al b := by cases h; exact ⟨rfl, by assumption⟩
theorem fa_ok {t : TypeId} {x : Operand} {i : Nat} (ho : o.op = .fieldAddr t x i) (h : pFA P t i (evo ts x) = some v) : PureOK P o ts v := by
  intro G a w ha
  rw [ho] at ha
  have hx := ha x (by simp [Op.operands])
  obtain ⟨b, p, e, h⟩ := vPtr_some h
  rw [e] at hx
  obtain ⟨ex, hal⟩ := i_ptr hx
  cases hf : fOff P t i with
  | none => rw [hf] at h; cases h
  | some d =>
    rw [hf] at h
    obtain rfl := Option.some.inj h
    unfold fOff at hf
    split at hf
    · rename_i fs hu
      split at hf
      · rename_i f hfi
        split at hf
        · rename_i k hk
          obtain rfl := Option.some.inj hf
          refine ⟨.pointer (some ⟨G.ρ b, p + f.offset, none⟩), ?_, .ptr _ _ hal⟩
          have e3 : fs[i]? = some f := by rw [← Array.getElem?_toList]; exact hfi
          simp only [execOp, ho, Sem.run_bind, Instr.fieldAt, run_underlying hu, Result.andThen_ok, e3, ex, Instr.sureAddr, Sem.run_pure, fieldPlace, sz_run hk]
          simp only [Nat.succ_ne_zero, if_false, Sem.run_pure, Result.andThen_ok, addr_add']
        · cases hf
      · cases hf
    · cases hf
noncomputable def pF (P : Program) (t : TypeId) (i : Nat) (x : V) : Option V :=
  match x with
  | .agg l => match P.underlying t with
    | some (.struct fs) => (match fs.toList[i]? with | some f => ldc P f.type l f.offset | none => none)
    | _ => none
  | _ => none
theorem f_ok {t : TypeId} {x : Operand} {i : Nat} (ho : o.op = .field t x i) (h : pF P t i (evo ts x) = some v) : PureOK P o ts v := by
  intro G a w ha
  rw [ho] at ha
  have hx := ha x (by simp [Op.operands])
  unfold pF at h
  split at h
  · rename_i l e
    split at h
    · rename_i fs hu
      split at h
      · rename_i f hfi
        rw [e] at hx
        have e3 : fs[i]? = some f := by rw [← Array.getElem?_toList]; exact hfi
        cases hx' : a.eval x with
        | agg cs =>
          rw [hx'] at hx
          cases hx with
          | agg l cs h1 h2 h3 =>
            obtain ⟨r, hr, hv⟩ := part_run (P := P) (w := w) h ⟨⟨h1, h2⟩, h3⟩
            refine ⟨r, ?_, hv⟩
            simp only [execOp, ho, Sem.run_bind, Instr.field, run_underlying hu, Result.andThen_ok, e3, hx', asAgg, Sem.run_pure, hr]
        | _ => rw [hx'] at hx; cases hx
      · cases h
    · cases h
  · cases h
noncomputable def pIA (P : Program) (t : TypeId) (x ix : V) : Option V :=
  vInt none ix fun _ i => match P.underlying t, x with
    | some (.slice e), .sl b o k _ _ => (match sz P e, ile 0 i && ilt i k with | some s, true => some (.ptr b (o + i.toNat * s)) | _, _ => none)
    | some (.array k e), .ptr b o => (match sz P e, ile 0 i && ilt i k with | some s, true => some (.ptr b (o + i.toNat * s)) | _, _ => none)
    | _, _ => none
theorem inb {i : Int} {k : Nat} (h : (ile 0 i && ilt i k) = true) : 0 ≤ i ∧ i < (k : Int) := by
  rw [Bool.and_eq_true, ile_eq, ilt_eq] at h
  exact ⟨of_decide_eq_true h.1, of_decide_eq_true h.2⟩
theorem i_sl {G : Gh} {b p n c : Nat} {op : Bool} {x : Value} (h : CR G (.sl b p n c op) x) : x = .slice (some ⟨G.ρ b, p, none⟩) n (capV G b c op) ∧ G.al b ∧ n ≤ capV G b c op := by cases h; exact ⟨rfl, by assumption, by assumption⟩
theorem ia_ok {t : TypeId} {x y : Operand} (ho : o.op = .indexAddr t x y) (h : pIA P t (evo ts x) (evo ts y) = some v) : PureOK P o ts v := by
  intro G a w ha
  rw [ho] at ha
  have hx := ha x (by simp [Op.operands])
  have hy := ha y (by simp [Op.operands])
  obtain ⟨k, i, e, h⟩ := vInt_some h
  rw [e] at hy
  have ey := i_int hy
  split at h
  · rename_i e b p c q op hu e2
    rw [e2] at hx
    obtain ⟨ex, hal, _⟩ := i_sl hx
    split at h
    · rename_i s hs hb
      obtain rfl := Option.some.inj h
      obtain ⟨h0, h1⟩ := inb hb
      refine ⟨.pointer (some ⟨G.ρ b, p + i.toNat * s, none⟩), ?_, .ptr _ _ hal⟩
      simp only [execOp, ho, Sem.run_bind, Instr.indexAt, ey, ex, asIntOf, Sem.run_pure, Result.andThen_ok, run_underlying hu]
      rw [if_pos ⟨h0, h1⟩]
      simp only [Sem.run_bind, sz_run hs, Result.andThen_ok, Sem.run_pure, addr_add']
    · cases h
  · rename_i c e b p hu e2
    rw [e2] at hx
    obtain ⟨ex, hal⟩ := i_ptr hx
    split at h
    · rename_i s hs hb
      obtain rfl := Option.some.inj h
      obtain ⟨h0, h1⟩ := inb hb
      refine ⟨.pointer (some ⟨G.ρ b, p + i.toNat * s, none⟩), ?_, .ptr _ _ hal⟩
      simp only [execOp, ho, Sem.run_bind, Instr.indexAt, ey, ex, asIntOf, Sem.run_pure, Result.andThen_ok, run_underlying hu, Instr.sureAddr]
      rw [if_pos ⟨h0, h1⟩]
      simp only [Sem.run_bind, sz_run hs, Result.andThen_ok, Sem.run_pure, addr_add']
    · cases h
  · cases h
noncomputable def pI (P : Program) (t : TypeId) (x ix : V) : Option V :=
  vInt none ix fun _ i => match P.underlying t, x with
    | some .string, .str s => (match ile 0 i && ilt i s.length with | true => some (.int .u8 (s.getD i.toNat 0).toNat) | _ => none)
    | some (.array k e), .agg l => (match sz P e, ile 0 i && ilt i k with | some s, true => ldc P e l (i.toNat * s) | _, _ => none)
    | _, _ => none
theorem ix_ok {t : TypeId} {x y : Operand} (ho : o.op = .index t x y) (h : pI P t (evo ts x) (evo ts y) = some v) : PureOK P o ts v := by
  intro G a w ha
  rw [ho] at ha
  have hx := ha x (by simp [Op.operands])
  have hy := ha y (by simp [Op.operands])
  obtain ⟨k, i, e, h⟩ := vInt_some h
  rw [e] at hy
  have ey := i_int hy
  split at h
  · rename_i s hu e2
    rw [e2] at hx
    have ex := i_str hx
    split at h
    · rename_i hb
      obtain rfl := Option.some.inj h
      obtain ⟨h0, h1⟩ := inb hb
      refine ⟨_, ?_, .int _ _⟩
      have hlt : i.toNat < s.length := by omega
      have e3 : (⟨s.toArray⟩ : ByteArray)[i.toNat]? = some (s.getD i.toNat 0) := by
        have hlt' : i.toNat < (⟨s.toArray⟩ : ByteArray).size := by rw [str_size]; exact hlt
        rw [getElem?_pos (⟨s.toArray⟩ : ByteArray) i.toNat hlt']
        rw [List.getD_eq_getElem?_getD, List.getElem?_eq_getElem hlt]
        rfl
      simp only [execOp, ho, Sem.run_bind, Instr.index, ey, ex, asIntOf, Sem.run_pure, Result.andThen_ok, run_underlying hu]
      rw [if_pos h0, e3]
      rfl
    · cases h
  · rename_i c e l hu e2
    rw [e2] at hx
    split at h
    · rename_i s hs hb
      obtain ⟨h0, h1⟩ := inb hb
      cases hx' : a.eval x with
      | agg cs =>
        rw [hx'] at hx
        cases hx with
        | agg l cs g1 g2 g3 =>
          obtain ⟨r, hr, hv⟩ := part_run (P := P) (w := w) h ⟨⟨g1, g2⟩, g3⟩
          refine ⟨r, ?_, hv⟩
          simp only [execOp, ho, Sem.run_bind, Instr.index, ey, asIntOf, Sem.run_pure, Result.andThen_ok, run_underlying hu, hx']
          rw [if_pos ⟨h0, h1⟩]
          simp only [Sem.run_bind, sz_run hs, Result.andThen_ok, Sem.run_pure, hr]
      | _ => rw [hx'] at hx; cases hx
    · cases h
  · cases h
noncomputable def pExt (i : Nat) (x : V) : Option V :=
  match x with
  | .tup l => match Nat.blt i l.length with | true => some (nth l i) | false => none
  | _ => none
theorem ext_ok {x : Operand} {i : Nat} (ho : o.op = .extract x i) (h : pExt i (evo ts x) = some v) : PureOK P o ts v := by
  intro G a w ha
  rw [ho] at ha
  have hx := ha x (by simp [Op.operands])
  unfold pExt at h
  split at h
  · rename_i l e
    split at h
    · rename_i hb
      obtain rfl := Option.some.inj h
      have hlt := Nat.le_of_ble_eq_true hb
      rw [e] at hx
      cases hx' : a.eval x with
      | tuple cs =>
        rw [hx'] at hx
        cases hx with
        | tup l cs g1 g2 =>
          refine ⟨cs.getD i undef, ?_, LR.nth (⟨g1, g2⟩ : LR G l cs) i⟩
          have hlt' : i < cs.length := by rw [g1]; exact hlt
          have e3 : cs.toArray[i]? = some (cs.getD i undef) := by simp [List.getD_eq_getElem?_getD, hlt']
          simp only [execOp, ho, Sem.run_bind, Instr.extract, hx', e3]
          rfl
      | _ => rw [hx'] at hx; cases hx
    · cases h
  · cases h
def pNil (x : V) : Option V :=
  match x with
  | .ptr b o => some (.ptr b o)
  | .fn f l => some (.fn f l)
  | _ => none
theorem nil_ok {x : Operand} (ho : o.op = .nilCheck x) (h : pNil (evo ts x) = some v) : PureOK P o ts v := by
  intro G a w ha
  rw [ho] at ha
  have hx := ha x (by simp [Op.operands])
  unfold pNil at h
  split at h
  · rename_i e
    obtain rfl := Option.some.inj h
    refine ⟨a.eval x, ?_, by rw [← e]; exact hx⟩
    rw [e] at hx
    have ex := (i_ptr hx).1
    simp only [execOp, ho, ex]
    rfl
  · rename_i e
    obtain rfl := Option.some.inj h
    refine ⟨a.eval x, ?_, by rw [← e]; exact hx⟩
    rw [e] at hx
    cases hx' : a.eval x with
    | func f first cs =>
      rw [hx'] at hx
      cases hx
      simp only [execOp, ho, hx']
      rfl
    | _ => rw [hx'] at hx; cases hx
  · cases h
end
end Go.Proofs.YtpmgggfjmkpleaaGreatDoor.E
