/- A machine of values, part 6: new variables, zero values, parts of values, texts. -/
import Derived.Test.YtbpjinefbnlenaaGreatDoorAm5
namespace Go.Proofs.YtbpjinefbnlenaaGreatDoor
open Go Go.RowKit
set_option linter.unusedVariables false

/-! zero values -/
def chkCat {α : Type} (f : α → List Value → Bool) (k : Nat) : List α → List Value → Bool
  | [], cs => cs.isEmpty
  | x :: l, cs => f x (cs.take k) && chkCat f k l (cs.drop k)
def isInt (k : IntKind) (n : Int) : List Value → Bool
  | [.int k' m] => k == k' && n == m
  | _ => false
def isBool (b : Bool) : List Value → Bool
  | [.bool c] => b == c
  | _ => false
def isStr0 : List Value → Bool
  | [.string s] => s.data.size == 0
  | _ => false
def isNilS : List Value → Bool
  | [.slice none 0 0] => true
  | _ => false
def isNilP : List Value → Bool
  | [.pointer none] => true
  | _ => false
theorem isInt_ok {k : IntKind} {n : Int} {cs : List Value} (h : isInt k n cs = true) : cs = [.int k n] := by
  unfold isInt at h
  split at h
  · simp at h; obtain ⟨rfl, rfl⟩ := h; rfl
  · cases h
theorem isBool_ok {b : Bool} {cs : List Value} (h : isBool b cs = true) : cs = [.bool b] := by
  unfold isBool at h
  split at h
  · simp at h; subst h; rfl
  · cases h
theorem isStr0_ok {cs : List Value} (h : isStr0 cs = true) : cs = [.string ⟨([] : List UInt8).toArray⟩] := by
  unfold isStr0 at h
  split at h
  · rename_i s
    have : s.data = #[] := Array.eq_empty_of_size_eq_zero (by simpa using h)
    cases s; simp only at this; subst this; rfl
  · cases h
theorem isNilS_ok {cs : List Value} (h : isNilS cs = true) : cs = [.slice none 0 0] := by
  unfold isNilS at h
  split at h
  · rfl
  · cases h
theorem isNilP_ok {cs : List Value} (h : isNilP cs = true) : cs = [.pointer none] := by
  unfold isNilP at h
  split at h
  · rfl
  · cases h
def Sh.chk : (s : Sh) → s.T → List Value → Bool
  | .int k, x, cs => isInt k x cs
  | .bool, x, cs => isBool x cs
  | .str, x, cs => x.isEmpty && isStr0 cs
  | .unit, _, cs => cs.isEmpty
  | .pair a b, x, cs => a.chk x.1 (cs.take a.size) && b.chk x.2 (cs.drop a.size)
  | .st a, x, cs => a.chk x cs
  | .arr n a, x, cs => x.length == n && chkCat (a.chk) a.size x cs
  | .sl a, x, cs => x.isEmpty && isNilS cs
theorem Sh.chk_ok {w : World} {fz : Nat → Prop} : ∀ (s : Sh) (x : s.T) (cs : List Value), s.chk x cs = true → ShR w fz s x cs
  | .int k, x, cs, h => isInt_ok h
  | .bool, x, cs, h => isBool_ok h
  | .str, x, cs, h => by
    simp only [Sh.chk, Bool.and_eq_true, List.isEmpty_iff] at h
    obtain ⟨rfl, h2⟩ := h
    exact isStr0_ok h2
  | .unit, _, cs, h => by simpa [Sh.chk, ShR] using h
  | .pair a b, x, cs, h => by
    simp only [Sh.chk, Bool.and_eq_true] at h
    exact ⟨cs.take a.size, cs.drop a.size, by simp, Sh.chk_ok a _ _ h.1, Sh.chk_ok b _ _ h.2⟩
  | .st a, x, cs, h => Sh.chk_ok a x cs h
  | .arr n a, x, cs, h => by
    simp only [Sh.chk, Bool.and_eq_true, beq_iff_eq] at h
    refine ⟨h.1, ?_⟩
    have main : ∀ (l : List a.T) (cs : List Value), chkCat (a.chk) a.size l cs = true → CatR (ShR w fz a) l cs := by
      intro l
      induction l with
      | nil => intro cs h; simpa [chkCat, CatR] using h
      | cons y l ih =>
        intro cs h
        simp only [chkCat, Bool.and_eq_true] at h
        exact ⟨_, _, (List.take_append_drop a.size cs).symm, Sh.chk_ok a _ _ h.1, ih _ h.2⟩
    exact main x cs h.2
  | .sl a, x, cs, h => by
    simp only [Sh.chk, Bool.and_eq_true, List.isEmpty_iff] at h
    obtain ⟨rfl, h2⟩ := h
    exact ⟨none, 0, isNilS_ok h2, Nat.le_refl _, Nat.zero_le _, fun h0 => absurd h0 (by simp)⟩
def isOne : List Value → Bool
  | [v] => v.oneCell'
  | _ => false
theorem isOne_ok {cs : List Value} (h : isOne cs = true) : ∃ v, cs = [v] ∧ v.oneCell' = true := by
  unfold isOne at h
  split at h
  · exact ⟨_, rfl, h⟩
  · cases h
def isNilI' : List Value → Bool
  | [.nilIface] => true
  | _ => false
theorem isNilI'_ok {cs : List Value} (h : isNilI' cs = true) : cs = [.nilIface] := by
  unfold isNilI' at h
  split at h
  · rfl
  · cases h
def AV.chk : AV → List Value → Bool
  | .int k n, cs => isInt k n cs
  | .bool b, cs => isBool b cs
  | .str s, cs => s.isEmpty && isStr0 cs
  | .nil, cs => cs.isEmpty
  | .cons a b, cs => a.chk (cs.take a.size) && b.chk (cs.drop a.size)
  | .st a, cs => a.chk cs
  | .arr n e l, cs => (Sh.arr n e).chk l cs
  | .nilS, cs => isNilS cs
  | .nilP, cs => isNilP cs
  | .unk, cs => isOne cs
  | .opq false, cs => isNilI' cs
  | _, _ => false
theorem AV.chk_ok {w : World} {G : Gh} : ∀ (a : AV) (cs : List Value), a.chk cs = true → CellsR w G a cs
  | .int k n, cs, h => isInt_ok h
  | .bool b, cs, h => isBool_ok h
  | .str s, cs, h => by
    simp only [AV.chk, Bool.and_eq_true, List.isEmpty_iff] at h
    obtain ⟨rfl, h2⟩ := h
    exact isStr0_ok h2
  | .nil, cs, h => by simpa [AV.chk, CellsR] using h
  | .cons a b, cs, h => by
    simp only [AV.chk, Bool.and_eq_true] at h
    exact ⟨cs.take a.size, cs.drop a.size, by simp, AV.chk_ok a _ h.1, AV.chk_ok b _ h.2⟩
  | .st a, cs, h => AV.chk_ok a cs h
  | .arr n e l, cs, h => Sh.chk_ok (.arr n e) l cs h
  | .nilS, cs, h => isNilS_ok h
  | .nilP, cs, h => isNilP_ok h
  | .unk, cs, h => isOne_ok h
  | .opq false, cs, h => ⟨fun hh => (nomatch hh), fun _ => isNilI'_ok h⟩
/-- a type's shape, and its zero value -/
def pairSh (f : TypeId → Option Sh) : List TypeId → Option Sh
  | [] => some .unit
  | [t] => f t
  | t :: l =>
    match f t, pairSh f l with
    | some a, some b => some (.pair a b)
    | _, _ => none
def shOf (P : Program) : Nat → TypeId → Option Sh
  | 0, _ => none
  | n + 1, t =>
    match P.underlying t with
    | some (.int k) => some (.int k)
    | some .bool => some .bool
    | some .string => some .str
    | some (.slice e) => (shOf P n e).map .sl
    | some (.array m e) => (shOf P n e).map (.arr m)
    | some (.struct fs) => (pairSh (shOf P n) (fs.toList.map (·.type))).map .st
    | _ => none
def consAV (f : TypeId → AV) : List TypeId → AV
  | [] => .nil
  | [t] => f t
  | t :: l => .cons (f t) (consAV f l)
def zav (P : Program) : Nat → TypeId → AV
  | 0, _ => .unk
  | n + 1, t =>
    match P.underlying t with
    | some (.int k) => .int k 0
    | some .bool => .bool false
    | some .string => .str []
    | some (.slice _) => .nilS
    | some (.array m e) =>
      match shOf P n e with
      | some s => .arr m s (List.replicate m s.dflt)
      | none => .unk
    | some (.struct fs) => .st (consAV (zav P n) (fs.toList.map (·.type)))
    | some (.pointer _) => .nilP
    | some (.interface _) => .opq false
    | _ => .unk

/-! a new variable -/
def Gh.put (G : Gh) (b : Nat) (ad : Addr) (v : Value) : Gh := ⟨fun i => if i = b then ad else G.addr i, fun i => if i = b then v else G.rowv i, G.fz⟩
theorem Gh.put_agree (G : Gh) (b : Nat) (ad : Addr) (v : Value) (i : Nat) (h : i ≠ b) : Agree G (G.put b ad v) i := ⟨by simp [Gh.put, h], by simp [Gh.put, h]⟩
theorem alloc_new (w : World) (o : Obj) : (w.alloc o).heap[w.heap.size]? = some o := heap_alloc_new w o
theorem newBox {w : World} {G : Gh} {base : Nat} {t : TypeId} {c : AV} {cs : Array Value} (hc : CellsR w G c cs.toList) (hr : ∀ r ∈ c.refs, r < base) (hfz : ∀ b, G.fz b → b < w.heap.size) :
    NewR w (w.alloc (.cells cs t)) G (G.put base ⟨w.heap.size, 0, none⟩ undef) base [.box t c] := by
  have hb : Below w.heap.size w (w.alloc (.cells cs t)) := (Below.refl _ _).alloc (Nat.le_refl _) _
  have hsz : (w.alloc (.cells cs t)).heap.size = w.heap.size + 1 := by simp
  have hl0 : ∀ (j x : Nat), (lk [Blk.box t c] j).live (G.put base ⟨w.heap.size, 0, none⟩ undef) (base + j) = some x → j = 0 ∧ x = w.heap.size := by
    intro j x h
    cases j with
    | zero => simp [lk, Blk.live, Gh.put] at h; exact ⟨rfl, h.symm⟩
    | succ j => simp [lk, Blk.live] at h
  refine ⟨hb, fun i hi => Gh.put_agree _ _ _ _ _ (by simp at hi; omega), fun _ h => h, fun _ h => .inl h, fun j => ?_, fun j k x hjk h1 h2 => ?_, fun j x h => ?_⟩
  · cases j with
    | zero =>
      refine ⟨by simp [Gh.put], cs.toList, ?_, ?_⟩
      · refine ⟨(0, 0), ?_, .inl rfl⟩
        simp only [Gh.put, Nat.add_zero, if_true, List.append_nil]
        rw [alloc_new]
      · exact CellsR.keep (G := G) (G' := G.put base ⟨w.heap.size, 0, none⟩ undef) ⟨hb.size, fun b h hlt => hb.block b hlt, fun _ h => h⟩ c _ (fun r hr' => Gh.put_agree G base _ _ r (by have := hr r hr'; omega)) hc
    | succ j => simp [lk, BlkR]
  · have := hl0 j x h1; have := hl0 k x h2; omega
  · obtain ⟨_, rfl⟩ := hl0 j x h
    exact ⟨Nat.le_refl _, by omega, fun hf => by have := hfz _ hf; omega⟩
theorem pureOp_box {P : Program} {o : Oper} {ts : List AV} {mem : List Blk} {base : Nat} {t : TypeId} {c : AV} {C : Prop}
    (h : ∀ (B : Nat) (w : World) (G : Gh) (a : Act), C → MemR B w G mem → TmpsR w G ts a → ∃ cs : Array Value, (execOp a.eval o).run P w = .ok (.value (.pointer (some ⟨w.heap.size, 0, none⟩))) (w.alloc (.cells cs t)) ∧ CellsR w G c cs.toList)
    (hr : ∀ r ∈ c.refs, (∃ t, r ∈ (ts.getD t .unk).refs)) : PureOp P o ts mem base (.ptr base []) [.box t c] C := by
  intro B w G a hC hm ht hrt hrm next Q hn
  obtain ⟨cs, hrun, hc⟩ := h B w G a hC hm ht
  unfold Oper.wp
  rw [hrun]
  refine hn _ _ _ (newBox hc (fun r hr' => by obtain ⟨t, h⟩ := hr r hr'; exact hrt t r h) hm.fz) ?_
  show [Value.pointer _] = [Value.pointer _]
  simp [Gh.put, offs]
/-- 'alloc' -/
def evAlloc (P : Program) (t : TypeId) : Option AV :=
  match P.info? t with
  | some i =>
    match i.zero with
    | some z => if (zav P 12 t).chk z.cells.toList then some (zav P 12 t) else none
    | none => none
  | none => none
theorem chk_refs : ∀ (a : AV) (cs : List Value), a.chk cs = true → a.refs = []
  | .int .., _, _ | .bool .., _, _ | .str .., _, _ | .nil, _, _ | .arr .., _, _ | .nilS, _, _ | .nilP, _, _ | .unk, _, _ | .opq false, _, _ => rfl
  | .cons a b, cs, h => by
    simp only [AV.chk, Bool.and_eq_true] at h
    simp [AV.refs, chk_refs a _ h.1, chk_refs b _ h.2]
  | .st a, cs, h => chk_refs a cs h
theorem run_zero {P : Program} {w : World} {t : TypeId} {i : TypeInfo} {z : Value} (h : P.info? t = some i) (hz : i.zero = some z) : (zeroValue t).run P w = .ok z w := by
  have h1 : (typeInfo t).run P w = .ok i w := by
    unfold typeInfo program
    simp only [Sem.run_bind]
    simp only [Sem.run, h, Result.andThen]
    rfl
  unfold zeroValue
  simp only [Sem.run_bind, h1, Result.andThen_ok, hz]
  rfl
theorem run_newVar' {P : Program} {w : World} (t : TypeId) (v : Value) : (newVar t v).run P w = .ok ⟨w.heap.size, 0, none⟩ (w.alloc (.cells v.cells t)) := by
  unfold newVar newRow newObj
  simp only [Sem.run_bind, Sem.run, Result.andThen]
  rfl
theorem evAlloc_ok {P : Program} {o : Oper} {ts : List AV} {mem : List Blk} {base : Nat} {t : TypeId} {c : AV} (ho : o.op = .alloc t) (h : evAlloc P t = some c) : PureOp P o ts mem base (.ptr base []) [.box t c] True := by
  unfold evAlloc at h
  split at h
  · rename_i i hi
    split at h
    · rename_i z hz
      split at h
      · rename_i hchk
        simp only [Option.some.injEq] at h
        subst h
        refine pureOp_box (fun B w G a _ hm ht => ⟨z.cells, ?_, AV.chk_ok _ _ hchk⟩) (fun r hr => by rw [chk_refs _ _ hchk] at hr; cases hr)
        simp only [execOp, ho, Instr.alloc, Sem.run_bind, run_zero hi hz, Result.andThen_ok, run_newVar', Sem.run_pure]
      · cases h
    · cases h
  · cases h
/-- 'box' -/
def evBox (ts : List AV) (x : Operand) : Option AV :=
  match ev ts x with
  | some c => if c.flat || c.agg then some c else none
  | none => none
theorem flagg_tup {a : AV} (h : (a.flat || a.agg) = true) : ∀ b, a ≠ .tup b := by intro b e; subst e; cases h
theorem evBox_ok {P : Program} {o : Oper} {ts : List AV} {mem : List Blk} {base : Nat} {t : TypeId} {x : Operand} {c : AV} (ho : o.op = .box t x) (h : evBox ts x = some c) : PureOp P o ts mem base (.ptr base []) [.box t c] True := by
  unfold evBox at h
  split at h
  · rename_i c0 hev
    split at h
    · rename_i hf
      simp only [Option.some.injEq] at h
      subst h
      refine pureOp_box (fun B w G a _ hm ht => ⟨(a.eval x).cells, ?_, ValR0.cells ((ev_ok ht hev).to0 (flagg_tup hf)) hf⟩) (fun r hr => ev_refs hev hr)
      simp only [execOp, ho, Instr.box, Sem.run_bind, Result.andThen_ok, run_newVar', Sem.run_pure]
    · cases h
  · cases h

/-! parts of values -/
theorem part_ok {P : Program} {w : World} {G : Gh} {t : TypeId} {c : AV} {c1 c2 c3 : List Value} (hl : ldOk P t c = true) (hc : CellsR w G c c2) :
    ∃ v, (part t (c1 ++ c2 ++ c3).toArray c1.length).run P w = .ok v w ∧ ValR w G c v := by
  have hlen := CellsR.length c c2 hc
  have aggcase : ∀ i, (isAgg t).run P w = .ok true w → P.info? t = some i → i.size = c.size → c.agg = true → ∃ v, (part t (c1 ++ c2 ++ c3).toArray c1.length).run P w = .ok v w ∧ ValR w G c v := by
    intro i ha hi hz hg
    refine ⟨.agg c2.toArray, ?_, ValR_agg hg hc⟩
    simp only [part, Sem.run_bind, Result.andThen_ok, ha, if_true, run_sz hi, Sem.run_pure]
    rw [hz, ← hlen]
    congr 2
    apply Array.ext'
    simp
  have flatcase : (isAgg t).run P w = .ok false w → (c.flat = true ∨ c = .unk) → ∃ v, (part t (c1 ++ c2 ++ c3).toArray c1.length).run P w = .ok v w ∧ ValR w G c v := by
    intro ha hf
    have h1 : c2.length = 1 := by
      rcases hf with hf | hf
      · rw [hlen, flat_size hf]
      · subst hf; exact hlen
    obtain ⟨v, rfl⟩ := list_one h1
    refine ⟨v, ?_, ?_⟩
    · simp only [part, Sem.run_bind, Result.andThen_ok, ha, Bool.false_eq_true, if_false]
      have e : (c1 ++ [v] ++ c3).toArray[c1.length]? = some v := by simp
      rw [e]
      rfl
    · rcases hf with hf | hf
      · exact ValR_flat hf hc
      · subst hf; trivial
  unfold ldOk at hl
  cases hu : P.underlying t with
  | none => rw [hu] at hl; cases hl
  | some d =>
    rw [hu] at hl
    cases d with
    | struct fs =>
      simp only [Bool.and_eq_true] at hl
      obtain ⟨hg, hi⟩ := hl
      cases hin : P.info? t with
      | none => rw [hin] at hi; cases hi
      | some i =>
        rw [hin] at hi
        exact aggcase i (by unfold isAgg; simp only [Sem.run_bind, run_underlying hu, Result.andThen_ok]; rfl) hin (by simpa using hi) hg
    | array n e =>
      simp only [Bool.and_eq_true] at hl
      obtain ⟨hg, hi⟩ := hl
      cases hin : P.info? t with
      | none => rw [hin] at hi; cases hi
      | some i =>
        rw [hin] at hi
        exact aggcase i (by unfold isAgg; simp only [Sem.run_bind, run_underlying hu, Result.andThen_ok]; rfl) hin (by simpa using hi) hg
    | _ =>
      refine flatcase (by unfold isAgg; simp only [Sem.run_bind, run_underlying hu, Result.andThen_ok]; rfl) ?_
      simp only [Bool.or_eq_true] at hl
      rcases hl with hl | hl
      · exact .inl hl
      · right; cases c <;> first | rfl | cases hl
def evField (P : Program) (s : TypeId) (x : AV) (f : Nat) : Option AV :=
  match fldOf P s f, x with
  | some fd, .st c =>
    match AV.fldGet f fd.offset c with
    | some c' => if ldOk P fd.type c' then some c' else none
    | none => none
  | _, _ => none
theorem evField_ok {P : Program} {w : World} {G : Gh} {s : TypeId} {x c : AV} {f : Nat} {u : Value} (h : evField P s x f = some c) (hu : ValR w G x u) : ∃ r, (Instr.field s u f).run P w = .ok r w ∧ ValR w G c r := by
  unfold evField at h
  split at h
  · rename_i fd c0 hfd
    unfold fldOf at hfd
    split at hfd
    · rename_i fs hus
      split at h
      · rename_i c' hg
        split at h
        · rename_i hl
          simp only [Option.some.injEq] at h
          subst h
          obtain ⟨cs, rfl, hc⟩ := (show ∃ cs, u = .agg cs ∧ CellsR w G c0 cs.toList from hu)
          obtain ⟨c1, c2, c3, e, hlen, h2, _⟩ := fld_ok f fd.offset c0 c' cs.toList hg hc
          obtain ⟨v, hrun, hv⟩ := part_ok (P := P) (c1 := c1) (c3 := c3) hl h2
          refine ⟨v, ?_, hv⟩
          have e2 : cs = (c1 ++ c2 ++ c3).toArray := by apply Array.ext'; simpa using e
          simp only [Instr.field, Sem.run_bind, run_underlying hus, Result.andThen_ok, hfd, asAgg, Sem.run_pure]
          rw [e2, ← hlen]
          exact hrun
        · cases h
      · cases h
    · cases hfd
  · cases h
def evIndex (P : Program) (t : TypeId) (x ix : AV) : Option (AV × Prop) :=
  match P.underlying t, x, ix with
  | some (.array n el), .arr m e l, .int _ i =>
    match P.info? el with
    | some inf => if inf.size = e.size ∧ m = n ∧ ldOk P el (e.av (l.getD i.toNat e.dflt)) = true then some (e.av (l.getD i.toNat e.dflt), inR i n) else none
    | none => none
  | some .string, .str s, .int _ i => some (.int .u8 (s.getD i.toNat 0).toNat, inR i s.length)
  | _, _, _ => none
theorem evIndex_ok {P : Program} {w : World} {G : Gh} {t : TypeId} {x ix c : AV} {C : Prop} {u v : Value} (h : evIndex P t x ix = some (c, C)) (hC : C) (hu : ValR w G x u) (hv : ValR w G ix v) : ∃ r, (Instr.index t u v).run P w = .ok r w ∧ ValR w G c r := by
  unfold evIndex at h
  split at h
  · rename_i n el m e l k i hut
    split at h
    · rename_i inf hinf
      split at h
      · rename_i hz
        obtain ⟨hz, rfl, hl⟩ := hz
        simp only [Option.some.injEq, Prod.mk.injEq] at h
        obtain ⟨rfl, rfl⟩ := h
        obtain ⟨h0, h1⟩ := hC
        rw [val_int hv]
        obtain ⟨cs, rfl, hlen, hcat⟩ := (show ∃ cs, u = .agg cs ∧ ShR w G.fz (.arr m e) l cs.toList from hu)
        obtain ⟨c1, c2, c3, e1, hl1, h2, _⟩ := CatR.at (fun x c hx => ShR.length e x c hx) hcat (getD_some (d := e.dflt) (show i.toNat < l.length by omega))
        obtain ⟨r, hrun, hr⟩ := part_ok (P := P) (c1 := c1) (c3 := c3) hl ((CellsR.av e _ _).2 h2)
        refine ⟨r, ?_, hr⟩
        have e2 : cs = (c1 ++ c2 ++ c3).toArray := by apply Array.ext'; simpa using e1
        simp only [Instr.index, asIntOf, Sem.run_bind, Sem.run_pure, Result.andThen_ok, run_underlying hut]
        rw [if_pos ⟨h0, h1⟩]
        simp only [Sem.run_bind, run_sz hinf, Result.andThen_ok]
        rw [e2, hz, ← hl1]
        exact hrun
      · cases h
    · cases h
  · rename_i s k i hut
    simp only [Option.some.injEq, Prod.mk.injEq] at h
    obtain ⟨rfl, rfl⟩ := h
    obtain ⟨h0, h1⟩ := hC
    rw [val_int hv, val_str hu]
    refine ⟨.int .u8 (s.getD i.toNat 0).toNat, ?_, rfl⟩
    have hlt : i.toNat < s.length := by omega
    have e1 : (⟨s.toArray⟩ : ByteArray)[i.toNat]? = some (s.getD i.toNat 0) := by
      have hlt2 : i.toNat < (⟨s.toArray⟩ : ByteArray).size := by rw [str_size]; exact hlt
      rw [getElem?_pos (⟨s.toArray⟩ : ByteArray) i.toNat hlt2]
      congr 1
      rw [List.getD_eq_getElem?_getD, List.getElem?_eq_getElem hlt]
      rfl
    simp only [Instr.index, asIntOf, Sem.run_bind, Sem.run_pure, Result.andThen_ok, run_underlying hut]
    rw [if_pos h0, e1]
    rfl
  · cases h
def nthAV : Nat → AV → Option AV
  | 0, .cons a _ => some a
  | n + 1, .cons _ b => nthAV n b
  | _, _ => none
theorem nth_ok {w : World} {G : Gh} : ∀ (n : Nat) (a c : AV) (vs : List Value), nthAV n a = some c → ValsR w G a vs → ∃ v, vs[n]? = some v ∧ ValR0 w G c v
  | 0, .cons a b, c, vs, h, ⟨v, t, e, h1, _⟩ => by
    simp only [nthAV, Option.some.injEq] at h; subst h; subst e
    exact ⟨v, rfl, h1⟩
  | n + 1, .cons a b, c, vs, h, ⟨v, t, e, _, h2⟩ => by
    subst e
    obtain ⟨u, h3, h4⟩ := nth_ok n b c t h h2
    exact ⟨u, by simpa using h3, h4⟩
def evExtract (x : AV) (i : Nat) : Option AV :=
  match x with
  | .tup a =>
    match nthAV i a with
    | some (.tup _) => none
    | r => r
  | _ => none
theorem evExtract_ok {P : Program} {w : World} {G : Gh} {x c : AV} {i : Nat} {u : Value} (h : evExtract x i = some c) (hu : ValR w G x u) : ∃ r, (Instr.extract u i).run P w = .ok r w ∧ ValR w G c r := by
  unfold evExtract at h
  split at h
  · rename_i a
    obtain ⟨vs, rfl, hvs⟩ := (show ∃ vs, u = .tuple vs ∧ ValsR w G a vs.toList from hu)
    split at h
    · cases h
    · rename_i hne
      obtain ⟨v, h1, h2⟩ := nth_ok i a c vs.toList h hvs
      refine ⟨v, ?_, ValR.of0 h2 (fun b e => ?_)⟩
      · have : vs[i]? = some v := by simpa using h1
        simp only [Instr.extract, this]
        rfl
      · subst e; exact hne _ h
  · cases h
def evLen (P : Program) (mem : List Blk) (t : TypeId) (x : AV) : Option AV :=
  match P.underlying t, x with
  | some .string, .str s => some (.int .i64 s.length)
  | some (.slice _), .sl _ l => some (.int .i64 l.length)
  | some (.slice _), .nilS => some (.int .i64 0)
  | some (.slice _), .emp => some (.int .i64 0)
  | some (.slice _), .row r =>
    match lk mem r with
    | .row _ _ l => some (.int .i64 l.length)
    | .rowl _ _ l none => some (.int .i64 l.length)
    | .rowl _ _ l (some (z, _)) => some (.int .i64 (((l.length + cond z 1 0 : Nat)) : Int))
    | _ => none
  | some (.array n _), _ => some (.int .i64 n)
  | _, _ => none
theorem evLen_ok {P : Program} {B : Nat} {w : World} {G : Gh} {mem : List Blk} {t ty : TypeId} {x c : AV} {u : Value} (h : evLen P mem t x = some c) (hm : MemR B w G mem) (hu : ValR w G x u) : ∃ r, (Builtin.len_ #[t] ty #[u]).run P w = .ok r w ∧ ValR w G c r := by
  unfold evLen at h
  split at h <;> try simp only [Option.some.injEq] at h
  · rename_i s hut
    subst h
    rw [val_str hu]
    refine ⟨.int .i64 s.length, ?_, rfl⟩
    simp [Builtin.len_, run_underlying hut, goInt, str_size]
  · rename_i el e l hut
    subst h
    obtain ⟨ad, cap, e1, _⟩ := (show ShR w G.fz (.sl e) l [u] from hu)
    obtain rfl : u = .slice ad l.length cap := by simpa using e1
    refine ⟨.int .i64 l.length, ?_, rfl⟩
    simp [Builtin.len_, run_underlying hut, goInt]
  · rename_i el hut
    subst h
    obtain rfl : u = .slice none 0 0 := by have : [u] = [Value.slice none 0 0] := hu; simpa using this
    exact ⟨.int .i64 0, by simp [Builtin.len_, run_underlying hut, goInt], rfl⟩
  · rename_i el hut
    subst h
    obtain ⟨ad, e1⟩ := (show ∃ a, [u] = [Value.slice a 0 0] from hu)
    obtain rfl : u = .slice ad 0 0 := by simpa using e1
    exact ⟨.int .i64 0, by simp [Builtin.len_, run_underlying hut, goInt], rfl⟩
  · rename_i el r hut
    split at h
    · rename_i tt e l hlk
      simp only [Option.some.injEq] at h
      subst h
      obtain ⟨e1, _⟩ := (show [u] = [G.rowv r] ∧ _ from hu)
      obtain rfl : u = G.rowv r := by simpa using e1
      have hb := hm.blk r
      rw [hlk] at hb
      obtain ⟨_, cs, hrow, _⟩ := hb
      obtain ⟨ad, cap, hv, _⟩ := hrow.slice
      rw [hv]
      exact ⟨.int .i64 l.length, by simp [Builtin.len_, run_underlying hut, goInt], rfl⟩
    · rename_i tt e l hlk
      simp only [Option.some.injEq] at h
      subst h
      obtain ⟨e1, _⟩ := (show [u] = [G.rowv r] ∧ _ from hu)
      obtain rfl : u = G.rowv r := by simpa using e1
      have hb := hm.blk r
      rw [hlk] at hb
      obtain ⟨_, c1, c2, hrow, _⟩ := hb
      obtain ⟨ad, cap, hv, _⟩ := hrow.slice
      rw [hv]
      exact ⟨.int .i64 l.length, by simp [Builtin.len_, run_underlying hut, goInt, lstN], rfl⟩
    · rename_i tt e l z c hlk
      simp only [Option.some.injEq] at h
      subst h
      obtain ⟨e1, _⟩ := (show [u] = [G.rowv r] ∧ _ from hu)
      obtain rfl : u = G.rowv r := by simpa using e1
      have hb := hm.blk r
      rw [hlk] at hb
      obtain ⟨_, c1, c2, hrow, _⟩ := hb
      obtain ⟨ad, cap, hv, _⟩ := hrow.slice
      rw [hv]
      exact ⟨.int .i64 ((l.length + cond z 1 0 : Nat) : Int), by simp [Builtin.len_, run_underlying hut, goInt, lstN], rfl⟩
    · cases h
  · rename_i _ n el hut
    subst h
    exact ⟨.int .i64 n, by simp [Builtin.len_, run_underlying hut, goInt], rfl⟩
  · cases h
end Go.Proofs.YtbpjinefbnlenaaGreatDoor
