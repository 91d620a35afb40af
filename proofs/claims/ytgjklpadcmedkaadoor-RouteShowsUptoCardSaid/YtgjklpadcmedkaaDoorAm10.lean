/- A machine of values, part 10: calls of functions that write nothing of their caller's. -/
import Derived.Test.YtgjklpadcmedkaaDoorAm9
namespace Go.Proofs.YtgjklpadcmedkaaDoor
open Go Go.RowKit
set_option linter.unusedVariables false

/-- no views inside -/
def Sh.noView : Sh → Bool
  | .pair a b => a.noView && b.noView
  | .st a => a.noView
  | .arr _ a => a.noView
  | .sl _ => false
  | _ => true
def AV.noView : AV → Bool
  | .cons a b => a.noView && b.noView
  | .st a => a.noView
  | .arr _ e _ => e.noView
  | .sl _ _ => false
  | .pv _ => false
  | .ifc _ e _ _ => e.noView
  | .fn _ c => c.noView
  | .tup a => a.noView
  | _ => true
def Blk.noView : Blk → Bool
  | .box _ c => c.noView
  | .row _ e _ => e.noView
  | .dead => true
  | .sav _ _ => false
  | .iter _ _ => true
  | .map _ k e _ => k.noView && e.noView
  | .bbuf _ e _ => e.noView
  | .rowl _ e _ none => e.noView
  | .rowl _ _ _ (some _) => false
theorem ShR.refz {w : World} {fz fz2 : Nat → Prop} : ∀ (s : Sh) (x : s.T) (cs : List Value), (s.noView = true ∨ ∀ b, fz b → fz2 b) → ShR w fz s x cs → ShR w fz2 s x cs
  | .int _, _, _, _, h | .bool, _, _, _, h | .str, _, _, _, h | .unit, _, _, _, h => h
  | .pair a b, x, cs, hv, h => by
    obtain ⟨c1, c2, e, h1, h2⟩ := h
    refine ⟨c1, c2, e, ShR.refz a _ _ ?_ h1, ShR.refz b _ _ ?_ h2⟩
    · exact hv.imp (fun h => by simp only [Sh.noView, Bool.and_eq_true] at h; exact h.1) id
    · exact hv.imp (fun h => by simp only [Sh.noView, Bool.and_eq_true] at h; exact h.2) id
  | .st a, x, cs, hv, h => ShR.refz a x cs hv h
  | .arr n a, x, cs, hv, h => ⟨h.1, CatR.mono (fun y c hy => ShR.refz a y c hv hy) _ _ h.2⟩
  | .sl a, x, cs, hv, h => by
    have hf := hv.resolve_left (by simp [Sh.noView])
    obtain ⟨ad, cap, e, h1, h2, h3⟩ := h
    refine ⟨ad, cap, e, h1, h2, fun h0 => ?_⟩
    obtain ⟨b, off, cells, e2, hb, hlt, hc, hx⟩ := h3 h0
    exact ⟨b, off, cells, e2, hf b hb, hlt, CatR.mono (fun y c hy => ShR.refz a y c (.inr hf) hy) _ _ hc, hx⟩
def AV.shift (n : Nat) : AV → AV
  | .cons a b => .cons (a.shift n) (b.shift n)
  | .st a => .st (a.shift n)
  | .row r => .row (r + n)
  | .sub r size lo m => .sub (r + n) size lo m
  | .mp r => .mp (r + n)
  | .ptr b p => .ptr (b + n) p
  | .slf b z => .slf (b + n) z
  | .fn f c => .fn f (c.shift n)
  | .tup a => .tup (a.shift n)
  | .pv c => .pv (c.shift n)
  | a => a
def Blk.shift (n : Nat) : Blk → Blk
  | .box t c => .box t (c.shift n)
  | .sav ts a => .sav (ts.map (AV.shift n)) a
  | .rowl t e l (some (z, c)) => .rowl t e l (some (z, c.shift n))
  | b => b
structure Shifts (G G2 : Gh) (n len : Nat) : Prop where
  addr : ∀ i, i < len → G2.addr (i + n) = G.addr i
  rowv : ∀ i, i < len → G2.rowv (i + n) = G.rowv i
theorem CellsR.shift {w : World} {G G2 : Gh} {n len : Nat} (hs : Shifts G G2 n len) : ∀ (a : AV) (cs : List Value), (∀ r ∈ a.refs, r < len) → (a.noView = true ∨ ∀ b, G.fz b → G2.fz b) → CellsR w G a cs → CellsR w G2 (a.shift n) cs
  | .unk, _, _, _, h | .int .., _, _, _, h | .bool .., _, _, _, h | .str .., _, _, _, h | .nil, _, _, _, h | .nilS, _, _, _, h | .nilP, _, _, _, h | .tup _, _, _, _, h | .emp, _, _, _, h | .opq _, _, _, _, h => h
  | .sub r size lo m, cs, hr, _, h => by
    simp only [AV.shift, CellsR] at h ⊢
    rw [hs.rowv _ (hr r (by simp [AV.refs]))]; exact h
  | .mp r, cs, hr, _, h => by
    simp only [AV.shift, CellsR] at h ⊢
    rw [hs.addr _ (hr r (by simp [AV.refs]))]; exact h
  | .ifc t e x b, cs, _, hv, h => ⟨fun hb => by obtain ⟨v, e1, h1, h2⟩ := h.1 hb; exact ⟨v, e1, h1, ShR.refz e x _ (hv.imp (fun h => h) id) h2⟩, h.2⟩
  | .cons a b, cs, hr, hv, h => by
    obtain ⟨c1, c2, e, h1, h2⟩ := h
    refine ⟨c1, c2, e, CellsR.shift hs a _ (fun r hr' => hr r (by simp [AV.refs, hr'])) ?_ h1, CellsR.shift hs b _ (fun r hr' => hr r (by simp [AV.refs, hr'])) ?_ h2⟩
    · exact hv.imp (fun h => by simp only [AV.noView, Bool.and_eq_true] at h; exact h.1) id
    · exact hv.imp (fun h => by simp only [AV.noView, Bool.and_eq_true] at h; exact h.2) id
  | .st a, cs, hr, hv, h => CellsR.shift hs a cs hr hv h
  | .arr n' e l, cs, _, hv, h => ShR.refz (.arr n' e) l cs (hv.imp (fun h => h) id) h
  | .sl e l, cs, _, hv, h => ShR.refz (.sl e) l cs (hv.imp (fun h => by simp [AV.noView] at h) id) h
  | .row r, cs, hr, _, h => by
    simp only [AV.shift, CellsR] at h ⊢
    rw [hs.rowv _ (hr r (by simp [AV.refs]))]; exact h
  | .ptr b p, cs, hr, _, h => by
    simp only [AV.shift, CellsR] at h ⊢
    rw [hs.addr _ (hr b (by simp [AV.refs]))]; exact h
  | .slf b z, cs, hr, _, h => by
    simp only [AV.shift, CellsR] at h ⊢
    rw [hs.addr _ (hr b (by simp [AV.refs]))]; exact h
  | .fn f c, cs, hr, hv, h => by
    obtain ⟨vs, e, h1⟩ := h
    exact ⟨vs, e, CellsR.shift hs c vs hr hv h1⟩
  | .pv c, cs, hr, hv, h => by
    have hf := hv.resolve_left (by simp [AV.noView])
    obtain ⟨b, off, e, hfz, hb, cells, hc, hx⟩ := h
    exact ⟨b, off, e, hf b hfz, hb, cells, CellsR.shift hs c cells hr (.inr hf) hc, hx⟩
theorem ValR0.shift {w : World} {G G2 : Gh} {n len : Nat} (hs : Shifts G G2 n len) (a : AV) (v : Value) (hr : ∀ r ∈ a.refs, r < len) (hv : a.noView = true ∨ ∀ b, G.fz b → G2.fz b) (h : ValR0 w G a v) : ValR0 w G2 (a.shift n) v := by
  cases a with
  | st a => obtain ⟨cs, e, h1⟩ := h; exact ⟨cs, e, CellsR.shift hs a _ hr hv h1⟩
  | arr m e l => obtain ⟨cs, e', h1⟩ := h; exact ⟨cs, e', ShR.refz (.arr m e) l _ hv h1⟩
  | unk => trivial
  | _ => exact CellsR.shift hs _ _ hr hv h
theorem ValsR.shift {w : World} {G G2 : Gh} {n len : Nat} (hs : Shifts G G2 n len) : ∀ (a : AV) (vs : List Value), (∀ r ∈ a.refs, r < len) → (a.noView = true ∨ ∀ b, G.fz b → G2.fz b) → ValsR w G a vs → ValsR w G2 (a.shift n) vs
  | .nil, vs, _, _, h => h
  | .cons a b, vs, hr, hv, h => by
    obtain ⟨v, t, e, h1, h2⟩ := h
    refine ⟨v, t, e, ValR0.shift hs a v (fun r hr' => hr r (by simp [AV.refs, hr'])) ?_ h1, ValsR.shift hs b t (fun r hr' => hr r (by simp [AV.refs, hr'])) ?_ h2⟩
    · exact hv.imp (fun h => by simp only [AV.noView, Bool.and_eq_true] at h; exact h.1) id
    · exact hv.imp (fun h => by simp only [AV.noView, Bool.and_eq_true] at h; exact h.2) id
  | .unk, _, _, _, h | .int .., _, _, _, h | .bool .., _, _, _, h | .str .., _, _, _, h | .st .., _, _, _, h | .arr .., _, _, _, h | .sl .., _, _, _, h | .nilS, _, _, _, h | .row .., _, _, _, h | .ptr .., _, _, _, h | .slf .., _, _, _, h | .nilP, _, _, _, h | .fn .., _, _, _, h | .tup .., _, _, _, h | .emp, _, _, _, h | .pv .., _, _, _, h | .sub .., _, _, _, h | .mp .., _, _, _, h | .ifc .., _, _, _, h | .opq .., _, _, _, h => h.elim
theorem ValR.shift {w : World} {G G2 : Gh} {n len : Nat} (hs : Shifts G G2 n len) (a : AV) (v : Value) (hr : ∀ r ∈ a.refs, r < len) (hv : a.noView = true ∨ ∀ b, G.fz b → G2.fz b) (h : ValR w G a v) : ValR w G2 (a.shift n) v := by
  cases a with
  | tup a => obtain ⟨vs, e, h1⟩ := h; exact ⟨vs, e, ValsR.shift hs a _ hr hv h1⟩
  | unk => trivial
  | _ => exact ValR0.shift (w := w) hs _ v hr hv h

/-- arguments -/
def ArgsR (w : World) (G : Gh) : List AV → List Value → Prop
  | [], vs => vs = []
  | a :: l, vs => ∃ v t, vs = v :: t ∧ ValR0 w G a v ∧ ArgsR w G l t
def G0 (fz : Nat → Prop) : Gh := ⟨fun _ => default, fun _ => undef, fz⟩
/-- the contract of a function that writes nothing that was there: from these arguments it gives this result, with these new blocks -/
def PureC (P : Program) (f : Nat) (args : List AV) (res : AV) (new : List Blk) : Prop :=
  ∀ (w : World) (fz : Nat → Prop) (vs : List Value), ((∀ b, fz b → b < w.heap.size) ∧ Bs w.heap.size w) → ArgsR w (G0 fz) args vs →
    Calls P f vs.toArray w fun e w' => ∃ v G', e = .returned v ∧ NewR w w' (G0 fz) G' 0 new ∧ ValR w' G' res v
def callable (P : Program) (f : Nat) : Bool :=
  match P.funcs[f]? with
  | some fn => fn.body.isSome && fn.name != "runtime.NumGoroutine"
  | none => false
theorem run_callFunc {P : Program} {w : World} {f : Nat} (h : callable P f = true) (args : Array Value) : (callFunc f args).run P w = .ok (.enter f args) w := by
  unfold callable at h
  split at h
  · rename_i fn hfn
    simp only [Bool.and_eq_true, bne_iff_ne, ne_eq] at h
    have hb : fn.body.isNone = false := by cases hb : fn.body <;> simp [hb] at h ⊢
    have hn : (fn.name == "runtime.NumGoroutine") = false := by simpa using h.2
    unfold callFunc program
    simp only [Sem.run_bind]
    simp only [Sem.run, Result.andThen, hfn, hn, hb, Bool.false_eq_true, if_false]
    rfl
  · cases h
/-- captured values, one by one -/
def capsL : AV → Option (List AV)
  | .nil => some []
  | .cons a b => (capsL b).map (a :: ·)
  | _ => none
theorem capsL_ok {w : World} {G : Gh} : ∀ (c : AV) (l : List AV) (vs : List Value), capsL c = some l → (∀ a ∈ l, a.flat = true) → CellsR w G c vs → ArgsR w G l vs
  | .nil, l, vs, h, _, hc => by simp only [capsL, Option.some.injEq] at h; subst h; exact hc
  | .cons a b, l, vs, h, hf, hc => by
    simp only [capsL, Option.map_eq_some_iff] at h
    obtain ⟨l', hl, rfl⟩ := h
    obtain ⟨c1, c2, rfl, h1, h2⟩ := hc
    have hfa := hf a (by simp)
    have hlen := CellsR.length a c1 h1
    rw [flat_size hfa] at hlen
    obtain ⟨v, rfl⟩ := list_one hlen
    exact ⟨v, c2, rfl, (ValR0.flat hfa).2 h1, capsL_ok b l' c2 hl (fun x hx => hf x (by simp [hx])) h2⟩
  | .unk, _, _, h, _, _ | .int .., _, _, h, _, _ | .bool .., _, _, h, _, _ | .str .., _, _, h, _, _ | .st .., _, _, h, _, _ | .arr .., _, _, h, _, _ | .sl .., _, _, h, _, _ | .nilS, _, _, h, _, _ | .row .., _, _, h, _, _ | .ptr .., _, _, h, _, _ | .slf .., _, _, h, _, _ | .nilP, _, _, h, _, _ | .fn .., _, _, h, _, _ | .tup .., _, _, h, _, _ | .emp, _, _, h, _, _ | .pv .., _, _, h, _, _ => by cases h
def notTup : AV → Bool
  | .tup _ => false
  | _ => true
theorem notTup_ok {a : AV} (h : notTup a = true) : ∀ b, a ≠ .tup b := by intro b e; subst e; cases h
def evArgs (ts : List AV) : List Operand → Option (List AV)
  | [] => some []
  | x :: l =>
    match ev ts x, evArgs ts l with
    | some a, some as => if notTup a then some (a :: as) else none
    | _, _ => none
theorem evArgs_ok {w : World} {G : Gh} {ts : List AV} {a : Act} (ht : TmpsR w G ts a) : ∀ (l : List Operand) (as : List AV), evArgs ts l = some as → ArgsR w G as (l.map a.eval)
  | [], as, h => by simp only [evArgs, Option.some.injEq] at h; subst h; rfl
  | x :: l, as, h => by
    simp only [evArgs] at h
    split at h
    · rename_i u us hu hus
      split at h
      · rename_i hn
        simp only [Option.some.injEq] at h; subst h
        exact ⟨_, _, rfl, (ev_ok ht hu).to0 (notTup_ok hn), evArgs_ok ht l us hus⟩
      · cases h
    · cases h
theorem ArgsR.append {w : World} {G : Gh} : ∀ {l m : List AV} {a b : List Value}, ArgsR w G l a → ArgsR w G m b → ArgsR w G (l ++ m) (a ++ b)
  | [], m, a, b, ha, hb => by simp only [ArgsR] at ha; subst ha; simpa using hb
  | x :: l, m, a, b, ⟨v, t, e, h1, h2⟩, hb => ⟨v, t ++ b, by rw [e]; rfl, h1, ArgsR.append h2 hb⟩
/-- lent for a call: an own row as a view, a pointer to an own variable as a view of what it holds -/
def lendC (mem : List Blk) : AV → Option AV
  | .cons a b =>
    match lendC mem a, lendC mem b with
    | some x, some y => some (.cons x y)
    | _, _ => none
  | .st a => (lendC mem a).map .st
  | .row r =>
    match lk mem r with
    | .row _ e l => some (.sl e l)
    | _ => none
  | .sub r size lo n =>
    match lk mem r with
    | .row _ e l => if size = e.size then some (.sl e ((l.take (lo + n)).drop lo)) else none
    | _ => none
  | .mp _ => none
  | .ptr _ _ => none
  | .slf _ _ => none
  | .fn f c => if c.refs.isEmpty then some (.fn f c) else none
  | .tup _ => none
  | .pv c => if c.refs.isEmpty then some (.pv c) else none
  | a => some a
def lend (mem : List Blk) : AV → Option (AV × Prop)
  | .cons a b =>
    match lend mem a, lend mem b with
    | some (x, C), some (y, D) => some (.cons x y, C ∧ D)
    | _, _ => none
  | .st a => (lend mem a).map fun (x, C) => (.st x, C)
  | .ptr b q =>
    match blkAV (lk mem b) with
    | some c =>
      match AV.get q c with
      | some (c', C) => if 0 < c'.size then (lendC mem c').map fun x => (.pv x, C) else none
      | none => none
    | none => none
  | .fn f c => (lend mem c).map fun (x, C) => (.fn f x, C)
  | a => (lendC mem a).map fun x => (x, True)
/-- all that is there, as frozen -/
def allF (w : World) : Nat → Prop := fun b => b < w.heap.size
theorem ShR.toAll {w : World} {fz : Nat → Prop} (hf : ∀ b, fz b → b < w.heap.size) (s : Sh) (x : s.T) (cs : List Value) (h : ShR w fz s x cs) : ShR w (allF w) s x cs := ShR.refz s x cs (.inr hf) h
theorem CellsR.norefs {w : World} {G : Gh} {fz2 : Nat → Prop} (hf : ∀ b, G.fz b → fz2 b) : ∀ (a : AV) (cs : List Value), a.refs = [] → CellsR w G a cs → CellsR w (G0 fz2) a cs
  | .unk, _, _, h | .int .., _, _, h | .bool .., _, _, h | .str .., _, _, h | .nil, _, _, h | .nilS, _, _, h | .nilP, _, _, h | .tup _, _, _, h | .emp, _, _, h | .opq _, _, _, h => h
  | .sub .., _, hr, _ => by simp [AV.refs] at hr
  | .mp _, _, hr, _ => by simp [AV.refs] at hr
  | .ifc t e x b, cs, _, h => ⟨fun hb => by obtain ⟨v, e1, h1, h2⟩ := h.1 hb; exact ⟨v, e1, h1, ShR.refz e x _ (.inr hf) h2⟩, h.2⟩
  | .cons a b, cs, hr, h => by
    simp only [AV.refs, List.append_eq_nil_iff] at hr
    obtain ⟨c1, c2, e, h1, h2⟩ := h
    exact ⟨c1, c2, e, CellsR.norefs hf a _ hr.1 h1, CellsR.norefs hf b _ hr.2 h2⟩
  | .st a, cs, hr, h => CellsR.norefs hf a cs hr h
  | .arr n e l, cs, _, h => ShR.refz (.arr n e) l cs (.inr hf) h
  | .sl e l, cs, _, h => ShR.refz (.sl e) l cs (.inr hf) h
  | .row r, _, hr, _ => by simp [AV.refs] at hr
  | .ptr b p, _, hr, _ => by simp [AV.refs] at hr
  | .slf b z, _, hr, _ => by simp [AV.refs] at hr
  | .fn f c, cs, hr, h => by
    obtain ⟨vs, e, h1⟩ := h
    exact ⟨vs, e, CellsR.norefs hf c vs hr h1⟩
  | .pv c, cs, hr, h => by
    obtain ⟨b, off, e, hfz, hb, cells, hc, hx⟩ := h
    exact ⟨b, off, e, hf b hfz, hb, cells, CellsR.norefs hf c cells hr hc, hx⟩
theorem lend_row {B : Nat} {w : World} {G : Gh} {mem : List Blk} (hm : MemR B w G mem) {r : Nat} {t : TypeId} {e : Sh} {l : List e.T} (h : lk mem r = .row t e l) : ShR w (allF w) (.sl e) l [G.rowv r] := by
  have hb := hm.blk r
  rw [h] at hb
  obtain ⟨ha, cs, hrow, hcat⟩ := hb
  rcases hrow with ⟨hn, rfl, a, hv⟩ | ⟨g, cap, rest, hv, hcap, _, ho, h1, h2, h3, _⟩
  · refine ⟨a, 0, by rw [hv, hn], by omega, Nat.zero_le _, fun h0 => by omega⟩
  · refine ⟨_, cap, by rw [hv], h1, h2, fun _ => ⟨g, 0, cs, rfl, ho.lt, ho.lt, CatR.mono (fun y c hy => ShR.toAll hm.fz e y c hy) _ _ hcat, fun i v hi => ?_⟩⟩
    rw [Nat.zero_add]
    exact ho.cell hi
/-- a part of a view -/
theorem ShR.subv {w : World} {fz : Nat → Prop} {e : Sh} {l : List e.T} {rv v : Value} (h : ShR w fz (.sl e) l [rv]) {lo n : Nat} (hs : SubR e.size lo n rv v) : ShR w fz (.sl e) ((l.take (lo + n)).drop lo) [v] := by
  obtain ⟨ad, cap, e1, h1, h2, h3⟩ := h
  obtain ⟨ad2, N, cap2, a', e2, g1, g2, rfl, g3, g4⟩ := hs
  have e3 := (List.cons.inj e1).1
  rw [e2] at e3
  obtain ⟨rfl, rfl, rfl⟩ := Value.slice.inj e3
  have hlen : ((l.take (lo + n)).drop lo).length = n := by rw [List.length_drop, List.length_take]; omega
  refine ⟨_, cap2 - lo, by rw [hlen], by rw [hlen]; omega, by omega, fun h0 => ?_⟩
  rw [hlen] at h0
  obtain ⟨b, off, cells, rfl, hf, hb, hc, hx⟩ := h3 (by omega)
  obtain ⟨ca, cb, cc, rfl, hla, hcb⟩ := CatR.sub (fun x c hy => ShR.length e x c hy) hc (lo := lo) (hi := lo + n) (by omega) g3
  refine ⟨b, off + lo * e.size, cb, ?_, hf, hb, hcb, fun i v hi => ?_⟩
  · rw [g4 (by omega), Option.map_some, addr_add']
  · have hlt : i < cb.length := (List.getElem?_eq_some_iff.1 hi).1
    have := hx (ca.length + i) v (by rw [List.append_assoc, List.getElem?_append_right (by omega), show ca.length + i - ca.length = i by omega, List.getElem?_append_left hlt]; exact hi)
    rw [hla, ← Nat.add_assoc] at this
    exact this
theorem lendC_ok {B : Nat} {w : World} {G : Gh} {mem : List Blk} (hm : MemR B w G mem) : ∀ (a x : AV) (cs : List Value), lendC mem a = some x → CellsR w G a cs → CellsR w (G0 (allF w)) x cs
  | .cons a b, x, cs, h, hc => by
    simp only [lendC] at h
    split at h
    · rename_i u v hu hv
      simp only [Option.some.injEq] at h; subst h
      obtain ⟨c1, c2, e, h1, h2⟩ := hc
      exact ⟨c1, c2, e, lendC_ok hm a u c1 hu h1, lendC_ok hm b v c2 hv h2⟩
    · cases h
  | .st a, x, cs, h, hc => by
    simp only [lendC, Option.map_eq_some_iff] at h
    obtain ⟨u, hu, rfl⟩ := h
    exact lendC_ok hm a u cs hu hc
  | .row r, x, cs, h, hc => by
    simp only [lendC] at h
    split at h
    · rename_i t e l hlk
      simp only [Option.some.injEq] at h; subst h
      obtain ⟨rfl, _⟩ := hc
      exact lend_row hm hlk
    · cases h
  | .sub r size lo n, x, cs, h, hc => by
    simp only [lendC] at h
    split at h
    · rename_i t e l hlk
      split at h
      · rename_i hz
        simp only [Option.some.injEq] at h; subst h; subst hz
        obtain ⟨v, rfl, hs⟩ := hc
        exact (lend_row hm hlk).subv hs
      · cases h
    · cases h
  | .mp _, x, cs, h, _ => by cases h
  | .opq _, x, cs, h, hc => by simp only [lendC, Option.some.injEq] at h; subst h; exact hc
  | .ifc t e y b, x, cs, h, hc => by simp only [lendC, Option.some.injEq] at h; subst h; exact CellsR.norefs hm.fz (.ifc t e y b) cs rfl hc
  | .ptr _ _, x, cs, h, _ => by cases h
  | .slf _ _, x, cs, h, _ => by cases h
  | .tup _, x, cs, h, _ => by cases h
  | .fn f c, x, cs, h, hc => by
    simp only [lendC] at h
    split at h
    · rename_i hr
      simp only [Option.some.injEq] at h; subst h
      exact CellsR.norefs hm.fz (.fn f c) cs (by simpa [AV.refs] using hr) hc
    · cases h
  | .pv c, x, cs, h, hc => by
    simp only [lendC] at h
    split at h
    · rename_i hr
      simp only [Option.some.injEq] at h; subst h
      exact CellsR.norefs hm.fz (.pv c) cs (by simpa [AV.refs] using hr) hc
    · cases h
  | .unk, x, cs, h, hc => by simp only [lendC, Option.some.injEq] at h; subst h; exact hc
  | .int .., x, cs, h, hc => by simp only [lendC, Option.some.injEq] at h; subst h; exact hc
  | .bool .., x, cs, h, hc => by simp only [lendC, Option.some.injEq] at h; subst h; exact hc
  | .str .., x, cs, h, hc => by simp only [lendC, Option.some.injEq] at h; subst h; exact hc
  | .nil, x, cs, h, hc => by simp only [lendC, Option.some.injEq] at h; subst h; exact hc
  | .nilS, x, cs, h, hc => by simp only [lendC, Option.some.injEq] at h; subst h; exact hc
  | .nilP, x, cs, h, hc => by simp only [lendC, Option.some.injEq] at h; subst h; exact hc
  | .emp, x, cs, h, hc => by simp only [lendC, Option.some.injEq] at h; subst h; exact hc
  | .arr n e l, x, cs, h, hc => by simp only [lendC, Option.some.injEq] at h; subst h; exact ShR.refz (.arr n e) l cs (.inr hm.fz) hc
  | .sl e l, x, cs, h, hc => by simp only [lendC, Option.some.injEq] at h; subst h; exact ShR.refz (.sl e) l cs (.inr hm.fz) hc
theorem lend_ok {B : Nat} {w : World} {G : Gh} {mem : List Blk} (hm : MemR B w G mem) : ∀ (a x : AV) (C : Prop) (cs : List Value), lend mem a = some (x, C) → C → CellsR w G a cs → CellsR w (G0 (allF w)) x cs
  | .cons a b, x, C, cs, h, hC, hc => by
    simp only [lend] at h
    split at h
    · rename_i u D v E hu hv
      simp only [Option.some.injEq, Prod.mk.injEq] at h
      obtain ⟨rfl, rfl⟩ := h
      obtain ⟨c1, c2, e, h1, h2⟩ := hc
      exact ⟨c1, c2, e, lend_ok hm a u D c1 hu hC.1 h1, lend_ok hm b v E c2 hv hC.2 h2⟩
    · cases h
  | .st a, x, C, cs, h, hC, hc => by
    simp only [lend, Option.map_eq_some_iff, Prod.mk.injEq, Prod.exists] at h
    obtain ⟨u, D, hu, rfl, rfl⟩ := h
    exact lend_ok hm a u D cs hu hC hc
  | .fn f c, x, C, cs, h, hC, hc => by
    simp only [lend, Option.map_eq_some_iff, Prod.mk.injEq, Prod.exists] at h
    obtain ⟨u, D, hu, rfl, rfl⟩ := h
    obtain ⟨vs, e, h1⟩ := hc
    exact ⟨vs, e, lend_ok hm c u D vs hu hC h1⟩
  | .ptr b q, x, C, cs, h, hC, hc => by
    simp only [lend] at h
    split at h
    · rename_i c hcb
      split at h
      · rename_i c' D hget
        split at h
        · rename_i hz
          simp only [Option.map_eq_some_iff, Prod.mk.injEq] at h
          obtain ⟨y, hy, rfl, rfl⟩ := h
          obtain ⟨cells, h1, h2⟩ := blk_at (hm.blk b) hcb
          obtain ⟨c1, c2, c3, rfl, hlen, h3⟩ := AV.get_ok q c c' D cells hget hC h1
          have hat := At.sub (w := w) (b := (G.addr b).block) (off := (G.addr b).off) (c1 := c1) (c2 := c2) (c3 := c3) ⟨rfl, h2⟩
          rw [hlen] at hat
          have hl2 := CellsR.length c' c2 h3
          have hlt : (G.addr b).block < w.heap.size := by
            have h0 : 0 < c2.length := by omega
            have := hat.2 0 c2[0] (List.getElem?_eq_getElem h0)
            exact World.block_lt_of_cell? w (a := ⟨(G.addr b).block, (G.addr b).off + offs q + 0, none⟩) this
          exact ⟨_, _, hc, hlt, hlt, c2, lendC_ok hm c' y c2 hy h3, hat.2⟩
        · cases h
      · cases h
    · cases h
  | .row r, x, C, cs, h, _, hc => by simp only [lend, Option.map_eq_some_iff, Prod.mk.injEq] at h; obtain ⟨y, hy, rfl, _⟩ := h; exact lendC_ok hm _ _ cs hy hc
  | .sub .., x, C, cs, h, _, hc => by simp only [lend, Option.map_eq_some_iff, Prod.mk.injEq] at h; obtain ⟨y, hy, rfl, _⟩ := h; exact lendC_ok hm _ _ cs hy hc
  | .mp _, x, C, cs, h, _, hc => by simp only [lend, Option.map_eq_some_iff, Prod.mk.injEq] at h; obtain ⟨y, hy, rfl, _⟩ := h; exact lendC_ok hm _ _ cs hy hc
  | .ifc .., x, C, cs, h, _, hc => by simp only [lend, Option.map_eq_some_iff, Prod.mk.injEq] at h; obtain ⟨y, hy, rfl, _⟩ := h; exact lendC_ok hm _ _ cs hy hc
  | .slf _ _, x, C, cs, h, _, hc => by simp only [lend, Option.map_eq_some_iff, Prod.mk.injEq] at h; obtain ⟨y, hy, rfl, _⟩ := h; exact lendC_ok hm _ _ cs hy hc
  | .opq _, x, C, cs, h, _, hc => by simp only [lend, Option.map_eq_some_iff, Prod.mk.injEq] at h; obtain ⟨y, hy, rfl, _⟩ := h; exact lendC_ok hm _ _ cs hy hc
  | .tup a, x, C, cs, h, _, hc => hc.elim
  | .pv a, x, C, cs, h, _, hc => by simp only [lend, Option.map_eq_some_iff, Prod.mk.injEq] at h; obtain ⟨y, hy, rfl, _⟩ := h; exact lendC_ok hm _ _ cs hy hc
  | .unk, x, C, cs, h, _, hc => by simp only [lend, Option.map_eq_some_iff, Prod.mk.injEq] at h; obtain ⟨y, hy, rfl, _⟩ := h; exact lendC_ok hm _ _ cs hy hc
  | .int .., x, C, cs, h, _, hc => by simp only [lend, Option.map_eq_some_iff, Prod.mk.injEq] at h; obtain ⟨y, hy, rfl, _⟩ := h; exact lendC_ok hm _ _ cs hy hc
  | .bool .., x, C, cs, h, _, hc => by simp only [lend, Option.map_eq_some_iff, Prod.mk.injEq] at h; obtain ⟨y, hy, rfl, _⟩ := h; exact lendC_ok hm _ _ cs hy hc
  | .str .., x, C, cs, h, _, hc => by simp only [lend, Option.map_eq_some_iff, Prod.mk.injEq] at h; obtain ⟨y, hy, rfl, _⟩ := h; exact lendC_ok hm _ _ cs hy hc
  | .nil, x, C, cs, h, _, hc => by simp only [lend, Option.map_eq_some_iff, Prod.mk.injEq] at h; obtain ⟨y, hy, rfl, _⟩ := h; exact lendC_ok hm _ _ cs hy hc
  | .nilS, x, C, cs, h, _, hc => by simp only [lend, Option.map_eq_some_iff, Prod.mk.injEq] at h; obtain ⟨y, hy, rfl, _⟩ := h; exact lendC_ok hm _ _ cs hy hc
  | .nilP, x, C, cs, h, _, hc => by simp only [lend, Option.map_eq_some_iff, Prod.mk.injEq] at h; obtain ⟨y, hy, rfl, _⟩ := h; exact lendC_ok hm _ _ cs hy hc
  | .emp, x, C, cs, h, _, hc => by simp only [lend, Option.map_eq_some_iff, Prod.mk.injEq] at h; obtain ⟨y, hy, rfl, _⟩ := h; exact lendC_ok hm _ _ cs hy hc
  | .arr .., x, C, cs, h, _, hc => by simp only [lend, Option.map_eq_some_iff, Prod.mk.injEq] at h; obtain ⟨y, hy, rfl, _⟩ := h; exact lendC_ok hm _ _ cs hy hc
  | .sl .., x, C, cs, h, _, hc => by simp only [lend, Option.map_eq_some_iff, Prod.mk.injEq] at h; obtain ⟨y, hy, rfl, _⟩ := h; exact lendC_ok hm _ _ cs hy hc
end Go.Proofs.YtgjklpadcmedkaaDoor
