/- A machine of values, part 7: slices of texts and of views, closures, struct and slice literals. -/
import Derived.Test.YtgjklpadcmedkaaDoorAm6
namespace Go.Proofs.YtgjklpadcmedkaaDoor
open Go Go.RowKit
set_option linter.unusedVariables false

/-! 's[lo:hi]' -/
def subL {α : Type} (s : List α) : Option Int → Option Int → List α
  | none, none => s
  | some lo, none => s.drop lo.toNat
  | none, some hi => s.take hi.toNat
  | some lo, some hi => (s.take hi.toNat).drop lo.toNat
def subC (n : Nat) : Option Int → Option Int → Prop
  | none, none => True
  | some lo, none => 0 ≤ lo ∧ lo ≤ n
  | none, some hi => 0 ≤ hi ∧ hi ≤ n
  | some lo, some hi => (0 ≤ hi ∧ hi ≤ n) ∧ (0 ≤ lo ∧ lo ≤ hi)
def loN : Option Int → Nat
  | none => 0
  | some i => i.toNat
def hiN (n : Nat) : Option Int → Nat
  | none => n
  | some i => i.toNat
theorem subL_eq {α : Type} (s : List α) (lo hi : Option Int) : subL s lo hi = (s.take (hiN s.length hi)).drop (loN lo) := by
  cases lo <;> cases hi <;> simp [subL, hiN, loN]
theorem subC_le {n : Nat} {lo hi : Option Int} (h : subC n lo hi) : loN lo ≤ hiN n hi ∧ hiN n hi ≤ n := by
  cases lo <;> cases hi <;> simp only [subC, loN, hiN] at h ⊢ <;> omega
/-- numbers as optional bounds -/
def OI (v : Option Value) (i : Option Int) : Prop :=
  match v, i with
  | none, none => True
  | some v, some i => ∃ k, v = .int k i
  | _, _ => False
theorem run_bounds {P : Program} {w : World} {b : Bool} {n cap : Nat} {lo hi : Option Value} {l h : Option Int} (hl : OI lo l) (hh : OI hi h) (hC : subC n l h) (hnc : n ≤ cap) :
    (Instr.sliceBounds b n cap lo hi none).run P w = .ok (loN l, hiN n h, cap) w := by
  have one : ∀ (k : IntKind) (i : Int) (y : Nat) (c : BoundsCode), 0 ≤ i → i ≤ y → (Instr.sliceBound (.int k i) y c).run P w = .ok i.toNat w := by
    intro k i y c h0 h1
    simp only [Instr.sliceBound, asIntOf, Sem.run_bind, Sem.run_pure, Result.andThen_ok]
    rw [if_pos ⟨h0, h1⟩]
    rfl
  cases lo with
  | none =>
    cases l with
    | some l => exact hl.elim
    | none =>
      cases hi with
      | none =>
        cases h with
        | some h => exact hh.elim
        | none => simp [Instr.sliceBounds, Sem.run_pure, loN, hiN]
      | some hv =>
        cases h with
        | none => exact hh.elim
        | some h =>
          obtain ⟨k, rfl⟩ := hh
          obtain ⟨h0, h1⟩ := hC
          simp [Instr.sliceBounds, loN, hiN, one k h cap _ h0 (by omega)]
  | some lv =>
    cases l with
    | none => exact hl.elim
    | some l =>
      obtain ⟨k, rfl⟩ := hl
      cases hi with
      | none =>
        cases h with
        | some h => exact hh.elim
        | none =>
          obtain ⟨h0, h1⟩ := hC
          simp [Instr.sliceBounds, loN, hiN, one k l n _ h0 h1]
      | some hv =>
        cases h with
        | none => exact hh.elim
        | some h =>
          obtain ⟨k', rfl⟩ := hh
          obtain ⟨⟨h0, h1⟩, h2, h3⟩ := hC
          simp [Instr.sliceBounds, loN, hiN, one k' h cap _ h0 (by omega), one k l h.toNat _ h2 (by omega)]
def oiAV : Option AV → Option (Option Int)
  | none => some none
  | some (.int _ i) => some (some i)
  | _ => none
theorem CatR.sub {α : Type} {R : α → List Value → Prop} {k : Nat} (hR : ∀ x c, R x c → c.length = k) {xs : List α} {cells : List Value} (h : CatR R xs cells) {lo hi : Nat} (h1 : lo ≤ hi) (h2 : hi ≤ xs.length) :
    ∃ c1 c2 c3, cells = c1 ++ c2 ++ c3 ∧ c1.length = lo * k ∧ CatR R ((xs.take hi).drop lo) c2 := by
  rw [← List.take_append_drop hi xs] at h
  obtain ⟨a, c3, rfl, ha, h3⟩ := CatR.split h
  rw [← List.take_append_drop lo (xs.take hi)] at ha
  obtain ⟨c1, c2, rfl, h4, h5⟩ := CatR.split ha
  refine ⟨c1, c2, c3, rfl, ?_, h5⟩
  rw [CatR.length hR _ _ h4, List.length_take, List.length_take]
  congr 1
  omega
def evSlice (P : Program) (t : TypeId) (x : AV) (lo hi mx : Option AV) : Option (AV × Prop) :=
  match mx with
  | none =>
    match oiAV lo, oiAV hi with
    | some lo, some hi =>
      match P.underlying t, x with
      | some .string, .str s => some (.str (subL s lo hi), subC s.length lo hi)
      | some (.slice el), .sl e l =>
        match P.info? el with
        | some inf => if inf.size = e.size then some (.sl e (subL l lo hi), subC l.length lo hi) else none
        | none => none
      | some (.slice el), .nilS =>
        match P.info? el with
        | some _ => some (.nilS, subC 0 lo hi)
        | none => none
      | some (.array n el), .pv (.arr m e l) =>
        match P.info? el with
        | some inf => if inf.size = e.size ∧ m = n ∧ n ≤ maxLen then some (.sl e (subL l lo hi), subC l.length lo hi) else none
        | none => none
      | _, _ => none
    | _, _ => none
  | some (.int _ m) =>
    match P.underlying t, x, lo, hi with
    | some (.slice el), .sl _ _, none, some (.int _ h) => if m = 0 ∧ h = 0 ∧ (P.info? el).isSome then some (.emp, True) else none
    | some (.slice el), .sl _ _, some (.int _ l), some (.int _ h) => if m = 0 ∧ h = 0 ∧ l = 0 ∧ (P.info? el).isSome then some (.emp, True) else none
    | _, _, _, _ => none
  | _ => none
/-- optional values -/
def OV (w : World) (G : Gh) : Option AV → Option Value → Prop
  | none, none => True
  | some a, some v => ValR w G a v
  | _, _ => False
theorem oi_ok {w : World} {G : Gh} {a : Option AV} {v : Option Value} {i : Option Int} (h : oiAV a = some i) (hr : OV w G a v) : OI v i := by
  unfold oiAV at h
  split at h <;> try simp only [Option.some.injEq] at h
  · subst h; cases v with | none => trivial | some v => exact hr.elim
  · subst h
    cases v with
    | none => exact hr.elim
    | some v => exact ⟨_, val_int (show ValR w G (.int _ _) v from hr)⟩
  · cases h
theorem str_extract (s : List UInt8) (a b : Nat) (h : b ≤ s.length) : (⟨s.toArray⟩ : ByteArray).extract a b = ⟨((s.take b).drop a).toArray⟩ := by
  apply ByteArray.ext
  rw [ByteArray.data_extract]
  apply Array.ext'
  simp [List.drop_take]
theorem evSlice_ok {P : Program} {w : World} {G : Gh} {t : TypeId} {x c : AV} {lo hi mx : Option AV} {u : Value} {vlo vhi vmx : Option Value} {C : Prop} (h : evSlice P t x lo hi mx = some (c, C)) (hC : C) (hu : ValR w G x u)
    (h1 : OV w G lo vlo) (h2 : OV w G hi vhi) (h3 : OV w G mx vmx) :
    ∃ r, (Instr.sliceAt t u vlo vhi vmx).run P w = .ok r w ∧ ValR w G c r := by
  unfold evSlice at h
  split at h
  · obtain rfl : vmx = none := by cases vmx with | none => rfl | some v => exact h3.elim
    split at h
    · rename_i lo' hi' hlo hhi
      have ol := oi_ok hlo h1
      have oh := oi_ok hhi h2
      split at h
      · rename_i s hut
        simp only [Option.some.injEq, Prod.mk.injEq] at h
        obtain ⟨rfl, rfl⟩ := h
        rw [val_str hu]
        obtain ⟨g1, g2⟩ := subC_le hC
        refine ⟨_, ?_, rfl⟩
        simp only [Instr.sliceAt, Sem.run_bind, run_underlying hut, Result.andThen_ok, Instr.slice]
        rw [str_size]
        simp only [Option.isSome_none, Bool.false_eq_true, if_false, Sem.run_bind, Sem.run_pure, Result.andThen_ok, run_bounds ol oh hC (Nat.le_refl _)]
        rw [str_extract _ _ _ g2, ← subL_eq]
      · rename_i el e l hut
        split at h
        · rename_i inf hinf
          split at h
          · rename_i hz
            simp only [Option.some.injEq, Prod.mk.injEq] at h
            obtain ⟨rfl, rfl⟩ := h
            obtain ⟨ad, cap, e1, hlc, hcm, hx⟩ := (show ShR w G.fz (.sl e) l [u] from hu)
            obtain rfl : u = .slice ad l.length cap := by simpa using e1
            obtain ⟨g1, g2⟩ := subC_le hC
            refine ⟨.slice (if cap = loN lo' then ad else ad.map (·.add (loN lo' * inf.size))) (hiN l.length hi' - loN lo') (cap - loN lo'), ?_, ?_⟩
            · simp only [Instr.sliceAt, Sem.run_bind, run_underlying hut, Result.andThen_ok, Instr.slice, run_bounds ol oh hC hlc, run_sz hinf, Sem.run_pure]
            · rw [subL_eq]
              show ShR w G.fz (.sl e) _ _
              have hll : ((l.take (hiN l.length hi')).drop (loN lo')).length = hiN l.length hi' - loN lo' := by simp; omega
              refine ⟨_, cap - loN lo', by rw [hll], by rw [hll]; omega, by omega, fun h0 => ?_⟩
              rw [hll] at h0
              obtain ⟨b, off, cells, rfl, hf, hb, hcat, hcell⟩ := hx (by omega)
              obtain ⟨c1, c2, c3, rfl, hl1, hc2⟩ := CatR.sub (fun y c hy => ShR.length e y c hy) hcat g1 g2
              refine ⟨b, off + loN lo' * e.size, c2, ?_, hf, hb, hc2, ?_⟩
              · rw [if_neg (by omega)]
                simp only [Option.map_some, addr_add', hz]
              · rw [← hl1]
                exact (At.sub (w := w) (b := b) (off := off) (c1 := c1) (c2 := c2) (c3 := c3) ⟨rfl, hcell⟩).2
          · cases h
        · cases h
      · rename_i el hut
        split at h
        · rename_i inf hinf
          simp only [Option.some.injEq, Prod.mk.injEq] at h
          obtain ⟨rfl, rfl⟩ := h
          have e1 : [u] = [Value.slice none 0 0] := hu
          obtain rfl : u = .slice none 0 0 := by simpa using e1
          obtain ⟨g1, g2⟩ := subC_le hC
          have z1 : hiN 0 hi' = 0 := by omega
          have z2 : loN lo' = 0 := by omega
          refine ⟨.slice none 0 0, ?_, rfl⟩
          simp only [Instr.sliceAt, Sem.run_bind, run_underlying hut, Result.andThen_ok, Instr.slice, run_bounds ol oh hC (Nat.le_refl 0), run_sz hinf, Sem.run_pure, z1, z2]
          rfl
        · cases h
      · rename_i n el m e l hut
        split at h
        · rename_i inf hinf
          split at h
          · rename_i hz
            obtain ⟨hz, rfl, hmax⟩ := hz
            simp only [Option.some.injEq, Prod.mk.injEq] at h
            obtain ⟨rfl, rfl⟩ := h
            obtain ⟨b, off, e1, hf, hb, cells, ⟨hlen, hcat⟩, hcell⟩ := (show CellsR w G (.pv (.arr m e l)) [u] from hu)
            obtain rfl : u = .pointer (some ⟨b, off, none⟩) := by simpa using e1
            obtain ⟨g1, g2⟩ := subC_le hC
            have hrb := run_bounds (P := P) (w := w) (b := false) (n := l.length) (cap := l.length) ol oh hC (Nat.le_refl _)
            rw [hlen] at hrb
            rw [hlen] at g1 g2
            refine ⟨.slice (some (if m = loN lo' then ⟨b, off, none⟩ else (⟨b, off, none⟩ : Addr).add (loN lo' * inf.size))) (hiN m hi' - loN lo') (m - loN lo'), ?_, ?_⟩
            · simp only [Instr.sliceAt, Sem.run_bind, run_underlying hut, Result.andThen_ok, Instr.sureAddr, hrb, run_sz hinf, Sem.run_pure]
            · rw [subL_eq, hlen]
              show ShR w G.fz (.sl e) _ _
              have hll : ((l.take (hiN m hi')).drop (loN lo')).length = hiN m hi' - loN lo' := by simp; omega
              refine ⟨_, m - loN lo', by rw [hll], by rw [hll]; omega, by omega, fun h0 => ?_⟩
              rw [hll] at h0
              obtain ⟨c1, c2, c3, rfl, hl1, hc2⟩ := CatR.sub (fun y c hy => ShR.length e y c hy) hcat g1 (by omega)
              refine ⟨b, off + loN lo' * e.size, c2, ?_, hf, hb, hc2, ?_⟩
              · rw [if_neg (by omega)]
                simp only [addr_add', hz]
              · rw [← hl1]
                exact (At.sub (w := w) (b := b) (off := off) (c1 := c1) (c2 := c2) (c3 := c3) ⟨rfl, hcell⟩).2
          · cases h
        · cases h
      · cases h
    · cases h
  · rename_i k m
    obtain ⟨vm, rfl⟩ : ∃ vm, vmx = some vm := by cases vmx with | none => exact h3.elim | some v => exact ⟨v, rfl⟩
    rw [val_int (show ValR w G (.int k m) vm from h3)]
    have fin : ∀ (el : TypeId) (e : Sh) (l : List e.T) (vlo : Option Value), P.underlying t = some (.slice el) → m = 0 → (P.info? el).isSome = true → ValR w G (.sl e l) u → (vlo = none ∨ ∃ k, vlo = some (.int k 0)) → (∃ k', vhi = some (.int k' 0)) →
        ∃ r, (Instr.sliceAt t u vlo vhi (some (.int k m))).run P w = .ok r w ∧ ValR w G .emp r := by
      intro el e l vlo hut hm hi hu hvl ⟨k', hvh⟩
      subst hm; subst hvh
      obtain ⟨inf, hinf⟩ := Option.isSome_iff_exists.1 hi
      obtain ⟨ad, cap, e1, hlc, hcm, hx⟩ := (show ShR w G.fz (.sl e) l [u] from hu)
      obtain rfl : u = .slice ad l.length cap := by simpa using e1
      rcases hvl with rfl | ⟨k2, rfl⟩
      · refine ⟨.slice ad 0 0, ?_, ad, rfl⟩
        simp [Instr.sliceAt, run_underlying hut, Instr.slice, Instr.sliceBounds, Instr.sliceBound, asIntOf, run_sz hinf]
      · refine ⟨.slice ad 0 0, ?_, ad, rfl⟩
        simp [Instr.sliceAt, run_underlying hut, Instr.slice, Instr.sliceBounds, Instr.sliceBound, asIntOf, run_sz hinf]
    split at h
    · rename_i el e l k' hh hut
      split at h
      · rename_i hz
        obtain ⟨rfl, rfl, hi⟩ := hz
        simp only [Option.some.injEq, Prod.mk.injEq] at h
        obtain ⟨rfl, rfl⟩ := h
        obtain rfl : vlo = none := by cases vlo with | none => rfl | some v => exact h1.elim
        obtain ⟨vh, rfl⟩ : ∃ vm, vhi = some vm := by cases vhi with | none => exact h2.elim | some v => exact ⟨v, rfl⟩
        exact fin el e l none hut rfl hi hu (.inl rfl) ⟨_, by rw [val_int (show ValR w G (.int k' 0) vh from h2)]⟩
      · cases h
    · rename_i el e l k1 ll k' hh hut
      split at h
      · rename_i hz
        obtain ⟨rfl, rfl, rfl, hi⟩ := hz
        simp only [Option.some.injEq, Prod.mk.injEq] at h
        obtain ⟨rfl, rfl⟩ := h
        obtain ⟨vl, rfl⟩ : ∃ vm, vlo = some vm := by cases vlo with | none => exact h1.elim | some v => exact ⟨v, rfl⟩
        obtain ⟨vh, rfl⟩ : ∃ vm, vhi = some vm := by cases vhi with | none => exact h2.elim | some v => exact ⟨v, rfl⟩
        exact fin el e l (some vl) hut rfl hi hu (.inr ⟨_, by rw [val_int (show ValR w G (.int k1 0) vl from h1)]⟩) ⟨_, by rw [val_int (show ValR w G (.int k' 0) vh from h2)]⟩
      · cases h
    · cases h
  · cases h

/-! closures -/
def capsAV (ts : List AV) : List Operand → Option AV
  | [] => some .nil
  | x :: l =>
    match ev ts x, capsAV ts l with
    | some a, some b => if a.flat then some (.cons a b) else none
    | _, _ => none
theorem caps_ok {w : World} {G : Gh} {ts : List AV} {a : Act} (ht : TmpsR w G ts a) : ∀ (l : List Operand) (c : AV), capsAV ts l = some c → CellsR w G c (l.map a.eval)
  | [], c, h => by simp only [capsAV, Option.some.injEq] at h; subst h; rfl
  | x :: l, c, h => by
    simp only [capsAV] at h
    split at h
    · rename_i u v hu hv
      split at h
      · rename_i hf
        simp only [Option.some.injEq] at h; subst h
        exact ⟨[a.eval x], l.map a.eval, rfl, (ValR0.flat hf).1 ((ev_ok ht hu).to0 (flat_tup hf)), caps_ok ht l v hv⟩
      · cases h
    · cases h
theorem caps_refs {ts : List AV} : ∀ (l : List Operand) (c : AV), capsAV ts l = some c → ∀ r ∈ c.refs, ∃ t, r ∈ (ts.getD t .unk).refs
  | [], c, h, r, hr => by simp only [capsAV, Option.some.injEq] at h; subst h; cases hr
  | x :: l, c, h, r, hr => by
    simp only [capsAV] at h
    split at h
    · rename_i u v hu hv
      split at h
      · simp only [Option.some.injEq] at h; subst h
        rcases List.mem_append.1 hr with hr | hr
        · exact ev_refs hu hr
        · exact caps_refs l v hv r hr
      · cases h
    · cases h

/-! literals -/
theorem fold_set : ∀ (vs : List Value) (j off : Nat) (cells : Array Value) (c1 c2 c3 : List Value), cells.toList = c1 ++ c2 ++ c3 → c1.length = off + j → c2.length = vs.length →
    ((vs.zipIdx j).foldl (fun cs (x : Value × Nat) => cs.setIfInBounds (off + x.2) x.1) cells).toList = c1 ++ vs ++ c3
  | [], j, off, cells, c1, c2, c3, h, _, h2 => by
    obtain rfl : c2 = [] := List.length_eq_zero_iff.1 h2
    simpa using h
  | v :: vs, j, off, cells, c1, c2, c3, h, h1, h2 => by
    match c2, h2 with
    | x :: c2, h2 =>
      rw [List.zipIdx_cons, List.foldl_cons]
      have := fold_set vs (j + 1) off (cells.setIfInBounds (off + j) v) (c1 ++ [v]) c2 c3 (by
        rw [Array.toList_setIfInBounds, h, ← h1]
        simp) (by simp; omega) (by simpa using h2)
      simpa using this
theorem fill_step {w : World} {G : Gh} {p : List Step} {x acc acc' : AV} {C : Prop} {cells : Array Value} {v : Value} (hs : AV.set p x acc = some (acc', C)) (hC : C) (ha : CellsR w G acc cells.toList) (hx : CellsR w G x v.cells.toList) :
    v.cells.size = x.size ∧ offs p + v.cells.size ≤ cells.size ∧ CellsR w G acc' (v.cells.zipIdx.foldl (fun cs (y : Value × Nat) => cs.setIfInBounds (offs p + y.2) y.1) cells).toList := by
  obtain ⟨c1, c2, c3, e, hl, hz, h⟩ := AV.set_ok p x acc acc' C cells.toList hs hC ha
  have hv := CellsR.length x _ hx
  have hsz : v.cells.size = x.size := by simpa using hv
  refine ⟨hsz, ?_, ?_⟩
  · have := congrArg List.length e
    simp only [Array.length_toList, List.length_append] at this
    omega
  · have e2 := fold_set v.cells.toList 0 (offs p) cells c1 c2 c3 e (by omega) (by rw [hz]; simpa using hsz.symm)
    have e3 : (v.cells.zipIdx.foldl (fun cs (y : Value × Nat) => cs.setIfInBounds (offs p + y.2) y.1) cells) = ((v.cells.toList.zipIdx 0).foldl (fun cs (x : Value × Nat) => cs.setIfInBounds (offs p + x.2) x.1) cells) := by
      rw [← Array.foldl_toList, Array.toList_zipIdx]
    rw [e3, e2]
    exact h _ hx
/-- a part's place -/
def partAtP (P : Program) (t : TypeId) (i : Nat) : Option (Step × Nat) :=
  match P.underlying t with
  | some (.struct fs) =>
    match fs[i]? with
    | some f =>
      match P.info? f.type with
      | some inf => some (.fld i f.offset, inf.size)
      | none => none
    | none => none
  | some (.array _ e) =>
    match P.info? e with
    | some inf => some (.idx i inf.size, inf.size)
    | none => none
  | _ => none
def setParts (place : Nat → Option (Step × Nat)) (ts : List AV) : List (Nat × Operand) → AV → Option (AV × Prop)
  | [], acc => some (acc, True)
  | (i, x) :: l, acc =>
    match place i, ev ts x with
    | some (s, n), some v =>
      if (v.flat || v.agg) ∧ v.size = n then
        match AV.set [s] v acc with
        | some (acc', C) =>
          match setParts place ts l acc' with
          | some (r, D) => some (r, C ∧ D)
          | none => none
        | none => none
      else none
    | _, _ => none
theorem setParts_ok {w : World} {G : Gh} {ts : List AV} {a : Act} (ht : TmpsR w G ts a) (place : Nat → Option (Step × Nat)) (pl : Nat → Option (Nat × Nat)) (hp : ∀ i s n, place i = some (s, n) → pl i = some (offs [s], n)) :
    ∀ (l : List (Nat × Operand)) (acc r : AV) (C : Prop) (cells : Array Value), setParts place ts l acc = some (r, C) → C → CellsR w G acc cells.toList →
      ∃ cells', Instr.fill pl cells (l.map fun (i, x) => (i, a.eval x)) = some cells' ∧ CellsR w G r cells'.toList
  | [], acc, r, C, cells, h, _, hc => by
    simp only [setParts, Option.some.injEq, Prod.mk.injEq] at h
    obtain ⟨rfl, _⟩ := h
    exact ⟨cells, rfl, hc⟩
  | (i, x) :: l, acc, r, C, cells, h, hC, hc => by
    simp only [setParts] at h
    split at h
    · rename_i s n v hpl hv
      split at h
      · rename_i hf
        obtain ⟨hf, rfl⟩ := hf
        split at h
        · rename_i acc' D hset
          split at h
          · rename_i r' E hrest
            simp only [Option.some.injEq, Prod.mk.injEq] at h
            obtain ⟨rfl, rfl⟩ := h
            obtain ⟨hD, hE⟩ := hC
            have hx : CellsR w G v (a.eval x).cells.toList := ValR0.cells ((ev_ok ht hv).to0 (flagg_tup hf)) hf
            obtain ⟨h1, h2, h3⟩ := fill_step hset hD hc hx
            obtain ⟨cells', h4, h5⟩ := setParts_ok ht place pl hp l acc' r' E _ hrest hE h3
            refine ⟨cells', ?_, h5⟩
            simp only [List.map_cons, Instr.fill, hp i s _ hpl]
            rw [if_neg (by simp only [Bool.or_eq_true, decide_eq_true_eq, not_or]; exact ⟨fun h => h h1, by omega⟩)]
            exact h4
          · cases h
        · cases h
      · cases h
    · cases h
theorem setParts_refs {place : Nat → Option (Step × Nat)} {ts : List AV} : True := trivial
end Go.Proofs.YtgjklpadcmedkaaDoor
