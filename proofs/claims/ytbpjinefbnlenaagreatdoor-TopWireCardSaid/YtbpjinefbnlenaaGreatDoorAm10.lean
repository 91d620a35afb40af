import Derived.Test.YtbpjinefbnlenaaGreatDoorAm6
import Derived.Laws.MakeOwn
/- A machine of values, part 7: slices of texts and of views, closures, struct and slice literals. -/
namespace Go.Proofs.YtbpjinefbnlenaaGreatDoor
open Go Go.RowKit
set_option linter.unusedVariables false

/-! 's[lo:hi]' -/
def subL {α : Type} (s : List α) : Option Int → Option Int → List α
  | none, none => s
  | some lo, none => s.drop lo.toNat
  | none, some hi => s.take hi.toNat
  | some lo, some hi => (s.take hi.toNat).drop lo.toNat
def subC (n : Nat) : Option Int → Option Int → Prop
  | none, none => True
  | some lo, none => 0 ≤ lo ∧ lo ≤ n
  | none, some hi => 0 ≤ hi ∧ hi ≤ n
  | some lo, some hi => (0 ≤ hi ∧ hi ≤ n) ∧ (0 ≤ lo ∧ lo ≤ hi)
def loN : Option Int → Nat
  | none => 0
  | some i => i.toNat
def hiN (n : Nat) : Option Int → Nat
  | none => n
  | some i => i.toNat
theorem subL_eq {α : Type} (s : List α) (lo hi : Option Int) : subL s lo hi = (s.take (hiN s.length hi)).drop (loN lo) := by
  cases lo <;> cases hi <;> simp [subL, hiN, loN]
theorem subC_le {n : Nat} {lo hi : Option Int} (h : subC n lo hi) : loN lo ≤ hiN n hi ∧ hiN n hi ≤ n := by
  cases lo <;> cases hi <;> simp only [subC, loN, hiN] at h ⊢ <;> omega
/-- numbers as optional bounds -/
def OI (v : Option Value) (i : Option Int) : Prop :=
  match v, i with
  | none, none => True
  | some v, some i => ∃ k, v = .int k i
  | _, _ => False
theorem run_bounds {P : Program} {w : World} {b : Bool} {n cap : Nat} {lo hi : Option Value} {l h : Option Int} (hl : OI lo l) (hh : OI hi h) (hC : subC n l h) (hnc : n ≤ cap) :
    (Instr.sliceBounds b n cap lo hi none).run P w = .ok (loN l, hiN n h, cap) w := by
  have one : ∀ (k : IntKind) (i : Int) (y : Nat) (c : BoundsCode), 0 ≤ i → i ≤ y → (Instr.sliceBound (.int k i) y c).run P w = .ok i.toNat w := by
    intro k i y c h0 h1
    simp only [Instr.sliceBound, asIntOf, Sem.run_bind, Sem.run_pure, Result.andThen_ok]
    rw [if_pos ⟨h0, h1⟩]
    rfl
  cases lo with
  | none =>
    cases l with
    | some l => exact hl.elim
    | none =>
      cases hi with
      | none =>
        cases h with
        | some h => exact hh.elim
        | none => simp [Instr.sliceBounds, Sem.run_pure, loN, hiN]
      | some hv =>
        cases h with
        | none => exact hh.elim
        | some h =>
          obtain ⟨k, rfl⟩ := hh
          obtain ⟨h0, h1⟩ := hC
          simp [Instr.sliceBounds, loN, hiN, one k h cap _ h0 (by omega)]
  | some lv =>
    cases l with
    | none => exact hl.elim
    | some l =>
      obtain ⟨k, rfl⟩ := hl
      cases hi with
      | none =>
        cases h with
        | some h => exact hh.elim
        | none =>
          obtain ⟨h0, h1⟩ := hC
          simp [Instr.sliceBounds, loN, hiN, one k l n _ h0 h1]
      | some hv =>
        cases h with
        | none => exact hh.elim
        | some h =>
          obtain ⟨k', rfl⟩ := hh
          obtain ⟨⟨h0, h1⟩, h2, h3⟩ := hC
          simp [Instr.sliceBounds, loN, hiN, one k' h cap _ h0 (by omega), one k l h.toNat _ h2 (by omega)]
def oiAV : Option AV → Option (Option Int)
  | none => some none
  | some (.int _ i) => some (some i)
  | _ => none
theorem CatR.sub {α : Type} {R : α → List Value → Prop} {k : Nat} (hR : ∀ x c, R x c → c.length = k) {xs : List α} {cells : List Value} (h : CatR R xs cells) {lo hi : Nat} (h1 : lo ≤ hi) (h2 : hi ≤ xs.length) :
    ∃ c1 c2 c3, cells = c1 ++ c2 ++ c3 ∧ c1.length = lo * k ∧ CatR R ((xs.take hi).drop lo) c2 := by
  rw [← List.take_append_drop hi xs] at h
  obtain ⟨a, c3, rfl, ha, h3⟩ := CatR.split h
  rw [← List.take_append_drop lo (xs.take hi)] at ha
  obtain ⟨c1, c2, rfl, h4, h5⟩ := CatR.split ha
  refine ⟨c1, c2, c3, rfl, ?_, h5⟩
  rw [CatR.length hR _ _ h4, List.length_take, List.length_take]
  congr 1
  omega
def evSlice (P : Program) (t : TypeId) (x : AV) (lo hi mx : Option AV) : Option (AV × Prop) :=
  match mx with
  | none =>
    match oiAV lo, oiAV hi with
    | some lo, some hi =>
      match P.underlying t, x with
      | some .string, .str s => some (.str (subL s lo hi), subC s.length lo hi)
      | some (.slice el), .sl e l =>
        match P.info? el with
        | some inf => if inf.size = e.size then some (.sl e (subL l lo hi), subC l.length lo hi) else none
        | none => none
      | some (.slice el), .nilS =>
        match P.info? el with
        | some _ => some (.nilS, subC 0 lo hi)
        | none => none
      | some (.array n el), .pv (.arr m e l) =>
        match P.info? el with
        | some inf => if inf.size = e.size ∧ m = n ∧ n ≤ maxLen then some (.sl e (subL l lo hi), subC l.length lo hi) else none
        | none => none
      | _, _ => none
    | _, _ => none
  | some (.int _ m) =>
    match P.underlying t, x, lo, hi with
    | some (.slice el), .sl _ _, none, some (.int _ h) => if m = 0 ∧ h = 0 ∧ (P.info? el).isSome then some (.emp, True) else none
    | some (.slice el), .sl _ _, some (.int _ l), some (.int _ h) => if m = 0 ∧ h = 0 ∧ l = 0 ∧ (P.info? el).isSome then some (.emp, True) else none
    | _, _, _, _ => none
  | _ => none
/-- optional values -/
def OV (w : World) (G : Gh) : Option AV → Option Value → Prop
  | none, none => True
  | some a, some v => ValR w G a v
  | _, _ => False
theorem oi_ok {w : World} {G : Gh} {a : Option AV} {v : Option Value} {i : Option Int} (h : oiAV a = some i) (hr : OV w G a v) : OI v i := by
  unfold oiAV at h
  split at h <;> try simp only [Option.some.injEq] at h
  · subst h; cases v with | none => trivial | some v => exact hr.elim
  · subst h
    cases v with
    | none => exact hr.elim
    | some v => exact ⟨_, val_int (show ValR w G (.int _ _) v from hr)⟩
  · cases h
theorem str_extract (s : List UInt8) (a b : Nat) (h : b ≤ s.length) : (⟨s.toArray⟩ : ByteArray).extract a b = ⟨((s.take b).drop a).toArray⟩ := by
  apply ByteArray.ext
  rw [ByteArray.data_extract]
  apply Array.ext'
  simp [List.drop_take]
theorem evSlice_ok {P : Program} {w : World} {G : Gh} {t : TypeId} {x c : AV} {lo hi mx : Option AV} {u : Value} {vlo vhi vmx : Option Value} {C : Prop} (h : evSlice P t x lo hi mx = some (c, C)) (hC : C) (hu : ValR w G x u)
    (h1 : OV w G lo vlo) (h2 : OV w G hi vhi) (h3 : OV w G mx vmx) :
    ∃ r, (Instr.sliceAt t u vlo vhi vmx).run P w = .ok r w ∧ ValR w G c r := by
  unfold evSlice at h
  split at h
  · obtain rfl : vmx = none := by cases vmx with | none => rfl | some v => exact h3.elim
    split at h
    · rename_i lo' hi' hlo hhi
      have ol := oi_ok hlo h1
      have oh := oi_ok hhi h2
      split at h
      · rename_i s hut
        simp only [Option.some.injEq, Prod.mk.injEq] at h
        obtain ⟨rfl, rfl⟩ := h
        rw [val_str hu]
        obtain ⟨g1, g2⟩ := subC_le hC
        refine ⟨_, ?_, rfl⟩
        simp only [Instr.sliceAt, Sem.run_bind, run_underlying hut, Result.andThen_ok, Instr.slice]
        rw [str_size]
        simp only [Option.isSome_none, Bool.false_eq_true, if_false, Sem.run_bind, Sem.run_pure, Result.andThen_ok, run_bounds ol oh hC (Nat.le_refl _)]
        rw [str_extract _ _ _ g2, ← subL_eq]
      · rename_i el e l hut
        split at h
        · rename_i inf hinf
          split at h
          · rename_i hz
            simp only [Option.some.injEq, Prod.mk.injEq] at h
            obtain ⟨rfl, rfl⟩ := h
            obtain ⟨ad, cap, e1, hlc, hcm, hx⟩ := (show ShR w G.fz (.sl e) l [u] from hu)
            obtain rfl : u = .slice ad l.length cap := by simpa using e1
            obtain ⟨g1, g2⟩ := subC_le hC
            refine ⟨.slice (if cap = loN lo' then ad else ad.map (·.add (loN lo' * inf.size))) (hiN l.length hi' - loN lo') (cap - loN lo'), ?_, ?_⟩
            · simp only [Instr.sliceAt, Sem.run_bind, run_underlying hut, Result.andThen_ok, Instr.slice, run_bounds ol oh hC hlc, run_sz hinf, Sem.run_pure]
            · rw [subL_eq]
              show ShR w G.fz (.sl e) _ _
              have hll : ((l.take (hiN l.length hi')).drop (loN lo')).length = hiN l.length hi' - loN lo' := by simp; omega
              refine ⟨_, cap - loN lo', by rw [hll], by rw [hll]; omega, by omega, fun h0 => ?_⟩
              rw [hll] at h0
              obtain ⟨b, off, cells, rfl, hf, hb, hcat, hcell⟩ := hx (by omega)
              obtain ⟨c1, c2, c3, rfl, hl1, hc2⟩ := CatR.sub (fun y c hy => ShR.length e y c hy) hcat g1 g2
              refine ⟨b, off + loN lo' * e.size, c2, ?_, hf, hb, hc2, ?_⟩
              · rw [if_neg (by omega)]
                simp only [Option.map_some, addr_add', hz]
              · rw [← hl1]
                exact (At.sub (w := w) (b := b) (off := off) (c1 := c1) (c2 := c2) (c3 := c3) ⟨rfl, hcell⟩).2
          · cases h
        · cases h
      · rename_i el hut
        split at h
        · rename_i inf hinf
          simp only [Option.some.injEq, Prod.mk.injEq] at h
          obtain ⟨rfl, rfl⟩ := h
          have e1 : [u] = [Value.slice none 0 0] := hu
          obtain rfl : u = .slice none 0 0 := by simpa using e1
          obtain ⟨g1, g2⟩ := subC_le hC
          have z1 : hiN 0 hi' = 0 := by omega
          have z2 : loN lo' = 0 := by omega
          refine ⟨.slice none 0 0, ?_, rfl⟩
          simp only [Instr.sliceAt, Sem.run_bind, run_underlying hut, Result.andThen_ok, Instr.slice, run_bounds ol oh hC (Nat.le_refl 0), run_sz hinf, Sem.run_pure, z1, z2]
          rfl
        · cases h
      · rename_i n el m e l hut
        split at h
        · rename_i inf hinf
          split at h
          · rename_i hz
            obtain ⟨hz, rfl, hmax⟩ := hz
            simp only [Option.some.injEq, Prod.mk.injEq] at h
            obtain ⟨rfl, rfl⟩ := h
            obtain ⟨b, off, e1, hf, hb, cells, ⟨hlen, hcat⟩, hcell⟩ := (show CellsR w G (.pv (.arr m e l)) [u] from hu)
            obtain rfl : u = .pointer (some ⟨b, off, none⟩) := by simpa using e1
            obtain ⟨g1, g2⟩ := subC_le hC
            have hrb := run_bounds (P := P) (w := w) (b := false) (n := l.length) (cap := l.length) ol oh hC (Nat.le_refl _)
            rw [hlen] at hrb
            rw [hlen] at g1 g2
            refine ⟨.slice (some (if m = loN lo' then ⟨b, off, none⟩ else (⟨b, off, none⟩ : Addr).add (loN lo' * inf.size))) (hiN m hi' - loN lo') (m - loN lo'), ?_, ?_⟩
            · simp only [Instr.sliceAt, Sem.run_bind, run_underlying hut, Result.andThen_ok, Instr.sureAddr, hrb, run_sz hinf, Sem.run_pure]
            · rw [subL_eq, hlen]
              show ShR w G.fz (.sl e) _ _
              have hll : ((l.take (hiN m hi')).drop (loN lo')).length = hiN m hi' - loN lo' := by simp; omega
              refine ⟨_, m - loN lo', by rw [hll], by rw [hll]; omega, by omega, fun h0 => ?_⟩
              rw [hll] at h0
              obtain ⟨c1, c2, c3, rfl, hl1, hc2⟩ := CatR.sub (fun y c hy => ShR.length e y c hy) hcat g1 (by omega)
              refine ⟨b, off + loN lo' * e.size, c2, ?_, hf, hb, hc2, ?_⟩
              · rw [if_neg (by omega)]
                simp only [addr_add', hz]
              · rw [← hl1]
                exact (At.sub (w := w) (b := b) (off := off) (c1 := c1) (c2 := c2) (c3 := c3) ⟨rfl, hcell⟩).2
          · cases h
        · cases h
      · cases h
    · cases h
  · rename_i k m
    obtain ⟨vm, rfl⟩ : ∃ vm, vmx = some vm := by cases vmx with | none => exact h3.elim | some v => exact ⟨v, rfl⟩
    rw [val_int (show ValR w G (.int k m) vm from h3)]
    have fin : ∀ (el : TypeId) (e : Sh) (l : List e.T) (vlo : Option Value), P.underlying t = some (.slice el) → m = 0 → (P.info? el).isSome = true → ValR w G (.sl e l) u → (vlo = none ∨ ∃ k, vlo = some (.int k 0)) → (∃ k', vhi = some (.int k' 0)) →
        ∃ r, (Instr.sliceAt t u vlo vhi (some (.int k m))).run P w = .ok r w ∧ ValR w G .emp r := by
      intro el e l vlo hut hm hi hu hvl ⟨k', hvh⟩
      subst hm; subst hvh
      obtain ⟨inf, hinf⟩ := Option.isSome_iff_exists.1 hi
      obtain ⟨ad, cap, e1, hlc, hcm, hx⟩ := (show ShR w G.fz (.sl e) l [u] from hu)
      obtain rfl : u = .slice ad l.length cap := by simpa using e1
      rcases hvl with rfl | ⟨k2, rfl⟩
      · refine ⟨.slice ad 0 0, ?_, ad, rfl⟩
        simp [Instr.sliceAt, run_underlying hut, Instr.slice, Instr.sliceBounds, Instr.sliceBound, asIntOf, run_sz hinf]
      · refine ⟨.slice ad 0 0, ?_, ad, rfl⟩
        simp [Instr.sliceAt, run_underlying hut, Instr.slice, Instr.sliceBounds, Instr.sliceBound, asIntOf, run_sz hinf]
    split at h
    · rename_i el e l k' hh hut
      split at h
      · rename_i hz
        obtain ⟨rfl, rfl, hi⟩ := hz
        simp only [Option.some.injEq, Prod.mk.injEq] at h
        obtain ⟨rfl, rfl⟩ := h
        obtain rfl : vlo = none := by cases vlo with | none => rfl | some v => exact h1.elim
        obtain ⟨vh, rfl⟩ : ∃ vm, vhi = some vm := by cases vhi with | none => exact h2.elim | some v => exact ⟨v, rfl⟩
        exact fin el e l none hut rfl hi hu (.inl rfl) ⟨_, by rw [val_int (show ValR w G (.int k' 0) vh from h2)]⟩
      · cases h
    · rename_i el e l k1 ll k' hh hut
      split at h
      · rename_i hz
        obtain ⟨rfl, rfl, rfl, hi⟩ := hz
        simp only [Option.some.injEq, Prod.mk.injEq] at h
        obtain ⟨rfl, rfl⟩ := h
        obtain ⟨vl, rfl⟩ : ∃ vm, vlo = some vm := by cases vlo with | none => exact h1.elim | some v => exact ⟨v, rfl⟩
        obtain ⟨vh, rfl⟩ : ∃ vm, vhi = some vm := by cases vhi with | none => exact h2.elim | some v => exact ⟨v, rfl⟩
        exact fin el e l (some vl) hut rfl hi hu (.inr ⟨_, by rw [val_int (show ValR w G (.int k1 0) vl from h1)]⟩) ⟨_, by rw [val_int (show ValR w G (.int k' 0) vh from h2)]⟩
      · cases h
    · cases h
  · cases h

/-! closures -/
def capsAV (ts : List AV) : List Operand → Option AV
  | [] => some .nil
  | x :: l =>
    match ev ts x, capsAV ts l with
    | some a, some b => if a.flat then some (.cons a b) else none
    | _, _ => none
theorem caps_ok {w : World} {G : Gh} {ts : List AV} {a : Act} (ht : TmpsR w G ts a) : ∀ (l : List Operand) (c : AV), capsAV ts l = some c → CellsR w G c (l.map a.eval)
  | [], c, h => by simp only [capsAV, Option.some.injEq] at h; subst h; rfl
  | x :: l, c, h => by
    simp only [capsAV] at h
    split at h
    · rename_i u v hu hv
      split at h
      · rename_i hf
        simp only [Option.some.injEq] at h; subst h
        exact ⟨[a.eval x], l.map a.eval, rfl, (ValR0.flat hf).1 ((ev_ok ht hu).to0 (flat_tup hf)), caps_ok ht l v hv⟩
      · cases h
    · cases h
/-! literals -/
theorem fold_set : ∀ (vs : List Value) (j off : Nat) (cells : Array Value) (c1 c2 c3 : List Value), cells.toList = c1 ++ c2 ++ c3 → c1.length = off + j → c2.length = vs.length →
    ((vs.zipIdx j).foldl (fun cs (x : Value × Nat) => cs.setIfInBounds (off + x.2) x.1) cells).toList = c1 ++ vs ++ c3
  | [], j, off, cells, c1, c2, c3, h, _, h2 => by
    obtain rfl : c2 = [] := List.length_eq_zero_iff.1 h2
    simpa using h
  | v :: vs, j, off, cells, c1, c2, c3, h, h1, h2 => by
    match c2, h2 with
    | x :: c2, h2 =>
      rw [List.zipIdx_cons, List.foldl_cons]
      have := fold_set vs (j + 1) off (cells.setIfInBounds (off + j) v) (c1 ++ [v]) c2 c3 (by
        rw [Array.toList_setIfInBounds, h, ← h1]
        simp) (by simp; omega) (by simpa using h2)
      simpa using this
theorem fill_step {w : World} {G : Gh} {p : List Step} {x acc acc' : AV} {C : Prop} {cells : Array Value} {v : Value} (hs : AV.set p x acc = some (acc', C)) (hC : C) (ha : CellsR w G acc cells.toList) (hx : CellsR w G x v.cells.toList) :
    v.cells.size = x.size ∧ offs p + v.cells.size ≤ cells.size ∧ CellsR w G acc' (v.cells.zipIdx.foldl (fun cs (y : Value × Nat) => cs.setIfInBounds (offs p + y.2) y.1) cells).toList := by
  obtain ⟨c1, c2, c3, e, hl, hz, h⟩ := AV.set_ok p x acc acc' C cells.toList hs hC ha
  have hv := CellsR.length x _ hx
  have hsz : v.cells.size = x.size := by simpa using hv
  refine ⟨hsz, ?_, ?_⟩
  · have := congrArg List.length e
    simp only [Array.length_toList, List.length_append] at this
    omega
  · have e2 := fold_set v.cells.toList 0 (offs p) cells c1 c2 c3 e (by omega) (by rw [hz]; simpa using hsz.symm)
    have e3 : (v.cells.zipIdx.foldl (fun cs (y : Value × Nat) => cs.setIfInBounds (offs p + y.2) y.1) cells) = ((v.cells.toList.zipIdx 0).foldl (fun cs (x : Value × Nat) => cs.setIfInBounds (offs p + x.2) x.1) cells) := by
      rw [← Array.foldl_toList, Array.toList_zipIdx]
    rw [e3, e2]
    exact h _ hx
/-- a part's place -/
def partAtP (P : Program) (t : TypeId) (i : Nat) : Option (Step × Nat) :=
  match P.underlying t with
  | some (.struct fs) =>
    match fs[i]? with
    | some f =>
      match P.info? f.type with
      | some inf => some (.fld i f.offset, inf.size)
      | none => none
    | none => none
  | some (.array _ e) =>
    match P.info? e with
    | some inf => some (.idx i inf.size, inf.size)
    | none => none
  | _ => none
def setParts (place : Nat → Option (Step × Nat)) (ts : List AV) : List (Nat × Operand) → AV → Option (AV × Prop)
  | [], acc => some (acc, True)
  | (i, x) :: l, acc =>
    match place i, ev ts x with
    | some (s, n), some v =>
      if (v.flat || v.agg) ∧ v.size = n then
        match AV.set [s] v acc with
        | some (acc', C) =>
          match setParts place ts l acc' with
          | some (r, D) => some (r, C ∧ D)
          | none => none
        | none => none
      else none
    | _, _ => none
theorem setParts_ok {w : World} {G : Gh} {ts : List AV} {a : Act} (ht : TmpsR w G ts a) (place : Nat → Option (Step × Nat)) (pl : Nat → Option (Nat × Nat)) (hp : ∀ i s n, place i = some (s, n) → pl i = some (offs [s], n)) :
    ∀ (l : List (Nat × Operand)) (acc r : AV) (C : Prop) (cells : Array Value), setParts place ts l acc = some (r, C) → C → CellsR w G acc cells.toList →
      ∃ cells', Instr.fill pl cells (l.map fun (i, x) => (i, a.eval x)) = some cells' ∧ CellsR w G r cells'.toList
  | [], acc, r, C, cells, h, _, hc => by
    simp only [setParts, Option.some.injEq, Prod.mk.injEq] at h
    obtain ⟨rfl, _⟩ := h
    exact ⟨cells, rfl, hc⟩
  | (i, x) :: l, acc, r, C, cells, h, hC, hc => by
    simp only [setParts] at h
    split at h
    · rename_i s n v hpl hv
      split at h
      · rename_i hf
        obtain ⟨hf, rfl⟩ := hf
        split at h
        · rename_i acc' D hset
          split at h
          · rename_i r' E hrest
            simp only [Option.some.injEq, Prod.mk.injEq] at h
            obtain ⟨rfl, rfl⟩ := h
            obtain ⟨hD, hE⟩ := hC
            have hx : CellsR w G v (a.eval x).cells.toList := ValR0.cells ((ev_ok ht hv).to0 (flagg_tup hf)) hf
            obtain ⟨h1, h2, h3⟩ := fill_step hset hD hc hx
            obtain ⟨cells', h4, h5⟩ := setParts_ok ht place pl hp l acc' r' E _ hrest hE h3
            refine ⟨cells', ?_, h5⟩
            simp only [List.map_cons, Instr.fill, hp i s _ hpl]
            rw [if_neg (by simp only [Bool.or_eq_true, decide_eq_true_eq, not_or]; exact ⟨fun h => h h1, by omega⟩)]
            exact h4
          · cases h
        · cases h
      · cases h
    · cases h
end Go.Proofs.YtbpjinefbnlenaaGreatDoor

/- A machine of values, part 8: literals' operations; calls of functions that write nothing; all pure operations. -/
namespace Go.Proofs.YtbpjinefbnlenaaGreatDoor
open Go Go.RowKit
set_option linter.unusedVariables false

theorem newRow {w : World} {G : Gh} {base len : Nat} {t : TypeId} {e : Sh} {l : List e.T} {cells : Array Value} (hc : CatR (ShR w G.fz e) l cells.toList) (hl : l.length = len) (hm : len ≤ maxLen) (hfz : ∀ b, G.fz b → b < w.heap.size) :
    NewR w (w.alloc (.cells cells t)) G (G.put base ⟨w.heap.size, 0, none⟩ (.slice (some ⟨w.heap.size, 0, none⟩) len len)) base [.row t e l] := by
  have hb : Below w.heap.size w (w.alloc (.cells cells t)) := (Below.refl _ _).alloc (Nat.le_refl _) _
  have hsz : (w.alloc (.cells cells t)).heap.size = w.heap.size + 1 := by simp
  have hl0 : ∀ (j x : Nat), (lk [Blk.row t e l] j).live (G.put base ⟨w.heap.size, 0, none⟩ (.slice (some ⟨w.heap.size, 0, none⟩) len len)) (base + j) = some x → j = 0 ∧ x = w.heap.size := by
    intro j x h
    cases j with
    | zero =>
      simp only [lk, Blk.live, Gh.put, List.getD_cons_zero, Nat.add_zero, if_true] at h
      cases len with
      | zero => simp [rowBlk] at h
      | succ n => simp [rowBlk] at h; exact ⟨rfl, h.symm⟩
    | succ j => simp [lk, Blk.live] at h
  have hlen : cells.toList.length = l.length * e.size := CatR.length (fun y c hy => ShR.length e y c hy) _ _ hc
  refine ⟨hb, fun i hi => Gh.put_agree _ _ _ _ _ (by simp at hi; omega), fun _ h => h, fun _ h => .inl h, fun j => ?_, fun j k x hjk h1 h2 => ?_, fun j x h => ?_⟩
  · cases j with
    | zero =>
      refine ⟨fun g hg => ?_, cells.toList, ?_, CatR.mono (fun y c hy => ShR.keep (fz := G.fz) ⟨hb.size, fun b h hlt => hb.block b hlt, fun _ h => h⟩ e y c hy) _ _ hc⟩
      · simp only [Gh.put, Nat.add_zero, if_true] at hg ⊢
        cases len with
        | zero => simp [rowBlk] at hg
        | succ n => simp [rowBlk] at hg; rw [hg]
      · simp only [Gh.put, Nat.add_zero, if_true]
        rcases Nat.eq_zero_or_pos len with h0 | h0
        · refine .inl ⟨by omega, ?_, _, by rw [h0]⟩
          apply List.length_eq_zero_iff.1
          rw [hlen, hl, h0, Nat.zero_mul]
        · refine .inr ⟨w.heap.size, len, [], by rw [hl], h0, Nat.le_refl _, ?_, by omega, hm, hlen, by rw [List.append_nil, hlen, hl]⟩
          refine ⟨(0, 0), ?_, .inl rfl⟩
          rw [List.append_nil, alloc_new]
    | succ j => simp [lk, BlkR]
  · have := hl0 j x h1; have := hl0 k x h2; omega
  · obtain ⟨_, rfl⟩ := hl0 j x h
    exact ⟨Nat.le_refl _, by omega, fun hf => by have := hfz _ hf; omega⟩

/-! 'build' -/
def placesOf (P : Program) (fs : List Field) : Option (List (Nat × Nat)) := fs.mapM (fun f => (P.info? f.type).map fun i => (f.offset, i.size))
theorem mapM_get {α β : Type} (f : α → Option β) : ∀ (l : List α) (r : List β), l.mapM f = some r → ∀ (i : Nat) (x : α), l[i]? = some x → ∃ y, f x = some y ∧ r[i]? = some y
  | [], r, h, i, x, hi => by simp at hi
  | a :: l, r, h, i, x, hi => by
    rw [List.mapM_cons] at h
    cases ha : f a with
    | none => simp [ha] at h
    | some y =>
      cases hl : l.mapM f with
      | none => simp [ha, hl] at h
      | some r' =>
        simp [ha, hl] at h
        subst h
        cases i with
        | zero => simp at hi; subst hi; exact ⟨y, ha, rfl⟩
        | succ i => exact mapM_get f l r' hl i x (by simpa using hi)
def evBuild (P : Program) (ts : List AV) (t : TypeId) (parts : List (Nat × Operand)) : Option (AV × Prop) :=
  match evAlloc P t with
  | some z =>
    match P.underlying t with
    | some (.struct fs) =>
      match placesOf P fs.toList with
      | some _ =>
        match setParts (partAtP P t) ts parts z with
        | some (r, C) => if r.agg then some (r, C) else none
        | none => none
      | none => none
    | some (.array _ el) =>
      match P.info? el with
      | some _ =>
        match setParts (partAtP P t) ts parts z with
        | some (r, C) => if r.agg then some (r, C) else none
        | none => none
      | none => none
    | _ => none
  | none => none
theorem evBuild_ok {P : Program} {w : World} {G : Gh} {ts : List AV} {a : Act} {t : TypeId} {parts : Array (Nat × Operand)} {r : AV} {C : Prop} (h : evBuild P ts t parts.toList = some (r, C)) (hC : C) (ht : TmpsR w G ts a) :
    ∃ v, (Instr.build t (parts.map fun (i, x) => (i, a.eval x))).run P w = .ok v w ∧ ValR w G r v := by
  have hmap : (parts.map fun (i, x) => (i, a.eval x)).toList = parts.toList.map fun (i, x) => (i, a.eval x) := by simp
  unfold evBuild at h
  split at h
  · rename_i z0 hz0
    unfold evAlloc at hz0
    split at hz0
    · rename_i it hit
      split at hz0
      · rename_i z hz
        split at hz0
        · rename_i hchk
          simp only [Option.some.injEq] at hz0
          subst hz0
          have hcz : CellsR w G (zav P 12 t) z.cells.toList := AV.chk_ok _ _ hchk
          split at h
          · rename_i fs hut
            split at h
            · rename_i places hpl
              split at h
              · rename_i r' D hset
                split at h
                · rename_i hg
                  simp only [Option.some.injEq, Prod.mk.injEq] at h
                  obtain ⟨rfl, rfl⟩ := h
                  obtain ⟨cells, h1, h2⟩ := setParts_ok ht (partAtP P t) (places.toArray[·]?) (fun i s n hp => by
                    unfold partAtP at hp
                    rw [hut] at hp
                    simp only at hp
                    split at hp
                    · rename_i f hf
                      split at hp
                      · rename_i inf hinf
                        simp only [Option.some.injEq, Prod.mk.injEq] at hp
                        obtain ⟨rfl, rfl⟩ := hp
                        obtain ⟨y, hy, hy2⟩ := mapM_get _ _ _ hpl i f (by simpa using hf)
                        rw [hinf] at hy
                        simp only [Option.map_some, Option.some.injEq] at hy
                        subst hy
                        simpa [offs] using hy2
                      · cases hp
                    · cases hp) _ _ _ _ _ hset hC hcz
                  refine ⟨.agg cells, run_build (P := P) w t _ cells ?_, ?_⟩
                  · unfold Program.built
                    rw [hit, hut]
                    simp only [hz]
                    unfold placesOf at hpl
                    rw [hpl, hmap]
                    exact h1
                  · have := ValR_agg hg h2
                    simpa using this
                · cases h
              · cases h
            · cases h
          · rename_i n el hut
            split at h
            · rename_i ie hie
              split at h
              · rename_i r' D hset
                split at h
                · rename_i hg
                  simp only [Option.some.injEq, Prod.mk.injEq] at h
                  obtain ⟨rfl, rfl⟩ := h
                  obtain ⟨cells, h1, h2⟩ := setParts_ok ht (partAtP P t) (fun i => some (i * ie.size, ie.size)) (fun i s n hp => by
                    unfold partAtP at hp
                    rw [hut] at hp
                    simp only at hp
                    rw [hie] at hp
                    simp only [Option.some.injEq, Prod.mk.injEq] at hp
                    obtain ⟨rfl, rfl⟩ := hp
                    simp [offs]) _ _ _ _ _ hset hC hcz
                  refine ⟨.agg cells, run_build (P := P) w t _ cells ?_, ?_⟩
                  · unfold Program.built
                    rw [hit, hut]
                    simp only [hz, hie]
                    rw [hmap]
                    exact h1
                  · have := ValR_agg hg h2
                    simpa using this
                · cases h
              · cases h
            · cases h
          · cases h
        · cases hz0
      · cases hz0
    · cases hz0
  · cases h
end Go.Proofs.YtbpjinefbnlenaaGreatDoor

/- A machine of values, part 9: slice literals; calls of functions that write nothing; all pure operations. -/
namespace Go.Proofs.YtbpjinefbnlenaaGreatDoor
open Go Go.RowKit
set_option linter.unusedVariables false

/-! 'buildSlice' -/
def zeroRow (z : Array Value) (n : Nat) : Array Value := (Array.range n).map (fun i => z[i % z.size]!)
def litOk (inf : TypeInfo) (e : Sh) (len : Nat) (z : Value) : Bool :=
  decide (inf.size = e.size) && (decide (len * inf.size ≤ 16777216) && (decide (len ≤ 16777216) && (AV.arr len e (List.replicate len e.dflt)).chk (zeroRow (if len * inf.size = 0 then #[] else z.cells) (len * inf.size)).toList))
def evBuildSlice (P : Program) (ts : List AV) (t : TypeId) (len : Nat) (parts : List (Nat × Operand)) : Option (Blk × Prop) :=
  match P.underlying t with
  | some (.slice el) =>
    match P.info? el, shOf P 12 el with
    | some inf, some e =>
      match inf.zero with
      | some z =>
        if litOk inf e len z = true then
          match setParts (fun i => some (.idx i inf.size, inf.size)) ts parts (.arr len e (List.replicate len e.dflt)) with
          | some (.arr m e' l, C) => if m = len then some (.row el e' l, C) else none
          | _ => none
        else none
      | none => none
    | _, _ => none
  | _ => none
theorem evBuildSlice_ok {P : Program} {o : Oper} {ts : List AV} {mem : List Blk} {base : Nat} {t : TypeId} {len : Nat} {parts : Array (Nat × Operand)} {b : Blk} {C : Prop} (ho : o.op = .buildSlice t len parts) (h : evBuildSlice P ts t len parts.toList = some (b, C)) :
    PureOp P o ts mem base (.row base) [b] C := by
  intro B w G a hC hm ht hrt hrm next Q hn
  have hmap : (parts.map fun (i, x) => (i, a.eval x)).toList = parts.toList.map fun (i, x) => (i, a.eval x) := by simp
  unfold evBuildSlice at h
  split at h
  · rename_i el hut
    split at h
    · rename_i inf e hinf hsh
      split at h
      · rename_i z hz
        split at h
        · rename_i hcond
          unfold litOk at hcond
          simp only [Bool.and_eq_true, decide_eq_true_eq] at hcond
          obtain ⟨hsz, h24, hlen24, hchk⟩ := hcond
          split at h
          · rename_i m e' l D hset
            split at h
            · rename_i hml
              subst hml
              simp only [Option.some.injEq, Prod.mk.injEq] at h
              obtain ⟨rfl, rfl⟩ := h
              obtain ⟨cells, h1, h2⟩ := setParts_ok (w := w) (G := G) ht (fun i => some (.idx i inf.size, inf.size)) (fun i => some (i * inf.size, inf.size)) (fun i s n hp => by
                simp only [Option.some.injEq, Prod.mk.injEq] at hp
                obtain ⟨rfl, rfl⟩ := hp
                simp [offs]) _ _ _ _ _ hset hC (AV.chk_ok _ _ hchk)
              obtain ⟨hlen, hcat⟩ := h2
              have hrun : (execOp a.eval o).run P w = .ok (.value (.slice (some ⟨w.heap.size, 0, none⟩) m m)) (w.alloc (.cells cells el)) := by
                have hfill : Instr.fill (fun i => some (i * inf.size, inf.size)) ((Array.range (m * inf.size)).map (fun i => (if m * inf.size = 0 then #[] else z.cells)[i % (if m * inf.size = 0 then #[] else z.cells).size]!)) (parts.map fun (i, x) => (i, a.eval x)).toList = some cells := by
                  rw [hmap]; exact h1
                simp only [execOp, ho, Instr.buildSlice, Sem.run_bind, run_underlying hut, Result.andThen_ok, run_sz hinf]
                rw [if_neg (show ¬ m * inf.size > 2 ^ 24 by have : (2 : Nat) ^ 24 = 16777216 := by decide
                                                            omega)]
                by_cases h0 : m * inf.size = 0
                · rw [if_pos h0] at hfill
                  simp only [h0, if_true, Sem.run_bind, Sem.run_pure, Result.andThen_ok] at hfill ⊢
                  rw [hfill]
                  simp only [newObj, Go.newRow, Sem.run_bind, Sem.run, Result.andThen]
                  rfl
                · rw [if_neg h0] at hfill
                  simp only [h0, if_false, Sem.run_bind, run_zero hinf hz, Sem.run_pure, Result.andThen_ok] at hfill ⊢
                  rw [hfill]
                  simp only [newObj, Go.newRow, Sem.run_bind, Sem.run, Result.andThen]
                  rfl
              unfold Oper.wp
              rw [hrun]
              have hmx : m ≤ maxLen := by unfold maxLen; omega
              refine hn _ _ _ (newRow hcat hlen hmx hm.fz) ?_
              show [Value.slice _ _ _] = [_] ∧ _
              simp [Gh.put, Value.oneCell']
            · cases h
          · cases h
        · cases h
      · cases h
    · cases h
  · cases h
/-! 'make' of a slice as long as it is wide -/
theorem made_get (z : Array Value) (N i : Nat) : (madeCells z N).toList[i]? = if i < N then some (z[i % z.size]!) else none := by
  unfold madeCells
  rw [Array.getElem?_toList, Array.getElem?_map]
  by_cases h : i < N
  · simp [h]
  · simp [h]
theorem made_cat {w : World} {fz : Nat → Prop} {e : Sh} {z : Array Value} (hz : ShR w fz e e.dflt z.toList) (h0 : 0 < e.size) : ∀ n : Nat, CatR (ShR w fz e) (List.replicate n e.dflt) (madeCells z (n * e.size)).toList
  | 0 => by
    show (madeCells z (0 * e.size)).toList = []
    apply List.length_eq_zero_iff.1
    rw [Array.length_toList, size_madeCells]; omega
  | n + 1 => by
    have hl := ShR.length e _ _ hz
    rw [Array.length_toList] at hl
    refine ⟨z.toList, (madeCells z (n * e.size)).toList, ?_, hz, made_cat hz h0 n⟩
    apply List.ext_getElem?
    intro i
    rw [made_get]
    rcases Nat.lt_or_ge i e.size with h | h
    · rw [List.getElem?_append_left (by rw [Array.length_toList]; omega), Nat.mod_eq_of_lt (by omega), if_pos (by rw [Nat.succ_mul]; omega), Array.getElem?_toList]
      simp [hl, h]
    · rw [List.getElem?_append_right (by rw [Array.length_toList]; omega), made_get, Array.length_toList, hl]
      have e1 : i % e.size = (i - e.size) % e.size := by rw [Nat.mod_eq_sub_mod h]
      have e2 : (i < (n + 1) * e.size) = (i - e.size < n * e.size) := by rw [Nat.succ_mul]; apply propext; omega
      rw [e1]
      simp only [e2]
def evMake (P : Program) (ts : List AV) (t : TypeId) (l c : Operand) : Option (Blk × Prop) :=
  match P.underlying t with
  | some (.slice el) =>
    match P.info? el, shOf P 12 el with
    | some inf, some e =>
      match inf.zero with
      | some z =>
        if (decide (inf.size = e.size) && (decide (0 < e.size) && (decide (inf.bytes ≤ 16384) && (e.av e.dflt).chk z.cells.toList))) = true then
          match ev ts l, ev ts c with
          | some (.int _ n), some (.int _ m) => some (.row el e (List.replicate n.toNat e.dflt), n = m ∧ (0 ≤ n ∧ n ≤ 17179869184))
          | _, _ => none
        else none
      | none => none
    | _, _ => none
  | _ => none
theorem evMake_ok {P : Program} {o : Oper} {ts : List AV} {mem : List Blk} {base : Nat} {t : TypeId} {l c : Operand} {b : Blk} {C : Prop} (ho : o.op = .makeSlice t l c) (h : evMake P ts t l c = some (b, C)) :
    PureOp P o ts mem base (.row base) [b] C := by
  intro B w G a hC hm ht hrt hrm next Q hn
  unfold evMake at h
  split at h
  · rename_i el hut
    split at h
    · rename_i inf e hinf hsh
      split at h
      · rename_i z hz
        split at h
        · rename_i hcond
          simp only [Bool.and_eq_true, decide_eq_true_eq] at hcond
          obtain ⟨hsz, h0, hby, hchk⟩ := hcond
          split at h
          · rename_i k1 n k2 m hl hc
            simp only [Option.some.injEq, Prod.mk.injEq] at h
            obtain ⟨rfl, rfl⟩ := h
            obtain ⟨rfl, hn0, hn1⟩ := hC
            have el1 := val_int (ev_ok ht hl)
            have ec1 := val_int (ev_ok ht hc)
            have hbytes : (inf.bytes : Int) * n ≤ 281474976710656 := by
              have h1 : (inf.bytes : Int) * n ≤ 16384 * n := Int.mul_le_mul_of_nonneg_right (by omega) hn0
              omega
            have hr := run_make (P := P) w t el inf z hut hinf hz k1 k2 n n hn0 (Int.le_refl _) hbytes (by omega)
            have hzc : ShR w G.fz e e.dflt z.cells.toList := (CellsR.av e e.dflt _).1 (AV.chk_ok _ _ hchk)
            have hcat := made_cat hzc h0 n.toNat
            have hmx : n.toNat ≤ maxLen := by unfold maxLen; omega
            unfold Oper.wp
            simp only [execOp, ho, el1, ec1, Sem.run_bind, hr, Result.andThen_ok, Sem.run_pure]
            rw [hsz]
            refine hn _ _ _ (newRow hcat (by simp) hmx hm.fz) ?_
            show [Value.slice _ _ _] = [_] ∧ _
            simp [Gh.put, Value.oneCell']
          · cases h
        · cases h
      · cases h
    · cases h
  · cases h
end Go.Proofs.YtbpjinefbnlenaaGreatDoor

/- A machine of values, part 10: calls of functions that write nothing of their caller's. -/
namespace Go.Proofs.YtbpjinefbnlenaaGreatDoor
open Go Go.RowKit
set_option linter.unusedVariables false

/-- no views inside -/
def Sh.noView : Sh → Bool
  | .pair a b => a.noView && b.noView
  | .st a => a.noView
  | .arr _ a => a.noView
  | .sl _ => false
  | _ => true
def AV.noView : AV → Bool
  | .cons a b => a.noView && b.noView
  | .st a => a.noView
  | .arr _ e _ => e.noView
  | .sl _ _ => false
  | .pv _ => false
  | .ifc _ e _ _ => e.noView
  | .fn _ c => c.noView
  | .tup a => a.noView
  | _ => true
def Blk.noView : Blk → Bool
  | .box _ c => c.noView
  | .row _ e _ => e.noView
  | .dead => true
  | .sav _ _ => false
  | .iter _ _ => true
  | .map _ k e _ => k.noView && e.noView
  | .bbuf _ e _ => e.noView
  | .rowl _ e _ none => e.noView
  | .rowl _ _ _ (some _) => false
theorem ShR.refz {w : World} {fz fz2 : Nat → Prop} : ∀ (s : Sh) (x : s.T) (cs : List Value), (s.noView = true ∨ ∀ b, fz b → fz2 b) → ShR w fz s x cs → ShR w fz2 s x cs
  | .int _, _, _, _, h | .bool, _, _, _, h | .str, _, _, _, h | .unit, _, _, _, h => h
  | .pair a b, x, cs, hv, h => by
    obtain ⟨c1, c2, e, h1, h2⟩ := h
    refine ⟨c1, c2, e, ShR.refz a _ _ ?_ h1, ShR.refz b _ _ ?_ h2⟩
    · exact hv.imp (fun h => by simp only [Sh.noView, Bool.and_eq_true] at h; exact h.1) id
    · exact hv.imp (fun h => by simp only [Sh.noView, Bool.and_eq_true] at h; exact h.2) id
  | .st a, x, cs, hv, h => ShR.refz a x cs hv h
  | .arr n a, x, cs, hv, h => ⟨h.1, CatR.mono (fun y c hy => ShR.refz a y c hv hy) _ _ h.2⟩
  | .sl a, x, cs, hv, h => by
    have hf := hv.resolve_left (by simp [Sh.noView])
    obtain ⟨ad, cap, e, h1, h2, h3⟩ := h
    refine ⟨ad, cap, e, h1, h2, fun h0 => ?_⟩
    obtain ⟨b, off, cells, e2, hb, hlt, hc, hx⟩ := h3 h0
    exact ⟨b, off, cells, e2, hf b hb, hlt, CatR.mono (fun y c hy => ShR.refz a y c (.inr hf) hy) _ _ hc, hx⟩
def AV.shift (n : Nat) : AV → AV
  | .cons a b => .cons (a.shift n) (b.shift n)
  | .st a => .st (a.shift n)
  | .row r => .row (r + n)
  | .sub r size lo m => .sub (r + n) size lo m
  | .mp r => .mp (r + n)
  | .ptr b p => .ptr (b + n) p
  | .slf b z => .slf (b + n) z
  | .fn f c => .fn f (c.shift n)
  | .tup a => .tup (a.shift n)
  | .pv c => .pv (c.shift n)
  | a => a
def Blk.shift (n : Nat) : Blk → Blk
  | .box t c => .box t (c.shift n)
  | .sav ts a => .sav (ts.map (AV.shift n)) a
  | .rowl t e l (some (z, c)) => .rowl t e l (some (z, c.shift n))
  | b => b
structure Shifts (G G2 : Gh) (n len : Nat) : Prop where
  addr : ∀ i, i < len → G2.addr (i + n) = G.addr i
  rowv : ∀ i, i < len → G2.rowv (i + n) = G.rowv i
theorem CellsR.shift {w : World} {G G2 : Gh} {n len : Nat} (hs : Shifts G G2 n len) : ∀ (a : AV) (cs : List Value), (∀ r ∈ a.refs, r < len) → (a.noView = true ∨ ∀ b, G.fz b → G2.fz b) → CellsR w G a cs → CellsR w G2 (a.shift n) cs
  | .unk, _, _, _, h | .int .., _, _, _, h | .bool .., _, _, _, h | .str .., _, _, _, h | .nil, _, _, _, h | .nilS, _, _, _, h | .nilP, _, _, _, h | .tup _, _, _, _, h | .emp, _, _, _, h | .opq _, _, _, _, h => h
  | .sub r size lo m, cs, hr, _, h => by
    simp only [AV.shift, CellsR] at h ⊢
    rw [hs.rowv _ (hr r (by simp [AV.refs]))]; exact h
  | .mp r, cs, hr, _, h => by
    simp only [AV.shift, CellsR] at h ⊢
    rw [hs.addr _ (hr r (by simp [AV.refs]))]; exact h
  | .ifc t e x b, cs, _, hv, h => ⟨fun hb => by obtain ⟨v, e1, h1, h2⟩ := h.1 hb; exact ⟨v, e1, h1, ShR.refz e x _ (hv.imp (fun h => h) id) h2⟩, h.2⟩
  | .cons a b, cs, hr, hv, h => by
    obtain ⟨c1, c2, e, h1, h2⟩ := h
    refine ⟨c1, c2, e, CellsR.shift hs a _ (fun r hr' => hr r (by simp [AV.refs, hr'])) ?_ h1, CellsR.shift hs b _ (fun r hr' => hr r (by simp [AV.refs, hr'])) ?_ h2⟩
    · exact hv.imp (fun h => by simp only [AV.noView, Bool.and_eq_true] at h; exact h.1) id
    · exact hv.imp (fun h => by simp only [AV.noView, Bool.and_eq_true] at h; exact h.2) id
  | .st a, cs, hr, hv, h => CellsR.shift hs a cs hr hv h
  | .arr n' e l, cs, _, hv, h => ShR.refz (.arr n' e) l cs (hv.imp (fun h => h) id) h
  | .sl e l, cs, _, hv, h => ShR.refz (.sl e) l cs (hv.imp (fun h => by simp [AV.noView] at h) id) h
  | .row r, cs, hr, _, h => by
    simp only [AV.shift, CellsR] at h ⊢
    rw [hs.rowv _ (hr r (by simp [AV.refs]))]; exact h
  | .ptr b p, cs, hr, _, h => by
    simp only [AV.shift, CellsR] at h ⊢
    rw [hs.addr _ (hr b (by simp [AV.refs]))]; exact h
  | .slf b z, cs, hr, _, h => by
    simp only [AV.shift, CellsR] at h ⊢
    rw [hs.addr _ (hr b (by simp [AV.refs]))]; exact h
  | .fn f c, cs, hr, hv, h => by
    obtain ⟨vs, e, h1⟩ := h
    exact ⟨vs, e, CellsR.shift hs c vs hr hv h1⟩
  | .pv c, cs, hr, hv, h => by
    have hf := hv.resolve_left (by simp [AV.noView])
    obtain ⟨b, off, e, hfz, hb, cells, hc, hx⟩ := h
    exact ⟨b, off, e, hf b hfz, hb, cells, CellsR.shift hs c cells hr (.inr hf) hc, hx⟩
theorem ValR0.shift {w : World} {G G2 : Gh} {n len : Nat} (hs : Shifts G G2 n len) (a : AV) (v : Value) (hr : ∀ r ∈ a.refs, r < len) (hv : a.noView = true ∨ ∀ b, G.fz b → G2.fz b) (h : ValR0 w G a v) : ValR0 w G2 (a.shift n) v := by
  cases a with
  | st a => obtain ⟨cs, e, h1⟩ := h; exact ⟨cs, e, CellsR.shift hs a _ hr hv h1⟩
  | arr m e l => obtain ⟨cs, e', h1⟩ := h; exact ⟨cs, e', ShR.refz (.arr m e) l _ hv h1⟩
  | unk => trivial
  | _ => exact CellsR.shift hs _ _ hr hv h
theorem ValsR.shift {w : World} {G G2 : Gh} {n len : Nat} (hs : Shifts G G2 n len) : ∀ (a : AV) (vs : List Value), (∀ r ∈ a.refs, r < len) → (a.noView = true ∨ ∀ b, G.fz b → G2.fz b) → ValsR w G a vs → ValsR w G2 (a.shift n) vs
  | .nil, vs, _, _, h => h
  | .cons a b, vs, hr, hv, h => by
    obtain ⟨v, t, e, h1, h2⟩ := h
    refine ⟨v, t, e, ValR0.shift hs a v (fun r hr' => hr r (by simp [AV.refs, hr'])) ?_ h1, ValsR.shift hs b t (fun r hr' => hr r (by simp [AV.refs, hr'])) ?_ h2⟩
    · exact hv.imp (fun h => by simp only [AV.noView, Bool.and_eq_true] at h; exact h.1) id
    · exact hv.imp (fun h => by simp only [AV.noView, Bool.and_eq_true] at h; exact h.2) id
  | .unk, _, _, _, h | .int .., _, _, _, h | .bool .., _, _, _, h | .str .., _, _, _, h | .st .., _, _, _, h | .arr .., _, _, _, h | .sl .., _, _, _, h | .nilS, _, _, _, h | .row .., _, _, _, h | .ptr .., _, _, _, h | .slf .., _, _, _, h | .nilP, _, _, _, h | .fn .., _, _, _, h | .tup .., _, _, _, h | .emp, _, _, _, h | .pv .., _, _, _, h | .sub .., _, _, _, h | .mp .., _, _, _, h | .ifc .., _, _, _, h | .opq .., _, _, _, h => h.elim
theorem ValR.shift {w : World} {G G2 : Gh} {n len : Nat} (hs : Shifts G G2 n len) (a : AV) (v : Value) (hr : ∀ r ∈ a.refs, r < len) (hv : a.noView = true ∨ ∀ b, G.fz b → G2.fz b) (h : ValR w G a v) : ValR w G2 (a.shift n) v := by
  cases a with
  | tup a => obtain ⟨vs, e, h1⟩ := h; exact ⟨vs, e, ValsR.shift hs a _ hr hv h1⟩
  | unk => trivial
  | _ => exact ValR0.shift (w := w) hs _ v hr hv h

/-- arguments -/
def ArgsR (w : World) (G : Gh) : List AV → List Value → Prop
  | [], vs => vs = []
  | a :: l, vs => ∃ v t, vs = v :: t ∧ ValR0 w G a v ∧ ArgsR w G l t
def G0 (fz : Nat → Prop) : Gh := ⟨fun _ => default, fun _ => undef, fz⟩
/-- the contract of a function that writes nothing that was there: from these arguments it gives this result, with these new blocks -/
def PureC (P : Program) (f : Nat) (args : List AV) (res : AV) (new : List Blk) : Prop :=
  ∀ (w : World) (fz : Nat → Prop) (vs : List Value), ((∀ b, fz b → b < w.heap.size) ∧ Bs w.heap.size w) → ArgsR w (G0 fz) args vs →
    Calls P f vs.toArray w fun e w' => ∃ v G', e = .returned v ∧ NewR w w' (G0 fz) G' 0 new ∧ ValR w' G' res v
def callable (P : Program) (f : Nat) : Bool :=
  match P.funcs[f]? with
  | some fn => fn.body.isSome && fn.name != "runtime.NumGoroutine"
  | none => false
theorem run_callFunc {P : Program} {w : World} {f : Nat} (h : callable P f = true) (args : Array Value) : (callFunc f args).run P w = .ok (.enter f args) w := by
  unfold callable at h
  split at h
  · rename_i fn hfn
    simp only [Bool.and_eq_true, bne_iff_ne, ne_eq] at h
    have hb : fn.body.isNone = false := by cases hb : fn.body <;> simp [hb] at h ⊢
    have hn : (fn.name == "runtime.NumGoroutine") = false := by simpa using h.2
    unfold callFunc program
    simp only [Sem.run_bind]
    simp only [Sem.run, Result.andThen, hfn, hn, hb, Bool.false_eq_true, if_false]
    rfl
  · cases h
/-- captured values, one by one -/
def capsL : AV → Option (List AV)
  | .nil => some []
  | .cons a b => (capsL b).map (a :: ·)
  | _ => none
theorem capsL_ok {w : World} {G : Gh} : ∀ (c : AV) (l : List AV) (vs : List Value), capsL c = some l → (∀ a ∈ l, a.flat = true) → CellsR w G c vs → ArgsR w G l vs
  | .nil, l, vs, h, _, hc => by simp only [capsL, Option.some.injEq] at h; subst h; exact hc
  | .cons a b, l, vs, h, hf, hc => by
    simp only [capsL, Option.map_eq_some_iff] at h
    obtain ⟨l', hl, rfl⟩ := h
    obtain ⟨c1, c2, rfl, h1, h2⟩ := hc
    have hfa := hf a (by simp)
    have hlen := CellsR.length a c1 h1
    rw [flat_size hfa] at hlen
    obtain ⟨v, rfl⟩ := list_one hlen
    exact ⟨v, c2, rfl, (ValR0.flat hfa).2 h1, capsL_ok b l' c2 hl (fun x hx => hf x (by simp [hx])) h2⟩
  | .unk, _, _, h, _, _ | .int .., _, _, h, _, _ | .bool .., _, _, h, _, _ | .str .., _, _, h, _, _ | .st .., _, _, h, _, _ | .arr .., _, _, h, _, _ | .sl .., _, _, h, _, _ | .nilS, _, _, h, _, _ | .row .., _, _, h, _, _ | .ptr .., _, _, h, _, _ | .slf .., _, _, h, _, _ | .nilP, _, _, h, _, _ | .fn .., _, _, h, _, _ | .tup .., _, _, h, _, _ | .emp, _, _, h, _, _ | .pv .., _, _, h, _, _ => by cases h
def notTup : AV → Bool
  | .tup _ => false
  | _ => true
theorem notTup_ok {a : AV} (h : notTup a = true) : ∀ b, a ≠ .tup b := by intro b e; subst e; cases h
def evArgs (ts : List AV) : List Operand → Option (List AV)
  | [] => some []
  | x :: l =>
    match ev ts x, evArgs ts l with
    | some a, some as => if notTup a then some (a :: as) else none
    | _, _ => none
theorem evArgs_ok {w : World} {G : Gh} {ts : List AV} {a : Act} (ht : TmpsR w G ts a) : ∀ (l : List Operand) (as : List AV), evArgs ts l = some as → ArgsR w G as (l.map a.eval)
  | [], as, h => by simp only [evArgs, Option.some.injEq] at h; subst h; rfl
  | x :: l, as, h => by
    simp only [evArgs] at h
    split at h
    · rename_i u us hu hus
      split at h
      · rename_i hn
        simp only [Option.some.injEq] at h; subst h
        exact ⟨_, _, rfl, (ev_ok ht hu).to0 (notTup_ok hn), evArgs_ok ht l us hus⟩
      · cases h
    · cases h
theorem ArgsR.append {w : World} {G : Gh} : ∀ {l m : List AV} {a b : List Value}, ArgsR w G l a → ArgsR w G m b → ArgsR w G (l ++ m) (a ++ b)
  | [], m, a, b, ha, hb => by simp only [ArgsR] at ha; subst ha; simpa using hb
  | x :: l, m, a, b, ⟨v, t, e, h1, h2⟩, hb => ⟨v, t ++ b, by rw [e]; rfl, h1, ArgsR.append h2 hb⟩
/-- lent for a call: an own row as a view, a pointer to an own variable as a view of what it holds -/
def lendC (mem : List Blk) : AV → Option AV
  | .cons a b =>
    match lendC mem a, lendC mem b with
    | some x, some y => some (.cons x y)
    | _, _ => none
  | .st a => (lendC mem a).map .st
  | .row r =>
    match lk mem r with
    | .row _ e l => some (.sl e l)
    | _ => none
  | .sub r size lo n =>
    match lk mem r with
    | .row _ e l => if size = e.size then some (.sl e ((l.take (lo + n)).drop lo)) else none
    | _ => none
  | .mp _ => none
  | .ptr _ _ => none
  | .slf _ _ => none
  | .fn f c => if c.refs.isEmpty then some (.fn f c) else none
  | .tup _ => none
  | .pv c => if c.refs.isEmpty then some (.pv c) else none
  | a => some a
def lend (mem : List Blk) : AV → Option (AV × Prop)
  | .cons a b =>
    match lend mem a, lend mem b with
    | some (x, C), some (y, D) => some (.cons x y, C ∧ D)
    | _, _ => none
  | .st a => (lend mem a).map fun (x, C) => (.st x, C)
  | .ptr b q =>
    match blkAV (lk mem b) with
    | some c =>
      match AV.get q c with
      | some (c', C) => if 0 < c'.size then (lendC mem c').map fun x => (.pv x, C) else none
      | none => none
    | none => none
  | .fn f c => (lend mem c).map fun (x, C) => (.fn f x, C)
  | a => (lendC mem a).map fun x => (x, True)
/-- all that is there, as frozen -/
def allF (w : World) : Nat → Prop := fun b => b < w.heap.size
theorem ShR.toAll {w : World} {fz : Nat → Prop} (hf : ∀ b, fz b → b < w.heap.size) (s : Sh) (x : s.T) (cs : List Value) (h : ShR w fz s x cs) : ShR w (allF w) s x cs := ShR.refz s x cs (.inr hf) h
theorem CellsR.norefs {w : World} {G : Gh} {fz2 : Nat → Prop} (hf : ∀ b, G.fz b → fz2 b) : ∀ (a : AV) (cs : List Value), a.refs = [] → CellsR w G a cs → CellsR w (G0 fz2) a cs
  | .unk, _, _, h | .int .., _, _, h | .bool .., _, _, h | .str .., _, _, h | .nil, _, _, h | .nilS, _, _, h | .nilP, _, _, h | .tup _, _, _, h | .emp, _, _, h | .opq _, _, _, h => h
  | .sub .., _, hr, _ => by simp [AV.refs] at hr
  | .mp _, _, hr, _ => by simp [AV.refs] at hr
  | .ifc t e x b, cs, _, h => ⟨fun hb => by obtain ⟨v, e1, h1, h2⟩ := h.1 hb; exact ⟨v, e1, h1, ShR.refz e x _ (.inr hf) h2⟩, h.2⟩
  | .cons a b, cs, hr, h => by
    simp only [AV.refs, List.append_eq_nil_iff] at hr
    obtain ⟨c1, c2, e, h1, h2⟩ := h
    exact ⟨c1, c2, e, CellsR.norefs hf a _ hr.1 h1, CellsR.norefs hf b _ hr.2 h2⟩
  | .st a, cs, hr, h => CellsR.norefs hf a cs hr h
  | .arr n e l, cs, _, h => ShR.refz (.arr n e) l cs (.inr hf) h
  | .sl e l, cs, _, h => ShR.refz (.sl e) l cs (.inr hf) h
  | .row r, _, hr, _ => by simp [AV.refs] at hr
  | .ptr b p, _, hr, _ => by simp [AV.refs] at hr
  | .slf b z, _, hr, _ => by simp [AV.refs] at hr
  | .fn f c, cs, hr, h => by
    obtain ⟨vs, e, h1⟩ := h
    exact ⟨vs, e, CellsR.norefs hf c vs hr h1⟩
  | .pv c, cs, hr, h => by
    obtain ⟨b, off, e, hfz, hb, cells, hc, hx⟩ := h
    exact ⟨b, off, e, hf b hfz, hb, cells, CellsR.norefs hf c cells hr hc, hx⟩
theorem lend_row {B : Nat} {w : World} {G : Gh} {mem : List Blk} (hm : MemR B w G mem) {r : Nat} {t : TypeId} {e : Sh} {l : List e.T} (h : lk mem r = .row t e l) : ShR w (allF w) (.sl e) l [G.rowv r] := by
  have hb := hm.blk r
  rw [h] at hb
  obtain ⟨ha, cs, hrow, hcat⟩ := hb
  rcases hrow with ⟨hn, rfl, a, hv⟩ | ⟨g, cap, rest, hv, hcap, _, ho, h1, h2, h3, _⟩
  · refine ⟨a, 0, by rw [hv, hn], by omega, Nat.zero_le _, fun h0 => by omega⟩
  · refine ⟨_, cap, by rw [hv], h1, h2, fun _ => ⟨g, 0, cs, rfl, ho.lt, ho.lt, CatR.mono (fun y c hy => ShR.toAll hm.fz e y c hy) _ _ hcat, fun i v hi => ?_⟩⟩
    rw [Nat.zero_add]
    exact ho.cell hi
/-- a part of a view -/
theorem ShR.subv {w : World} {fz : Nat → Prop} {e : Sh} {l : List e.T} {rv v : Value} (h : ShR w fz (.sl e) l [rv]) {lo n : Nat} (hs : SubR e.size lo n rv v) : ShR w fz (.sl e) ((l.take (lo + n)).drop lo) [v] := by
  obtain ⟨ad, cap, e1, h1, h2, h3⟩ := h
  obtain ⟨ad2, N, cap2, a', e2, g1, g2, rfl, g3, g4⟩ := hs
  have e3 := (List.cons.inj e1).1
  rw [e2] at e3
  obtain ⟨rfl, rfl, rfl⟩ := Value.slice.inj e3
  have hlen : ((l.take (lo + n)).drop lo).length = n := by rw [List.length_drop, List.length_take]; omega
  refine ⟨_, cap2 - lo, by rw [hlen], by rw [hlen]; omega, by omega, fun h0 => ?_⟩
  rw [hlen] at h0
  obtain ⟨b, off, cells, rfl, hf, hb, hc, hx⟩ := h3 (by omega)
  obtain ⟨ca, cb, cc, rfl, hla, hcb⟩ := CatR.sub (fun x c hy => ShR.length e x c hy) hc (lo := lo) (hi := lo + n) (by omega) g3
  refine ⟨b, off + lo * e.size, cb, ?_, hf, hb, hcb, fun i v hi => ?_⟩
  · rw [g4 (by omega), Option.map_some, addr_add']
  · have hlt : i < cb.length := (List.getElem?_eq_some_iff.1 hi).1
    have := hx (ca.length + i) v (by rw [List.append_assoc, List.getElem?_append_right (by omega), show ca.length + i - ca.length = i by omega, List.getElem?_append_left hlt]; exact hi)
    rw [hla, ← Nat.add_assoc] at this
    exact this
theorem lendC_ok {B : Nat} {w : World} {G : Gh} {mem : List Blk} (hm : MemR B w G mem) : ∀ (a x : AV) (cs : List Value), lendC mem a = some x → CellsR w G a cs → CellsR w (G0 (allF w)) x cs
  | .cons a b, x, cs, h, hc => by
    simp only [lendC] at h
    split at h
    · rename_i u v hu hv
      simp only [Option.some.injEq] at h; subst h
      obtain ⟨c1, c2, e, h1, h2⟩ := hc
      exact ⟨c1, c2, e, lendC_ok hm a u c1 hu h1, lendC_ok hm b v c2 hv h2⟩
    · cases h
  | .st a, x, cs, h, hc => by
    simp only [lendC, Option.map_eq_some_iff] at h
    obtain ⟨u, hu, rfl⟩ := h
    exact lendC_ok hm a u cs hu hc
  | .row r, x, cs, h, hc => by
    simp only [lendC] at h
    split at h
    · rename_i t e l hlk
      simp only [Option.some.injEq] at h; subst h
      obtain ⟨rfl, _⟩ := hc
      exact lend_row hm hlk
    · cases h
  | .sub r size lo n, x, cs, h, hc => by
    simp only [lendC] at h
    split at h
    · rename_i t e l hlk
      split at h
      · rename_i hz
        simp only [Option.some.injEq] at h; subst h; subst hz
        obtain ⟨v, rfl, hs⟩ := hc
        exact (lend_row hm hlk).subv hs
      · cases h
    · cases h
  | .mp _, x, cs, h, _ => by cases h
  | .opq _, x, cs, h, hc => by simp only [lendC, Option.some.injEq] at h; subst h; exact hc
  | .ifc t e y b, x, cs, h, hc => by simp only [lendC, Option.some.injEq] at h; subst h; exact CellsR.norefs hm.fz (.ifc t e y b) cs rfl hc
  | .ptr _ _, x, cs, h, _ => by cases h
  | .slf _ _, x, cs, h, _ => by cases h
  | .tup _, x, cs, h, _ => by cases h
  | .fn f c, x, cs, h, hc => by
    simp only [lendC] at h
    split at h
    · rename_i hr
      simp only [Option.some.injEq] at h; subst h
      exact CellsR.norefs hm.fz (.fn f c) cs (by simpa [AV.refs] using hr) hc
    · cases h
  | .pv c, x, cs, h, hc => by
    simp only [lendC] at h
    split at h
    · rename_i hr
      simp only [Option.some.injEq] at h; subst h
      exact CellsR.norefs hm.fz (.pv c) cs (by simpa [AV.refs] using hr) hc
    · cases h
  | .unk, x, cs, h, hc => by simp only [lendC, Option.some.injEq] at h; subst h; exact hc
  | .int .., x, cs, h, hc => by simp only [lendC, Option.some.injEq] at h; subst h; exact hc
  | .bool .., x, cs, h, hc => by simp only [lendC, Option.some.injEq] at h; subst h; exact hc
  | .str .., x, cs, h, hc => by simp only [lendC, Option.some.injEq] at h; subst h; exact hc
  | .nil, x, cs, h, hc => by simp only [lendC, Option.some.injEq] at h; subst h; exact hc
  | .nilS, x, cs, h, hc => by simp only [lendC, Option.some.injEq] at h; subst h; exact hc
  | .nilP, x, cs, h, hc => by simp only [lendC, Option.some.injEq] at h; subst h; exact hc
  | .emp, x, cs, h, hc => by simp only [lendC, Option.some.injEq] at h; subst h; exact hc
  | .arr n e l, x, cs, h, hc => by simp only [lendC, Option.some.injEq] at h; subst h; exact ShR.refz (.arr n e) l cs (.inr hm.fz) hc
  | .sl e l, x, cs, h, hc => by simp only [lendC, Option.some.injEq] at h; subst h; exact ShR.refz (.sl e) l cs (.inr hm.fz) hc
theorem lend_ok {B : Nat} {w : World} {G : Gh} {mem : List Blk} (hm : MemR B w G mem) : ∀ (a x : AV) (C : Prop) (cs : List Value), lend mem a = some (x, C) → C → CellsR w G a cs → CellsR w (G0 (allF w)) x cs
  | .cons a b, x, C, cs, h, hC, hc => by
    simp only [lend] at h
    split at h
    · rename_i u D v E hu hv
      simp only [Option.some.injEq, Prod.mk.injEq] at h
      obtain ⟨rfl, rfl⟩ := h
      obtain ⟨c1, c2, e, h1, h2⟩ := hc
      exact ⟨c1, c2, e, lend_ok hm a u D c1 hu hC.1 h1, lend_ok hm b v E c2 hv hC.2 h2⟩
    · cases h
  | .st a, x, C, cs, h, hC, hc => by
    simp only [lend, Option.map_eq_some_iff, Prod.mk.injEq, Prod.exists] at h
    obtain ⟨u, D, hu, rfl, rfl⟩ := h
    exact lend_ok hm a u D cs hu hC hc
  | .fn f c, x, C, cs, h, hC, hc => by
    simp only [lend, Option.map_eq_some_iff, Prod.mk.injEq, Prod.exists] at h
    obtain ⟨u, D, hu, rfl, rfl⟩ := h
    obtain ⟨vs, e, h1⟩ := hc
    exact ⟨vs, e, lend_ok hm c u D vs hu hC h1⟩
  | .ptr b q, x, C, cs, h, hC, hc => by
    simp only [lend] at h
    split at h
    · rename_i c hcb
      split at h
      · rename_i c' D hget
        split at h
        · rename_i hz
          simp only [Option.map_eq_some_iff, Prod.mk.injEq] at h
          obtain ⟨y, hy, rfl, rfl⟩ := h
          obtain ⟨cells, h1, h2⟩ := blk_at (hm.blk b) hcb
          obtain ⟨c1, c2, c3, rfl, hlen, h3⟩ := AV.get_ok q c c' D cells hget hC h1
          have hat := At.sub (w := w) (b := (G.addr b).block) (off := (G.addr b).off) (c1 := c1) (c2 := c2) (c3 := c3) ⟨rfl, h2⟩
          rw [hlen] at hat
          have hl2 := CellsR.length c' c2 h3
          have hlt : (G.addr b).block < w.heap.size := by
            have h0 : 0 < c2.length := by omega
            have := hat.2 0 c2[0] (List.getElem?_eq_getElem h0)
            exact World.block_lt_of_cell? w (a := ⟨(G.addr b).block, (G.addr b).off + offs q + 0, none⟩) this
          exact ⟨_, _, hc, hlt, hlt, c2, lendC_ok hm c' y c2 hy h3, hat.2⟩
        · cases h
      · cases h
    · cases h
  | .row r, x, C, cs, h, _, hc => by simp only [lend, Option.map_eq_some_iff, Prod.mk.injEq] at h; obtain ⟨y, hy, rfl, _⟩ := h; exact lendC_ok hm _ _ cs hy hc
  | .sub .., x, C, cs, h, _, hc => by simp only [lend, Option.map_eq_some_iff, Prod.mk.injEq] at h; obtain ⟨y, hy, rfl, _⟩ := h; exact lendC_ok hm _ _ cs hy hc
  | .mp _, x, C, cs, h, _, hc => by simp only [lend, Option.map_eq_some_iff, Prod.mk.injEq] at h; obtain ⟨y, hy, rfl, _⟩ := h; exact lendC_ok hm _ _ cs hy hc
  | .ifc .., x, C, cs, h, _, hc => by simp only [lend, Option.map_eq_some_iff, Prod.mk.injEq] at h; obtain ⟨y, hy, rfl, _⟩ := h; exact lendC_ok hm _ _ cs hy hc
  | .slf _ _, x, C, cs, h, _, hc => by simp only [lend, Option.map_eq_some_iff, Prod.mk.injEq] at h; obtain ⟨y, hy, rfl, _⟩ := h; exact lendC_ok hm _ _ cs hy hc
  | .opq _, x, C, cs, h, _, hc => by simp only [lend, Option.map_eq_some_iff, Prod.mk.injEq] at h; obtain ⟨y, hy, rfl, _⟩ := h; exact lendC_ok hm _ _ cs hy hc
  | .tup a, x, C, cs, h, _, hc => hc.elim
  | .pv a, x, C, cs, h, _, hc => by simp only [lend, Option.map_eq_some_iff, Prod.mk.injEq] at h; obtain ⟨y, hy, rfl, _⟩ := h; exact lendC_ok hm _ _ cs hy hc
  | .unk, x, C, cs, h, _, hc => by simp only [lend, Option.map_eq_some_iff, Prod.mk.injEq] at h; obtain ⟨y, hy, rfl, _⟩ := h; exact lendC_ok hm _ _ cs hy hc
  | .int .., x, C, cs, h, _, hc => by simp only [lend, Option.map_eq_some_iff, Prod.mk.injEq] at h; obtain ⟨y, hy, rfl, _⟩ := h; exact lendC_ok hm _ _ cs hy hc
  | .bool .., x, C, cs, h, _, hc => by simp only [lend, Option.map_eq_some_iff, Prod.mk.injEq] at h; obtain ⟨y, hy, rfl, _⟩ := h; exact lendC_ok hm _ _ cs hy hc
  | .str .., x, C, cs, h, _, hc => by simp only [lend, Option.map_eq_some_iff, Prod.mk.injEq] at h; obtain ⟨y, hy, rfl, _⟩ := h; exact lendC_ok hm _ _ cs hy hc
  | .nil, x, C, cs, h, _, hc => by simp only [lend, Option.map_eq_some_iff, Prod.mk.injEq] at h; obtain ⟨y, hy, rfl, _⟩ := h; exact lendC_ok hm _ _ cs hy hc
  | .nilS, x, C, cs, h, _, hc => by simp only [lend, Option.map_eq_some_iff, Prod.mk.injEq] at h; obtain ⟨y, hy, rfl, _⟩ := h; exact lendC_ok hm _ _ cs hy hc
  | .nilP, x, C, cs, h, _, hc => by simp only [lend, Option.map_eq_some_iff, Prod.mk.injEq] at h; obtain ⟨y, hy, rfl, _⟩ := h; exact lendC_ok hm _ _ cs hy hc
  | .emp, x, C, cs, h, _, hc => by simp only [lend, Option.map_eq_some_iff, Prod.mk.injEq] at h; obtain ⟨y, hy, rfl, _⟩ := h; exact lendC_ok hm _ _ cs hy hc
  | .arr .., x, C, cs, h, _, hc => by simp only [lend, Option.map_eq_some_iff, Prod.mk.injEq] at h; obtain ⟨y, hy, rfl, _⟩ := h; exact lendC_ok hm _ _ cs hy hc
  | .sl .., x, C, cs, h, _, hc => by simp only [lend, Option.map_eq_some_iff, Prod.mk.injEq] at h; obtain ⟨y, hy, rfl, _⟩ := h; exact lendC_ok hm _ _ cs hy hc
end Go.Proofs.YtbpjinefbnlenaaGreatDoor
