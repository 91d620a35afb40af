/- An exact machine, part 7: loads, stores, what a slice holds, conversions. -/
import Derived.Test.YtpmgggfjmkpleaaGreatDoorE6
import Derived.Laws.CopyRow
import Derived.Laws.Tables
import Derived.Laws.Cells
namespace Go.Proofs.YtpmgggfjmkpleaaGreatDoor.E
open Go Go.RowKit
set_option linter.unusedVariables false

section
variable {P : Program} {o : Oper} {ts : T} {v : V}
theorem bk_at {w : World} {G : Gh} {b : Nat} {t : TypeId} {l : List V} {op : Option Nat} (h : BkR w G b (.cells t l op)) : ∃ cv, L1 G l cv ∧ ∀ j u, cv[j]? = some u → w.cell? ⟨G.ρ b, j, none⟩ = some u := by
  obtain ⟨cv, rest, fr, h1, _, h2, _, _⟩ := h
  refine ⟨cv, h2, fun j u hj => ?_⟩
  have hlt : j < cv.length := (List.getElem?_eq_some_iff.1 hj).1
  simp only [World.cell?, h1]
  simp [List.getElem?_append_left hlt, hj]
/-- an operation that looks into one block -/
def LdOK (P : Program) (o : Oper) (ts : T) (b : Nat) (bk : Bk) (v : V) : Prop := ∀ (G : Gh) (a : Act) (w : World), ORel G o.op ts a → G.al b ∧ (BkR w G b bk → ∃ x, (execOp a.eval o).run P w = .ok (.value x) w ∧ CR G v x)
theorem loadVar_run {w : World} {G : Gh} {b off : Nat} {t tt : TypeId} {l : List V} {op : Option Nat} (h : ldc P t l off = some v) (hb : BkR w G b (.cells tt l op)) : ∃ x, (loadVar t ⟨G.ρ b, off, none⟩).run P w = .ok x w ∧ CR G v x := by
  obtain ⟨cv, hl, hat⟩ := bk_at hb
  rcases ldc_cases h with ⟨ha, ho, rfl⟩ | ⟨n, ha, hn, ho, rfl⟩
  · refine ⟨cv.getD off undef, ?_, hl.lr.nth off⟩
    have hlt : off < cv.length := by rw [hl.lr.1]; exact ho
    have hc := hat off (cv.getD off undef) (by simp [List.getD_eq_getElem?_getD, hlt])
    simp only [loadVar, Sem.run_bind, agg_run ha, Result.andThen_ok, Bool.false_eq_true, if_false]
    simp only [load, Sem.run] at hc ⊢
    simp only [hc]
  · refine ⟨.agg ((cv.drop off).take n).toArray, ?_, agg_of (hl.getR off n)⟩
    have hlt : off + n ≤ cv.length := by rw [hl.lr.1]; exact ho
    have hld := run_loadCells_list (P := P) w ⟨G.ρ b, off, none⟩ ((cv.drop off).take n) (fun j u hj => by
      rw [addr_add']
      have hjn : j < n := by have := (List.getElem?_eq_some_iff.1 hj).1; simp at this; omega
      rw [List.getElem?_take, if_pos hjn, List.getElem?_drop] at hj
      exact hat _ _ hj)
    rw [show ((cv.drop off).take n).length = n by simp; omega] at hld
    simp only [loadVar, Sem.run_bind, agg_run ha, Result.andThen_ok, if_true, sz_run hn, hld, Sem.run_pure]
theorem load_ok {t tt : TypeId} {p : Operand} {b off : Nat} {l : List V} {op : Option Nat} (ho : o.op = .load t p) (hp : evo ts p = .ptr b off) (h : ldc P t l off = some v) : LdOK P o ts b (.cells tt l op) v := by
  intro G a w ha
  rw [ho] at ha
  have hx := ha p (by simp [Op.operands])
  rw [hp] at hx
  obtain ⟨ex, hal⟩ := i_ptr hx
  refine ⟨hal, fun hb => ?_⟩
  obtain ⟨x, hr, hv⟩ := loadVar_run (w := w) h hb
  refine ⟨x, ?_, hv⟩
  simp only [execOp, ho, ex, Instr.loadAt, Instr.sureAddr, Sem.run_bind, Sem.run_pure, Result.andThen_ok, hr]
/-! stores -/
theorem run_storeCells_fr (P : Program) (g o : Nat) (t : TypeId) (fr : Nat × Nat) : ∀ (vs : List Value) (i : Nat) (cur : Array Value) (w : World), w.heap[g]? = some (.cells cur t fr) → o + i + vs.length ≤ cur.size → (fr = (0, 0) ∨ cur.size ≤ fr.1) → (∀ v ∈ vs, v.oneCell' = true) →
    (storeCells ⟨g, o, none⟩ vs i).run P w = .ok () (w.setRow g (cur.toList.take (o + i) ++ vs ++ cur.toList.drop (o + i + vs.length)).toArray)
  | [], i, cur, w, hg, _, _, _ => by
    simp only [storeCells, List.append_nil, List.length_nil, Nat.add_zero, List.take_append_drop, Array.toArray_toList]
    rw [setRow_self w g cur t fr hg]
    rfl
  | v :: rest, i, cur, w, hg, hl, hfr, h1 => by
    have hi : o + i < cur.size := by simp at hl; omega
    have hadd : (⟨g, o, none⟩ : Addr).add i = ⟨g, o + i, none⟩ := by unfold Addr.add; split <;> simp_all
    have hcell : w.cell? ⟨g, o + i, none⟩ = some cur[o + i] := by simp [World.cell?, hg, hi]
    have hfro : w.frozen? ⟨g, o + i, none⟩ = false := by
      simp only [World.frozen?, hg]
      rcases hfr with rfl | h
      · simp
      · simp; omega
    have hst : (store ((⟨g, o, none⟩ : Addr).add i) v).run P w = .ok () (w.setRow g (cur.setIfInBounds (o + i) v)) := by
      rw [hadd, run_store P w _ v _ (h1 v (by simp)), hcell]
      simp [hfro, setCell_eq_setRow w g (o + i) cur t fr v hg]
    have ih := run_storeCells_fr P g o t fr rest (i + 1) (cur.setIfInBounds (o + i) v) (w.setRow g (cur.setIfInBounds (o + i) v)) (setRow_heap w g cur _ t _ hg) (by simp at hl ⊢; omega) (hfr.imp id fun h => by simpa using h) (fun x hx => h1 x (by simp [hx]))
    simp only [storeCells, Sem.run_bind, hst, Result.andThen_ok, ih, setRow_setRow]
    congr 3
    have e := list_seg_step cur.toList (o + i) v rest (by simp at hl ⊢; omega)
    simpa [Array.toList_setIfInBounds, Nat.add_assoc] using e
/-- cells stored into a block -/
theorem store_run {w : World} {G : Gh} {b off : Nat} {t : TypeId} {l ys : List V} {us : List Value} {op : Option Nat} (hb : BkR w G b (.cells t l op)) (hy : L1 G ys us) (hle : off + ys.length ≤ l.length) :
    ∃ w', (storeCells ⟨G.ρ b, off, none⟩ us).run P w = .ok () w' ∧ Rest w w' ∧ w'.heap.size = w.heap.size ∧ (∀ k, k ≠ G.ρ b → w'.heap[k]? = w.heap[k]?) ∧ BkR w' G b (.cells t (setR l off ys) op) := by
  obtain ⟨cv, rest, fr, h1, hf, h2, h3, h4⟩ := hb
  have hul := hy.lr.1
  have hcl := h2.lr.1
  have hr := run_storeCells_fr P (G.ρ b) off t fr us 0 (cv ++ rest).toArray w h1 (by simp; omega) (by simpa using hf) hy.one
  refine ⟨_, hr, ⟨rfl, rfl, rfl, by simp⟩, by simp, fun k hk => setRow_other _ _ _ _ hk, cv.take off ++ us ++ cv.drop (off + us.length), rest, fr, ?_, hf.imp id fun h => (by simp only [List.length_append, List.length_take, List.length_drop]; omega), h2.setR off hy, h3, fun s hs => ?_⟩
  · rw [setRow_heap w _ _ _ t fr h1]
    congr 3
    simp only [Nat.add_zero]
    rw [List.take_append_of_le_length (by omega), List.drop_append_of_le_length (by omega)]
    simp [List.append_assoc]
  · have := h4 s hs
    refine ⟨?_, this.2⟩
    rw [← this.1]
    simp only [List.length_append, List.length_take, List.length_drop]
    omega
def StOK (P : Program) (o : Oper) (ts : T) (b : Nat) (bk bk' : Bk) : Prop := ∀ (G : Gh) (a : Act) (w : World), ORel G o.op ts a → BkR w G b bk →
  ∃ w', (execOp a.eval o).run P w = .ok .skip w' ∧ Rest w w' ∧ w'.heap.size = w.heap.size ∧ (∀ k, k ≠ G.ρ b → w'.heap[k]? = w.heap[k]?) ∧ BkR w' G b bk'
noncomputable def stoV (P : Program) (t : TypeId) (o : Nat) (l : List V) (ys : Option (List V)) : Option (List V) :=
  match ys, sz P t with
  | some ys, some k => match Nat.beq ys.length k && Nat.ble (o + k) l.length with
    | true => some (setR l o ys)
    | false => none
  | _, _ => none
theorem store_ok {t tt : TypeId} {p x : Operand} {b off : Nat} {l r : List V} {op : Option Nat} (ho : o.op = .store t p x) (hp : evo ts p = .ptr b off) (h : stoV P t off l (flat (evo ts x)) = some r) : StOK P o ts b (.cells tt l op) (.cells tt r op) := by
  intro G a w ha hb
  rw [ho] at ha
  have hpv := ha p (by simp [Op.operands])
  have hx := ha x (by simp [Op.operands])
  rw [hp] at hpv
  obtain ⟨ep, hal⟩ := i_ptr hpv
  unfold stoV at h
  split at h
  · rename_i ys k hf hk
    split at h
    · rename_i hc
      rw [Bool.and_eq_true] at hc
      have c1 := Nat.eq_of_beq_eq_true hc.1
      have c2 := Nat.le_of_ble_eq_true hc.2
      obtain rfl := Option.some.inj h
      have hy := flat_ok hf hx
      obtain ⟨w', h1, h2, h3, h4, h5⟩ := store_run (P := P) hb hy (off := off) (by omega)
      refine ⟨w', ?_, h2, h3, h4, h5⟩
      have hsz : (a.eval x).cells.size = k := by rw [← c1, ← hy.lr.1]; simp
      simp only [execOp, ho, Instr.storeAt, ep, Instr.sureAddr, storeVar, Sem.run_bind, Sem.run_pure, Result.andThen_ok, sz_run hk]
      rw [if_neg (by simp [hsz]), h1]
      rfl
    · cases h
  · cases h
/-! what a slice or a text holds -/
def bytesL (s : List UInt8) : List V := s.map fun b => .int .u8 b.toNat
theorem bytesL_ok (G : Gh) : ∀ s : List UInt8, L1 G (bytesL s) (s.map fun b => Value.int .u8 b.toNat)
  | [] => .nil
  | b :: s => ⟨(bytesL_ok G s).lr.cons (.int _ _), fun v hv => by
    rcases List.mem_cons.1 hv with rfl | hv
    · rfl
    · exact (bytesL_ok G s).one v hv⟩
/-- the slice's elements, out of its block -/
noncomputable def slCells (k o n : Nat) (b : Bk) : Option (List V) := Bk.casesOn b none (fun _ l _ => match Nat.ble (o + n * k) l.length with | true => some (getR l o (n * k)) | false => none) (fun _ => none) (fun _ _ => none)
theorem slCells_ok {w : World} {G : Gh} {b o n k : Nat} {bk : Bk} {l : List V} (h : slCells k o n bk = some l) (hb : BkR w G b bk) : l.length = n * k ∧ ∃ us, L1 G l us ∧ us.length = n * k ∧ (∀ j u, us[j]? = some u → w.cell? ⟨G.ρ b, o + j, none⟩ = some u) ∧ (loadCells ⟨G.ρ b, o, none⟩ (n * k)).run P w = .ok us.toArray w := by
  cases bk with
  | cells t cl op =>
    have h : (match Nat.ble (o + n * k) cl.length with | true => some (getR cl o (n * k)) | false => none) = some l := h
    split at h
    · rename_i hle
      have hle := Nat.le_of_ble_eq_true hle
      obtain rfl := Option.some.inj h
      obtain ⟨cv, hl, hat⟩ := bk_at hb
      have hcl := hl.lr.1
      have hul : ((cv.drop o).take (n * k)).length = n * k := by simp; omega
      have hc : ∀ j u, ((cv.drop o).take (n * k))[j]? = some u → w.cell? ⟨G.ρ b, o + j, none⟩ = some u := fun j u hj => by
        have hjn : j < n * k := by have := (List.getElem?_eq_some_iff.1 hj).1; omega
        rw [List.getElem?_take, if_pos hjn, List.getElem?_drop] at hj
        exact hat _ _ hj
      refine ⟨by unfold getR; simp; omega, _, hl.getR o (n * k), hul, hc, ?_⟩
      have := run_loadCells_list (P := P) w ⟨G.ρ b, o, none⟩ ((cv.drop o).take (n * k)) (fun j u hj => by rw [addr_add']; exact hc j u hj)
      rwa [hul] at this
    · cases h
  | _ => cases h
end
end Go.Proofs.YtpmgggfjmkpleaaGreatDoor.E
