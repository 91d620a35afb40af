/- A machine of values, part 11o: slice literals of one element that is no datum. -/
import Derived.Test.YtbpjinefbnlenaaGreatDoorAm11c
namespace Go.Proofs.YtbpjinefbnlenaaGreatDoor
open Go Go.RowKit
set_option linter.unusedVariables false

/-! a slice literal of one element that is no datum -/
theorem newRowL {w : World} {G : Gh} {base : Nat} {t : TypeId} {e : Sh} {c : AV} {cells : Array Value} (hc : CellsR w G c cells.toList) (hl : cells.toList.length = e.size) (hfz : ∀ b, G.fz b → b < w.heap.size) (hr : ∀ r ∈ c.refs, r < base) :
    NewR w (w.alloc (.cells cells t)) G (G.put base ⟨w.heap.size, 0, none⟩ (.slice (some ⟨w.heap.size, 0, none⟩) 1 1)) base [.rowl t e [] (some (true, c))] := by
  have hb : Below w.heap.size w (w.alloc (.cells cells t)) := (Below.refl _ _).alloc (Nat.le_refl _) _
  have hsz : (w.alloc (.cells cells t)).heap.size = w.heap.size + 1 := by simp
  have hl0 : ∀ (j x : Nat), (lk [Blk.rowl t e [] (some (true, c))] j).live (G.put base ⟨w.heap.size, 0, none⟩ (.slice (some ⟨w.heap.size, 0, none⟩) 1 1)) (base + j) = some x → j = 0 ∧ x = w.heap.size := by
    intro j x h
    cases j with
    | zero =>
      simp only [lk, Blk.live, Gh.put, List.getD_cons_zero, Nat.add_zero, if_true] at h
      simp [rowBlk] at h; exact ⟨rfl, h.symm⟩
    | succ j => simp [lk, Blk.live] at h
  have hag : ∀ i, i ≠ base → Agree G (G.put base ⟨w.heap.size, 0, none⟩ (.slice (some ⟨w.heap.size, 0, none⟩) 1 1)) i := fun i hi => Gh.put_agree _ _ _ _ _ hi
  refine ⟨hb, fun i hi => hag i (by simp at hi; omega), fun _ h => h, fun _ h => .inl h, fun j => ?_, fun j k x hjk h1 h2 => ?_, fun j x h => ?_⟩
  · cases j with
    | zero =>
      refine ⟨?_, [], cells.toList, ?_, rfl, fun _ => CellsR.keep (G := G) (G' := G.put base ⟨w.heap.size, 0, none⟩ (.slice (some ⟨w.heap.size, 0, none⟩) 1 1)) ⟨hb.size, fun b h hlt => hb.block b hlt, fun _ h => h⟩ c _ (fun r hh => hag r (by have := hr r hh; omega)) hc, fun h => by cases h⟩
      · intro g o n cap hv hcap
        simp only [Gh.put, Nat.add_zero, if_true] at hv ⊢
        obtain ⟨h1, _, _⟩ := Value.slice.inj hv
        exact Option.some.inj h1
      · simp only [Gh.put, Nat.add_zero, if_true]
        refine .inr ⟨w.heap.size, [], 1, [], rfl, by omega, Nat.le_refl _, ?_, by simp [lstN], by unfold maxLen; omega, by simp [lstN]; simpa using hl, by simp; simpa using hl⟩
        refine ⟨(0, 0), ?_, .inl rfl⟩
        simp only [List.nil_append, List.append_nil]
        rw [alloc_new]
    | succ j => simp [lk, BlkR]
  · have := hl0 j x h1; have := hl0 k x h2; omega
  · obtain ⟨_, rfl⟩ := hl0 j x h
    exact ⟨Nat.le_refl _, by omega, fun hf => by have := hfz _ hf; omega⟩
def bldFx (P : Program) (ts : List AV) (n : Nat) (o : Oper) : Option (Blk × Prop) :=
  match o.op with
  | .buildSlice t 1 parts =>
    match P.underlying t with
    | some (.slice el) =>
      match P.info? el, shOf P 12 el with
      | some inf, some e =>
        match inf.zero with
        | some z =>
          if decide (inf.size = e.size) && (decide (0 < inf.size) && (decide (inf.size ≤ 16777216) && (AV.st (.cons (zav P 12 el) .nil)).chk (zeroRow z.cells (1 * inf.size)).toList)) then
            match setParts (fun i => if i = 0 then some (.fld 0 0, inf.size) else none) ts parts.toList (.st (.cons (zav P 12 el) .nil)) with
            | some (.st (.cons c .nil), C) => if (decide (c.size = e.size) && refsLt n c) = true then some (.rowl el e [] (some (true, c)), C) else none
            | _ => none
          else none
        | none => none
      | _, _ => none
    | _ => none
  | _ => none
theorem bldFx_ok {P : Program} {o : Oper} {ts : List AV} {mem : List Blk} {base : Nat} {b : Blk} {C : Prop} (h : bldFx P ts base o = some (b, C)) : PureOp P o ts mem base (.row base) [b] C := by
  unfold bldFx at h
  split at h
  · rename_i t parts ho
    split at h
    · rename_i el hut
      split at h
      · rename_i inf e hinf hsh
        split at h
        · rename_i z hz
          split at h
          · rename_i hcond
            simp only [Bool.and_eq_true, decide_eq_true_eq] at hcond
            obtain ⟨hsz, hpos, h24, hchk⟩ := hcond
            split at h
            · rename_i c D hset
              split at h
              · rename_i hcr
                simp only [Bool.and_eq_true, decide_eq_true_eq] at hcr
                obtain ⟨hcs, href⟩ := hcr
                simp only [Option.some.injEq, Prod.mk.injEq] at h
                obtain ⟨rfl, rfl⟩ := h
                intro B w G a hC hm ht hrt hrm next Q hn
                have hmap : (parts.map fun (i, x) => (i, a.eval x)).toList = parts.toList.map fun (i, x) => (i, a.eval x) := by simp
                obtain ⟨cells, h1, h2⟩ := setParts_ok (w := w) (G := G) ht (fun i => if i = 0 then some (.fld 0 0, inf.size) else none) (fun i => some (i * inf.size, inf.size)) (fun i s n hp => by
                  split at hp
                  · rename_i h0
                    simp only [Option.some.injEq, Prod.mk.injEq] at hp
                    obtain ⟨rfl, rfl⟩ := hp
                    simp [offs, h0]
                  · cases hp) _ _ _ _ _ hset hC (AV.chk_ok _ _ hchk)
                obtain ⟨c1, c2, e1, hc1, hc2⟩ := (show ∃ c1 c2, cells.toList = c1 ++ c2 ∧ CellsR w G c c1 ∧ CellsR w G .nil c2 from h2)
                obtain rfl : c2 = [] := hc2
                rw [List.append_nil] at e1
                have hrun : (execOp a.eval o).run P w = .ok (.value (.slice (some ⟨w.heap.size, 0, none⟩) 1 1)) (w.alloc (.cells cells el)) := by
                  have h0 : ¬ 1 * inf.size = 0 := by omega
                  have hfill : Instr.fill (fun i => some (i * inf.size, inf.size)) ((Array.range (1 * inf.size)).map (fun i => z.cells[i % z.cells.size]!)) (parts.map fun (i, x) => (i, a.eval x)).toList = some cells := by
                    rw [hmap]; exact h1
                  simp only [execOp, ho, Instr.buildSlice, Sem.run_bind, run_underlying hut, Result.andThen_ok, run_sz hinf]
                  rw [if_neg (show ¬ 1 * inf.size > 2 ^ 24 by have : (2 : Nat) ^ 24 = 16777216 := by decide
                                                              omega)]
                  simp only [h0, if_false, Sem.run_bind, run_zero hinf hz, Sem.run_pure, Result.andThen_ok] at hfill ⊢
                  rw [hfill]
                  simp only [newObj, Go.newRow, Sem.run_bind, Sem.run, Result.andThen]
                  rfl
                unfold Oper.wp
                rw [hrun]
                refine hn _ _ _ (newRowL (by rw [e1]; exact hc1) (by rw [e1, CellsR.length c c1 hc1, hcs]) hm.fz (fun r hr => refsLt_ok href r hr)) ?_
                show [Value.slice _ _ _] = [_] ∧ _
                simp [Gh.put, Value.oneCell']
              · cases h
            · cases h
          · cases h
        · cases h
      · cases h
    · cases h
  · cases h
end Go.Proofs.YtbpjinefbnlenaaGreatDoor
