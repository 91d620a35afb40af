/- A machine of values, part 9: slice literals; calls of functions that write nothing; all pure operations. -/
import Derived.Test.YtbeilpecdimheaaAm8
namespace Go.Proofs.Ytbeilpecdimheaa
open Go Go.RowKit
set_option linter.unusedVariables false

/-! 'buildSlice' -/
def zeroRow (z : Array Value) (n : Nat) : Array Value := (Array.range n).map (fun i => z[i % z.size]!)
def litOk (inf : TypeInfo) (e : Sh) (len : Nat) (z : Value) : Bool :=
  decide (inf.size = e.size) && (decide (len * inf.size ≤ 16777216) && (decide (len ≤ 16777216) && (AV.arr len e (List.replicate len e.dflt)).chk (zeroRow (if len * inf.size = 0 then #[] else z.cells) (len * inf.size)).toList))
def evBuildSlice (P : Program) (ts : List AV) (t : TypeId) (len : Nat) (parts : List (Nat × Operand)) : Option (Blk × Prop) :=
  match P.underlying t with
  | some (.slice el) =>
    match P.info? el, shOf P 12 el with
    | some inf, some e =>
      match inf.zero with
      | some z =>
        if litOk inf e len z = true then
          match setParts (fun i => some (.idx i inf.size, inf.size)) ts parts (.arr len e (List.replicate len e.dflt)) with
          | some (.arr m e' l, C) => if m = len then some (.row el e' l, C) else none
          | _ => none
        else none
      | none => none
    | _, _ => none
  | _ => none
theorem evBuildSlice_ok {P : Program} {o : Oper} {ts : List AV} {mem : List Blk} {base : Nat} {t : TypeId} {len : Nat} {parts : Array (Nat × Operand)} {b : Blk} {C : Prop} (ho : o.op = .buildSlice t len parts) (h : evBuildSlice P ts t len parts.toList = some (b, C)) :
    PureOp P o ts mem base (.row base) [b] C := by
  intro B w G a hC hm ht hrt hrm next Q hn
  have hmap : (parts.map fun (i, x) => (i, a.eval x)).toList = parts.toList.map fun (i, x) => (i, a.eval x) := by simp
  unfold evBuildSlice at h
  split at h
  · rename_i el hut
    split at h
    · rename_i inf e hinf hsh
      split at h
      · rename_i z hz
        split at h
        · rename_i hcond
          unfold litOk at hcond
          simp only [Bool.and_eq_true, decide_eq_true_eq] at hcond
          obtain ⟨hsz, h24, hlen24, hchk⟩ := hcond
          split at h
          · rename_i m e' l D hset
            split at h
            · rename_i hml
              subst hml
              simp only [Option.some.injEq, Prod.mk.injEq] at h
              obtain ⟨rfl, rfl⟩ := h
              obtain ⟨cells, h1, h2⟩ := setParts_ok (w := w) (G := G) ht (fun i => some (.idx i inf.size, inf.size)) (fun i => some (i * inf.size, inf.size)) (fun i s n hp => by
                simp only [Option.some.injEq, Prod.mk.injEq] at hp
                obtain ⟨rfl, rfl⟩ := hp
                simp [offs]) _ _ _ _ _ hset hC (AV.chk_ok _ _ hchk)
              obtain ⟨hlen, hcat⟩ := h2
              have hrun : (execOp a.eval o).run P w = .ok (.value (.slice (some ⟨w.heap.size, 0, none⟩) m m)) (w.alloc (.cells cells el)) := by
                have hfill : Instr.fill (fun i => some (i * inf.size, inf.size)) ((Array.range (m * inf.size)).map (fun i => (if m * inf.size = 0 then #[] else z.cells)[i % (if m * inf.size = 0 then #[] else z.cells).size]!)) (parts.map fun (i, x) => (i, a.eval x)).toList = some cells := by
                  rw [hmap]; exact h1
                simp only [execOp, ho, Instr.buildSlice, Sem.run_bind, run_underlying hut, Result.andThen_ok, run_sz hinf]
                rw [if_neg (show ¬ m * inf.size > 2 ^ 24 by have : (2 : Nat) ^ 24 = 16777216 := by decide
                                                            omega)]
                by_cases h0 : m * inf.size = 0
                · rw [if_pos h0] at hfill
                  simp only [h0, if_true, Sem.run_bind, Sem.run_pure, Result.andThen_ok] at hfill ⊢
                  rw [hfill]
                  simp only [newObj, Go.newRow, Sem.run_bind, Sem.run, Result.andThen]
                  rfl
                · rw [if_neg h0] at hfill
                  simp only [h0, if_false, Sem.run_bind, run_zero hinf hz, Sem.run_pure, Result.andThen_ok] at hfill ⊢
                  rw [hfill]
                  simp only [newObj, Go.newRow, Sem.run_bind, Sem.run, Result.andThen]
                  rfl
              unfold Oper.wp
              rw [hrun]
              have hmx : m ≤ maxLen := by unfold maxLen; omega
              refine hn _ _ _ (newRow hcat hlen hmx hm.fz) ?_
              show [Value.slice _ _ _] = [_] ∧ _
              simp [Gh.put, Value.oneCell']
            · cases h
          · cases h
        · cases h
      · cases h
    · cases h
  · cases h
end Go.Proofs.Ytbeilpecdimheaa
