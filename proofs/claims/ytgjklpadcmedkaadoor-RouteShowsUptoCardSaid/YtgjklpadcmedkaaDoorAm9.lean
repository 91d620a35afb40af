/- A machine of values, part 9: slice literals; calls of functions that write nothing; all pure operations. -/
import Derived.Test.YtgjklpadcmedkaaDoorAm8
import Derived.Laws.MakeOwn
namespace Go.Proofs.YtgjklpadcmedkaaDoor
open Go Go.RowKit
set_option linter.unusedVariables false

/-! 'buildSlice' -/
def zeroRow (z : Array Value) (n : Nat) : Array Value := (Array.range n).map (fun i => z[i % z.size]!)
def litOk (inf : TypeInfo) (e : Sh) (len : Nat) (z : Value) : Bool :=
  decide (inf.size = e.size) && (decide (len * inf.size ≤ 16777216) && (decide (len ≤ 16777216) && (AV.arr len e (List.replicate len e.dflt)).chk (zeroRow (if len * inf.size = 0 then #[] else z.cells) (len * inf.size)).toList))
def evBuildSlice (P : Program) (ts : List AV) (t : TypeId) (len : Nat) (parts : List (Nat × Operand)) : Option (Blk × Prop) :=
  match P.underlying t with
  | some (.slice el) =>
    match P.info? el, shOf P 12 el with
    | some inf, some e =>
      match inf.zero with
      | some z =>
        if litOk inf e len z = true then
          match setParts (fun i => some (.idx i inf.size, inf.size)) ts parts (.arr len e (List.replicate len e.dflt)) with
          | some (.arr m e' l, C) => if m = len then some (.row el e' l, C) else none
          | _ => none
        else none
      | none => none
    | _, _ => none
  | _ => none
theorem evBuildSlice_ok {P : Program} {o : Oper} {ts : List AV} {mem : List Blk} {base : Nat} {t : TypeId} {len : Nat} {parts : Array (Nat × Operand)} {b : Blk} {C : Prop} (ho : o.op = .buildSlice t len parts) (h : evBuildSlice P ts t len parts.toList = some (b, C)) :
    PureOp P o ts mem base (.row base) [b] C := by
  intro B w G a hC hm ht hrt hrm next Q hn
  have hmap : (parts.map fun (i, x) => (i, a.eval x)).toList = parts.toList.map fun (i, x) => (i, a.eval x) := by simp
  unfold evBuildSlice at h
  split at h
  · rename_i el hut
    split at h
    · rename_i inf e hinf hsh
      split at h
      · rename_i z hz
        split at h
        · rename_i hcond
          unfold litOk at hcond
          simp only [Bool.and_eq_true, decide_eq_true_eq] at hcond
          obtain ⟨hsz, h24, hlen24, hchk⟩ := hcond
          split at h
          · rename_i m e' l D hset
            split at h
            · rename_i hml
              subst hml
              simp only [Option.some.injEq, Prod.mk.injEq] at h
              obtain ⟨rfl, rfl⟩ := h
              obtain ⟨cells, h1, h2⟩ := setParts_ok (w := w) (G := G) ht (fun i => some (.idx i inf.size, inf.size)) (fun i => some (i * inf.size, inf.size)) (fun i s n hp => by
                simp only [Option.some.injEq, Prod.mk.injEq] at hp
                obtain ⟨rfl, rfl⟩ := hp
                simp [offs]) _ _ _ _ _ hset hC (AV.chk_ok _ _ hchk)
              obtain ⟨hlen, hcat⟩ := h2
              have hrun : (execOp a.eval o).run P w = .ok (.value (.slice (some ⟨w.heap.size, 0, none⟩) m m)) (w.alloc (.cells cells el)) := by
                have hfill : Instr.fill (fun i => some (i * inf.size, inf.size)) ((Array.range (m * inf.size)).map (fun i => (if m * inf.size = 0 then #[] else z.cells)[i % (if m * inf.size = 0 then #[] else z.cells).size]!)) (parts.map fun (i, x) => (i, a.eval x)).toList = some cells := by
                  rw [hmap]; exact h1
                simp only [execOp, ho, Instr.buildSlice, Sem.run_bind, run_underlying hut, Result.andThen_ok, run_sz hinf]
                rw [if_neg (show ¬ m * inf.size > 2 ^ 24 by have : (2 : Nat) ^ 24 = 16777216 := by decide
                                                            omega)]
                by_cases h0 : m * inf.size = 0
                · rw [if_pos h0] at hfill
                  simp only [h0, if_true, Sem.run_bind, Sem.run_pure, Result.andThen_ok] at hfill ⊢
                  rw [hfill]
                  simp only [newObj, Go.newRow, Sem.run_bind, Sem.run, Result.andThen]
                  rfl
                · rw [if_neg h0] at hfill
                  simp only [h0, if_false, Sem.run_bind, run_zero hinf hz, Sem.run_pure, Result.andThen_ok] at hfill ⊢
                  rw [hfill]
                  simp only [newObj, Go.newRow, Sem.run_bind, Sem.run, Result.andThen]
                  rfl
              unfold Oper.wp
              rw [hrun]
              have hmx : m ≤ maxLen := by unfold maxLen; omega
              refine hn _ _ _ (newRow hcat hlen hmx hm.fz) ?_
              show [Value.slice _ _ _] = [_] ∧ _
              simp [Gh.put, Value.oneCell']
            · cases h
          · cases h
        · cases h
      · cases h
    · cases h
  · cases h
/-! 'make' of a slice as long as it is wide -/
theorem made_get (z : Array Value) (N i : Nat) : (madeCells z N).toList[i]? = if i < N then some (z[i % z.size]!) else none := by
  unfold madeCells
  rw [Array.getElem?_toList, Array.getElem?_map]
  by_cases h : i < N
  · simp [h]
  · simp [h]
theorem made_cat {w : World} {fz : Nat → Prop} {e : Sh} {z : Array Value} (hz : ShR w fz e e.dflt z.toList) (h0 : 0 < e.size) : ∀ n : Nat, CatR (ShR w fz e) (List.replicate n e.dflt) (madeCells z (n * e.size)).toList
  | 0 => by
    show (madeCells z (0 * e.size)).toList = []
    apply List.length_eq_zero_iff.1
    rw [Array.length_toList, size_madeCells]; omega
  | n + 1 => by
    have hl := ShR.length e _ _ hz
    rw [Array.length_toList] at hl
    refine ⟨z.toList, (madeCells z (n * e.size)).toList, ?_, hz, made_cat hz h0 n⟩
    apply List.ext_getElem?
    intro i
    rw [made_get]
    rcases Nat.lt_or_ge i e.size with h | h
    · rw [List.getElem?_append_left (by rw [Array.length_toList]; omega), Nat.mod_eq_of_lt (by omega), if_pos (by rw [Nat.succ_mul]; omega), Array.getElem?_toList]
      simp [hl, h]
    · rw [List.getElem?_append_right (by rw [Array.length_toList]; omega), made_get, Array.length_toList, hl]
      have e1 : i % e.size = (i - e.size) % e.size := by rw [Nat.mod_eq_sub_mod h]
      have e2 : (i < (n + 1) * e.size) = (i - e.size < n * e.size) := by rw [Nat.succ_mul]; apply propext; omega
      rw [e1]
      simp only [e2]
def evMake (P : Program) (ts : List AV) (t : TypeId) (l c : Operand) : Option (Blk × Prop) :=
  match P.underlying t with
  | some (.slice el) =>
    match P.info? el, shOf P 12 el with
    | some inf, some e =>
      match inf.zero with
      | some z =>
        if (decide (inf.size = e.size) && (decide (0 < e.size) && (decide (inf.bytes ≤ 16384) && (e.av e.dflt).chk z.cells.toList))) = true then
          match ev ts l, ev ts c with
          | some (.int _ n), some (.int _ m) => some (.row el e (List.replicate n.toNat e.dflt), n = m ∧ (0 ≤ n ∧ n ≤ 17179869184))
          | _, _ => none
        else none
      | none => none
    | _, _ => none
  | _ => none
theorem evMake_ok {P : Program} {o : Oper} {ts : List AV} {mem : List Blk} {base : Nat} {t : TypeId} {l c : Operand} {b : Blk} {C : Prop} (ho : o.op = .makeSlice t l c) (h : evMake P ts t l c = some (b, C)) :
    PureOp P o ts mem base (.row base) [b] C := by
  intro B w G a hC hm ht hrt hrm next Q hn
  unfold evMake at h
  split at h
  · rename_i el hut
    split at h
    · rename_i inf e hinf hsh
      split at h
      · rename_i z hz
        split at h
        · rename_i hcond
          simp only [Bool.and_eq_true, decide_eq_true_eq] at hcond
          obtain ⟨hsz, h0, hby, hchk⟩ := hcond
          split at h
          · rename_i k1 n k2 m hl hc
            simp only [Option.some.injEq, Prod.mk.injEq] at h
            obtain ⟨rfl, rfl⟩ := h
            obtain ⟨rfl, hn0, hn1⟩ := hC
            have el1 := val_int (ev_ok ht hl)
            have ec1 := val_int (ev_ok ht hc)
            have hbytes : (inf.bytes : Int) * n ≤ 281474976710656 := by
              have h1 : (inf.bytes : Int) * n ≤ 16384 * n := Int.mul_le_mul_of_nonneg_right (by omega) hn0
              omega
            have hr := run_make (P := P) w t el inf z hut hinf hz k1 k2 n n hn0 (Int.le_refl _) hbytes (by omega)
            have hzc : ShR w G.fz e e.dflt z.cells.toList := (CellsR.av e e.dflt _).1 (AV.chk_ok _ _ hchk)
            have hcat := made_cat hzc h0 n.toNat
            have hmx : n.toNat ≤ maxLen := by unfold maxLen; omega
            unfold Oper.wp
            simp only [execOp, ho, el1, ec1, Sem.run_bind, hr, Result.andThen_ok, Sem.run_pure]
            rw [hsz]
            refine hn _ _ _ (newRow hcat (by simp) hmx hm.fz) ?_
            show [Value.slice _ _ _] = [_] ∧ _
            simp [Gh.put, Value.oneCell']
          · cases h
        · cases h
      · cases h
    · cases h
  · cases h
end Go.Proofs.YtgjklpadcmedkaaDoor
