/- A machine of values, part 14d: a call that takes a row and hands back another one. -/
import Derived.Test.YtbpjinefbnlenaaGreatDoorAm14b
namespace Go.Proofs.YtbpjinefbnlenaaGreatDoor
open Go Go.RowKit
set_option linter.unusedVariables false

/-- as MvC; the elements of what is handed back are data of the world ahead of the call -/
def MvC2 (P : Program) (f : Nat) (T : TypeId) (e : Sh) (l : List e.T) (ms : List (MA e)) (l' : List e.T) : Prop :=
  ∀ (B : Nat) (w : World) (fz : Nat → Prop) (v : Value) (cs vs : List Value), Bs B w → (∀ b, fz b → b < w.heap.size) → (∀ g, rowBlk v = some g → ¬ fz g) → RowV B w T e.size v l.length cs → CatR (ShR w fz e) l cs → MARs w fz (rowBlk v) e ms vs →
    Calls P f (v :: vs).toArray w fun x w' => ∃ u, x = .returned u ∧ (∃ cs', RowV B w' T e.size u l'.length cs' ∧ CatR (ShR w fz e) l' cs') ∧ Below B w w' ∧ (∀ g, g < w.heap.size → rowBlk v ≠ some g → w'.heap[g]? = w.heap[g]?) ∧ (∀ g, rowBlk u = some g → rowBlk v = some g ∨ w.heap.size ≤ g)
def evMv (P : Program) (ts : List AV) (mem : List Blk) (x : Operand) (args : List Operand) (e : Sh) (l' : List e.T) : Option (Option Nat × Blk × Prop) :=
  match rowArg ts mem e x args with
  | some (g, r, T, l, ms) => if callable P g = true then some (some r, .row T e l', MvC2 P g T e l ms l') else none
  | none => none
theorem evMv_ok {P : Program} {o : Oper} {ts : List AV} {mem : List Blk} {x : Operand} {args : Array Operand} {tys : Array TypeId} {e : Sh} {l' : List e.T} {old : Option Nat} {row : Blk} {C : Prop} (ho : o.op = .call { callee := .value x, args := args, argTypes := tys }) (h : evMv P ts mem x args.toList e l' = some (old, row, C))
    (base : Nat) (B : Nat) (w : World) (G : Gh) (a : Act) (hC : C) (hm : MemR B w G mem) (ht : TmpsR w G ts a) (hrb : ∀ i r, r ∈ (lk mem i).refs → r ≠ base) (next : Act → World → Prop) (Q : Exit → Act → World → Prop)
    (hn : ∀ v w' G', Below B w w' → Keeps G.fz G'.fz w w' → (∀ i, i ≠ base → Agree G G' i) → G'.fz = G.fz → ValR w' G' (.row base) v → MemR B w' G' (memPut (killO mem old) base [row]) → next (a.put o.dst v) w') : o.wp P a w next Q := by
  unfold evMv at h
  split at h
  · rename_i g r T l ms hra
    split at h
    · rename_i hcall
      simp only [Option.some.injEq, Prod.mk.injEq] at h
      obtain ⟨rfl, rfl, rfl⟩ := h
      obtain ⟨hlk, vs, cs, hrun, hrow, hcat, hma⟩ := rowArg_ok (P := P) hm ht ho hra hcall
      have hlive : (lk mem r).live G r = rowBlk (G.rowv r) := by rw [hlk]; rfl
      have hnd : lk mem r ≠ .dead := by rw [hlk]; exact fun h => by cases h
      have hrl : r < mem.length := lk_lt hnd
      unfold Oper.wp
      rw [hrun]
      refine (hC B w G.fz (G.rowv r) cs vs hm.base hm.fz (fun g hg => (hm.own r g (by rw [hlive]; exact hg)).2.2) hrow hcat hma).mono ?_
      rintro ex w' ⟨u, rfl, ⟨cs', hrow', hcat'⟩, hbel, hfr, hnew⟩
      obtain ⟨G', g1, g2, g3, g4, g5⟩ := hm.newRowAt (l := l') base (mem0 := mem.set r .dead) (old := rowBlk (G.rowv r)) (fun i => by
          rw [lk_set]; split
          · exact .inr rfl
          · exact .inl rfl) (fun i g hg hi => by
          rw [lk_set] at hi
          split at hi
          · cases hi
          · rename_i hir
            exact hm.apart i r g (fun e => hir ⟨e, hrl⟩) hi (by rw [hlive]; exact hg)) (fun g hg => (hm.own r g (by rw [hlive]; exact hg)).2.2) hrb hbel hfr hrow' hnew hcat'
      refine hn u w' G' hbel g2 g3 g5 ?_ g1
      show [u] = [G'.rowv base] ∧ _
      rw [g4]
      exact ⟨rfl, hrow'.one⟩
    · cases h
  · cases h
theorem evMv_mono {P : Program} {ts : List AV} {mem mem' : List Blk} {x : Operand} {args : List Operand} {e : Sh} {l' : List e.T} {q : Option Nat × Blk × Prop} (he : evMv P ts mem x args e l' = some q) (hm : ∀ i, lk mem i = lk mem' i ∨ lk mem i = .dead) : evMv P ts mem' x args e l' = some q := by
  unfold evMv at he
  split at he
  · rename_i hra
    unfold evMv
    simp only [rowArg_mono hra hm]
    exact he
  · cases he
/-- an operation that makes a row out of another one: append, or a call that takes it -/
def evGrow (P : Program) (ts : List AV) (mem : List Blk) (o : Oper) (h : Hint) : Option (Option Nat × Blk × Prop) :=
  match o.op with
  | .call { callee := .builtin .append, args := args, argTypes := tys } =>
    match args.toList, tys.toList with
    | [s, x], [t, t'] => if t = t' then evAppL P ts mem s x t else none
    | _, _ => none
  | .call { callee := .value x, args := args, argTypes := _ } =>
    match h with
    | .mv e l' => evMv P ts mem x args.toList e l'
    | _ => none
  | _ => none
theorem evGrow_mono {P : Program} {ts : List AV} {mem mem' : List Blk} {o : Oper} {h : Hint} {q : Option Nat × Blk × Prop} (he : evGrow P ts mem o h = some q) (hm : ∀ i, lk mem i = lk mem' i ∨ lk mem i = .dead) : evGrow P ts mem' o h = some q := by
  unfold evGrow at he ⊢
  split at he
  · rename_i args tys ho
    split at he
    · rename_i hargs htys
      split at he
      · rename_i htt
        first | exact evAppL_mono he hm | (rw [if_pos htt]; exact evAppL_mono he hm)
      · cases he
    · cases he
  · rename_i x args tys ho
    split at he
    · exact evMv_mono he hm
    · cases he
  · cases he
theorem evGrow_ok {P : Program} {o : Oper} {ts : List AV} {mem : List Blk} {hh : Hint} {old : Option Nat} {row : Blk} {C : Prop} (h : evGrow P ts mem o hh = some (old, row, C))
    (base : Nat) (B : Nat) (w : World) (G : Gh) (a : Act) (hC : C) (hm : MemR B w G mem) (ht : TmpsR w G ts a) (hrb : ∀ i r, r ∈ (lk mem i).refs → r ≠ base) (next : Act → World → Prop) (Q : Exit → Act → World → Prop)
    (hn : ∀ v w' G', Below B w w' → Keeps G.fz G'.fz w w' → (∀ i, i ≠ base → Agree G G' i) → G'.fz = G.fz → ValR w' G' (.row base) v → MemR B w' G' (memPut (killO mem old) base [row]) → next (a.put o.dst v) w') : o.wp P a w next Q := by
  unfold evGrow at h
  split at h
  · rename_i args tys ho
    split at h
    · rename_i s x t t' hargs htys
      split at h
      · rename_i htt
        subst htt
        rw [arr2 hargs, arr2 htys] at ho
        exact evAppL_ok ho h base B w G a hC hm ht hrb next Q hn
      · cases h
    · cases h
  · rename_i x args tys ho
    split at h
    · exact evMv_ok ho h base B w G a hC hm ht hrb next Q hn
    · cases h
  · cases h
end Go.Proofs.YtbpjinefbnlenaaGreatDoor
