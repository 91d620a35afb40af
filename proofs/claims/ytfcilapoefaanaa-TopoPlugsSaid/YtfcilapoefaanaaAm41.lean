/- A machine of values, part 41: a call that takes a row and hands back another one, as a step of a walk. -/
import Derived.Test.YtfcilapoefaanaaAm39
namespace Go.Proofs.Ytfcilapoefaanaa
open Go Go.RowKit
set_option linter.unusedVariables false

def mvFx (P : Program) (ts : List AV) (mem : List Blk) (o : Oper) (h : Hint) : Option (AV × List Blk × Prop) :=
  match o.op with
  | .call { callee := .value x, args := args, argTypes := _ } =>
    match h with
    | .mv e l' =>
      match evMv P ts mem x args.toList e l' with
      | some (some r, .row T e2 l2, C) => some (.row mem.length, mem.set r .dead ++ [.row T e2 l2], C)
      | _ => none
    | _ => none
  | _ => none
theorem mvFx_ok {P : Program} {ts : List AV} {mem mem' : List Blk} {o : Oper} {hh : Hint} {av : AV} {C : Prop} (h : mvFx P ts mem o hh = some (av, mem', C)) :
    EffOp P o ts mem (tput ts o.dst av) mem' C ∧ mem'.length = mem.length + 1 ∧ av = .row mem.length ∧ ∀ i r, r ∈ (lk mem' i).refs → r ∈ (lk mem i).refs := by
  unfold mvFx at h
  split at h
  · rename_i x args tys ho
    split at h
    · rename_i e l'
      split at h
      · rename_i r T e2 l2 D hmv
        simp only [Option.some.injEq, Prod.mk.injEq] at h
        obtain ⟨rfl, rfl, rfl⟩ := h
        have hput : memPut (mem.set r .dead) mem.length [.row T e2 l2] = mem.set r .dead ++ [.row T e2 l2] := by
          have := memPut_end (mem.set r .dead) [.row T e2 l2]
          rwa [List.length_set] at this
        refine ⟨?_, by simp, rfl, fun i q hq => ?_⟩
        · intro B w G a hC hm ht hrt hrm next Q hn
          refine evMv_ok ho hmv mem.length B w G a hC hm ht (fun i r hr => by have := hrm i r hr; omega) next Q fun v w' G' hbel hkp hag hfz hv hm' => ?_
          have hm2 : MemR B w' G' (memPut (mem.set r .dead) mem.length [.row T e2 l2]) := hm'
          rw [hput] at hm2
          exact hn _ w' G' hbel ⟨fun b h => by rw [hfz]; exact h, fun b h => .inl (by rw [hfz] at h; exact h)⟩ hm2 ((ht.keep hkp (fun t r hr => hag r (by have := hrt t r hr; omega))).put _ hv) (put_defers _ _ _)
        · rw [← hput, lk_memPut] at hq
          split at hq
          · rename_i hi
            have : i = mem.length := by simp at hi; omega
            subst this
            rw [Nat.sub_self] at hq
            cases hq
          · rw [lk_set] at hq
            split at hq
            · cases hq
            · exact hq
      · cases h
    · cases h
  · cases h
def mvK (P : Program) (ops : Array Oper) (hh : Hint) (k : Nat) (st : St) : Option (St × Prop) :=
  match ops[k]? with
  | some o =>
    match evGuard ops.toList st.1 o with
    | some true =>
      match mvFx P st.1 st.2 o hh with
      | some (av, mem, C) => some ((tput st.1 o.dst av, mem), C)
      | none => none
    | _ => none
  | none => none
def mvSt (P : Program) (ops : Array Oper) (hh : Hint) (k : Nat) (st : St) : St := match mvK P ops hh k st with | some x => x.1 | none => ([], [])
def mvCo (P : Program) (ops : Array Oper) (hh : Hint) (k : Nat) (st : St) : Prop := match mvK P ops hh k st with | some x => x.2 | none => False
theorem TOS.mv {P : Program} {w0 : World} {fz0 : Nat → Prop} {st : St} {Q : Exit → Act → World → Prop} {ops : Array Oper} {k : Nat} (hh : Hint) {C : Prop} (hq : C) (h : mvCo P ops hh k st = C) (hn : TOS P w0 fz0 ops (k + 1) (mvSt P ops hh k st) Q) : TOS P w0 fz0 ops k st Q := by
  subst h
  unfold mvCo at hq
  unfold mvSt at hn
  cases hk : mvK P ops hh k st with
  | none => rw [hk] at hq; exact hq.elim
  | some x =>
    obtain ⟨st', C⟩ := x
    rw [hk] at hq hn
    unfold mvK at hk
    split at hk
    · rename_i o hok
      split at hk
      · rename_i hg
        split at hk
        · rename_i av mem C' hfx
          simp only [Option.some.injEq, Prod.mk.injEq] at hk
          obtain ⟨rfl, rfl⟩ := hk
          obtain ⟨h1, h2, h3, h4⟩ := mvFx_ok hfx
          refine TOS.ofEff _ hok hg h1 (fun hr => ?_) (fun hr i q hq' => ?_) hq hn
          · rw [h3]
            exact tput_refs hr (by simp only [h2]; omega) (by simp only [h2]; intro r hr'; simp only [AV.refs, List.mem_singleton] at hr'; omega)
          · simp only [h2]
            have := hr i q (h4 i q hq'); omega
        · cases hk
      · cases hk
    · cases hk
end Go.Proofs.Ytfcilapoefaanaa
