/- A machine of values, part 30: the rules in short forms, for small texts. -/
import Derived.Test.YtbpjinefbnlenaaGreatDoorAm27
namespace Go.Proofs.YtbpjinefbnlenaaGreatDoor
open Go Go.RowKit
set_option linter.unusedVariables false

def trs : Nat → Prop
  | 0 => True
  | n + 1 => True ∧ trs n
theorem tn : (n : Nat) → trs n
  | 0 => trivial
  | n + 1 => ⟨trivial, tn n⟩
def trc : Nat → Prop → Prop
  | 0, C => C
  | n + 1, C => True ∧ trc n C
theorem an {C : Prop} : (n : Nat) → C → trc n C
  | 0, h => h
  | n + 1, h => ⟨trivial, an n h⟩
section
variable {P : Program} {w0 : World} {fz0 : Nat → Prop} {st : St} {Q : Exit → Act → World → Prop} {ops : Array Oper} {k : Nat}
theorem TS.rg {id : Nat} {C : Prop} (hs : List Hint) (hq : C) (e : okR P ops hs st = C) (hn : XS P w0 fz0 .normal (evR P ops hs st) Q) : TS P w0 fz0 (.region id ops false) st Q := TS.reg hs (prop_of e hq) hn
theorem TS.sq {id : Nat} {b : Code} {C : Prop} (hs : List Hint) (hq : C) (e : okR P ops hs st = C) (hn : TS P w0 fz0 b (evR P ops hs st) Q) : TS P w0 fz0 (.seq (.region id ops false) b) st Q := TS.seq (TS.reg hs (prop_of e hq) (XS.then hn))
theorem TOS.rn {C : Prop} (m : Nat) (hs : List Hint) (hm : Nat.ble (k + m) ops.size = true) (hq : C) (e : okK P ops k m hs st = C) (hn : TOS P w0 fz0 ops (k + m) (evK P ops k m hs st) Q) : TOS P w0 fz0 ops k st Q := TOS.run m hs hm (prop_of e hq) hn
theorem TS.dw {id : Nat} {C : Prop} (m : Nat) (kill : List (Nat × Nat)) (hs : List Hint) (hmo : P.follows .mixedOrders = true) (hq : C) (e : drOk P m kill ops hs st = C) (hn : XS P w0 fz0 .normal (drR P m kill ops hs st) Q) : TS P w0 fz0 (.region id ops true) st Q := TS.draw m kill hs hmo (prop_of e hq) hn
theorem TS.ct {c : Operand} {x y : Code} {b : Bool} (hb : b = true) (hc : ev st.1 c = some (.bool b)) (ht : TS P w0 fz0 x st Q) : TS P w0 fz0 (.cond c x y) st Q := TS.cond b hc (fun _ => ht) (fun h => by rw [hb] at h; cases h)
theorem TS.cf {c : Operand} {x y : Code} {b : Bool} (hb : b = false) (hc : ev st.1 c = some (.bool b)) (hf : TS P w0 fz0 y st Q) : TS P w0 fz0 (.cond c x y) st Q := TS.cond b hc (fun h => by rw [hb] at h; cases h) (fun _ => hf)
theorem TS.cu {D R : Type} (F : D → Option R) (r : R) {c : Code} (tm : D → St) (h1 : ∀ d, F d = some r → XS P w0 fz0 .normal (tm d) Q) (h2 : TS P w0 fz0 c st (Exit.then (AnyS P w0 fz0 tm (fun d => F d = some r)) Q)) : TS P w0 fz0 c st Q := TS.cut tm _ h1 h2
theorem XS.ra {D R : Type} {F : D → Option R} {r : R} {tm : D → St} {d : D} (keep : List Nat) (mask : List Bool) (hi : F d = some r) (h : Go.Proofs.YtbpjinefbnlenaaGreatDoor.re keep mask st.1 st.2 = some (tm d)) : XS P w0 fz0 .normal st (Exit.then (AnyS P w0 fz0 tm (fun d => F d = some r)) Q) := XS.reAny keep mask d hi h
theorem TS.lp {D R : Type} {F : (D → Option R) → D → Option R} {n : Nat} {d : D} {r : R} {c : Code} (keep : List Nat) (mask : List Bool) (tm : D → St) (h : loopF F n d = some r) (h1 : Go.Proofs.YtbpjinefbnlenaaGreatDoor.re keep mask st.1 st.2 = some (tm d))
    (round : ∀ n d, F (loopF F n) d = some r → TS P w0 fz0 c (tm d) (Exit.then (AnyS P w0 fz0 tm (fun d => loopF F n d = some r)) Q)) : TS P w0 fz0 (.loop c) st Q := TS.reLoop keep mask tm (fun n d => loopF F n d = some r) n d h h1 (fun d => loopF_zero _ d r) round
theorem XS.fn {fn : Func} {res : AV} {new : List Blk} {C : Prop} (keep : List Nat) (hC : C) (h : finChk P keep st.1 st.2 fn.results.toList = some (res, new, C)) : XS P w0 fz0 .ret st (Fin P fn w0 fz0 res new) := XS.fin keep C h hC
def savT : Blk → List AV
  | .sav ts _ => ts
  | _ => []
def bkS (P : Program) (fn : Func) (d : Option Tmp) (j : Nat) (st : St) : St :=
  match backSt P fn d j (savT (lk st.2 j)) st with
  | some x => x.1
  | none => ([], [])
def bkC (P : Program) (fn : Func) (d : Option Tmp) (j : Nat) (st : St) : Option Prop :=
  match backSt P fn d j (savT (lk st.2 j)) st with
  | some x => some x.2
  | none => none
theorem XS.bk {fn : Func} {d : Option Tmp} {a : Act} {K : Act → World → Prop} {C : Prop} (j : Nat) (hC : C) (hj : lk st.2 j = .sav (savT (lk st.2 j)) a) (h : bkC P fn d j st = some C) (hn : KS P w0 fz0 K (bkS P fn d j st)) : XS P w0 fz0 .ret st (Back P fn d a K) ∧ XS P w0 fz0 .normal st (Back P fn d a K) := by
  unfold bkC at h
  unfold bkS at hn
  cases hb : backSt P fn d j (savT (lk st.2 j)) st with
  | none => rw [hb] at h; cases h
  | some x =>
    obtain ⟨st', C'⟩ := x
    rw [hb] at h hn
    obtain rfl : C' = C := Option.some.inj h
    exact XS.back j _ st' C' hj hb hC hn
theorem XS.bR {fn : Func} {d : Option Tmp} {a : Act} {K : Act → World → Prop} {C : Prop} (j : Nat) (hC : C) (hj : lk st.2 j = .sav (savT (lk st.2 j)) a) (h : bkC P fn d j st = some C) (hn : KS P w0 fz0 K (bkS P fn d j st)) : XS P w0 fz0 .ret st (Back P fn d a K) := (XS.bk j hC hj h hn).1
theorem XS.bN {fn : Func} {d : Option Tmp} {a : Act} {K : Act → World → Prop} {C : Prop} (j : Nat) (hC : C) (hj : lk st.2 j = .sav (savT (lk st.2 j)) a) (h : bkC P fn d j st = some C) (hn : KS P w0 fz0 K (bkS P fn d j st)) : XS P w0 fz0 .normal st (Back P fn d a K) := (XS.bk j hC hj h hn).2
end
end Go.Proofs.YtbpjinefbnlenaaGreatDoor
