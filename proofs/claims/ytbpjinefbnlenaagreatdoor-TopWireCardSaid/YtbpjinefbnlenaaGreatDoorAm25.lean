/- A machine of values, part 25: a call whose code is walked where it stands. -/
import Derived.Test.YtbpjinefbnlenaaGreatDoorAm24
namespace Go.Proofs.YtbpjinefbnlenaaGreatDoor
open Go Go.RowKit
set_option linter.unusedVariables false

/-- where a call's code ends: what the caller goes on with -/
def Back (P : Program) (fn : Func) (d : Option Tmp) (a : Act) (K : Act → World → Prop) : Exit → Act → World → Prop :=
  bodyPost P fn fun e w' => ∃ v, e = .returned v ∧ K (a.put d v) w'
def maskTs : List AV → List Bool → List AV
  | [], _ => []
  | a :: l, m => (if m.headD false then a else .unk) :: maskTs l m.tail
theorem maskTs_length : ∀ (l : List AV) (m : List Bool), (maskTs l m).length = l.length
  | [], _ => rfl
  | a :: l, m => by simp [maskTs, maskTs_length l]
theorem maskTs_get : ∀ (l : List AV) (m : List Bool) (t : Nat), (maskTs l m).getD t .unk = l.getD t .unk ∨ (maskTs l m).getD t .unk = .unk
  | [], m, t => .inr rfl
  | a :: l, m, 0 => by
    simp only [maskTs, List.getD_cons_zero]
    split
    · exact .inl rfl
    · exact .inr rfl
  | a :: l, m, t + 1 => by simpa [maskTs] using maskTs_get l m.tail t
/-- the state in which the called code begins -/
def callSt (P : Program) (o : Oper) (f nt : Nat) (mask : List Bool) (ts : List AV) (mem : List Blk) (a : Act) : Option St :=
  match o.op with
  | .call { callee := .value x, args := args, argTypes := _ } =>
    match ev ts x, evArgs ts args.toList with
    | some (.fn g caps), some as =>
      match capsL caps with
      | some cs =>
        if g = f ∧ (callable P g && (cs.all (·.flat) && ((as ++ cs).all (fun x => refsLt mem.length x && notTup x) && (maskTs ts mask).all (refsLt mem.length)))) = true then
          some ((as ++ cs) ++ List.replicate (nt - (as ++ cs).length) .unk, mem ++ [.sav (maskTs ts mask) a])
        else none
      | none => none
    | _, _ => none
  | _ => none
theorem args_tmps {w : World} {G : Gh} : ∀ (l : List AV) (vs : List Value), (∀ a ∈ l, notTup a = true) → ArgsR w G l vs → ∀ t, t < l.length → ValR w G (l.getD t .unk) (vs.getD t undef)
  | [], vs, _, _, t, ht => by simp at ht
  | a :: l, vs, hn, hA, t, ht => by
    obtain ⟨v, t', rfl, h1, h2⟩ := hA
    cases t with
    | zero => exact ValR.of0 h1 (notTup_ok (hn a (by simp)))
    | succ t => simpa using args_tmps l t' (fun x hx => hn x (by simp [hx])) h2 t (by simpa using ht)
theorem enter_tmps {w : World} {G : Gh} {l : List AV} {vs : List Value} (n : Nat) (hn : ∀ a ∈ l, notTup a = true) (hA : ArgsR w G l vs) : TmpsR w G (l ++ List.replicate (n - l.length) .unk) { tmps := vs.toArray ++ Array.replicate (n - vs.toArray.size) undef, defers := [] } := by
  have hlen := args_length _ _ hA
  refine ⟨by simp [hlen], fun t => ?_⟩
  rcases Nat.lt_or_ge t l.length with h1 | h1
  · have := args_tmps l vs hn hA t h1
    have e1 : (l ++ List.replicate (n - l.length) AV.unk).getD t .unk = l.getD t .unk := by
      simp only [List.getD_eq_getElem?_getD, List.getElem?_append_left h1]
    have e2 : (vs.toArray ++ Array.replicate (n - vs.toArray.size) undef).getD t undef = vs.getD t undef := by
      have h2 : t < vs.toArray.size := by simp [hlen]; exact h1
      simp only [Array.getD_eq_getD_getElem?, List.getD_eq_getElem?_getD, Array.getElem?_append_left h2]
      simp
    rw [e1]
    show ValR w G (l.getD t .unk) ((vs.toArray ++ Array.replicate (n - vs.toArray.size) undef).getD t undef)
    rw [e2]
    exact this
  · have e1 : (l ++ List.replicate (n - l.length) AV.unk).getD t .unk = .unk := by
      simp only [List.getD_eq_getElem?_getD, List.getElem?_append_right h1, List.getElem?_replicate]
      split <;> rfl
    rw [e1]
    trivial
/-- one block more, that says what the caller keeps -/
theorem addSav_ok {B : Nat} {w0 : World} {fz0 : Nat → Prop} {ts ts' : List AV} {mem : List Blk} {G : Gh} {a : Act} {w : World} (hs : StR B w0 fz0 ts mem G a w) (mask : List Bool) (hr : (maskTs ts mask).all (refsLt mem.length) = true)
    {a' : Act} (ht : TmpsR w G ts' a') (hd : a'.defers = []) (hrt : ts'.all (refsLt mem.length) = true) : StR B w0 fz0 ts' (mem ++ [.sav (maskTs ts mask) a]) G a' w := by
  have hsav : ∀ r ∈ (Blk.sav (maskTs ts mask) a).refs, r < mem.length := by
    intro r h
    obtain ⟨x, hx, hr'⟩ := List.mem_flatMap.1 (show r ∈ (maskTs ts mask).flatMap AV.refs from h)
    rw [List.all_eq_true] at hr
    exact refsLt_ok (hr x hx) r hr'
  have hN : NewR w w G G mem.length [.sav (maskTs ts mask) a] := by
    refine ⟨Below.refl _ _, fun i hi => ⟨rfl, rfl⟩, fun _ h => h, fun _ h => .inl h, fun j => ?_, fun j k x hjk h => ?_, fun j x h => ?_⟩
    · cases j with
      | zero =>
        refine ⟨⟨by rw [maskTs_length]; exact hs.tmps.size, fun t => ?_⟩, hs.defers⟩
        rcases maskTs_get ts mask t with e | e
        · rw [e]; exact hs.tmps.val t
        · rw [e]; trivial
      | succ j => trivial
    · cases j <;> cases h
    · cases j <;> cases h
  have hm := hs.mem.more hN (fun i h1 _ => lk_big h1) (fun i r hr => .inl (hs.rm i r hr))
  rw [memPut_end] at hm
  refine ⟨fun t r h => ?_, fun i r h => ?_, ht, hm, hs.below, hd, hs.fz1, hs.fz2⟩
  · rw [List.length_append]
    rcases Nat.lt_or_ge t ts'.length with h1 | h1
    · rw [List.getD_eq_getElem?_getD, List.getElem?_eq_getElem h1] at h
      rw [List.all_eq_true] at hrt
      have := refsLt_ok (hrt ts'[t] (List.getElem_mem h1)) r h
      omega
    · rw [List.getD_eq_getElem?_getD, List.getElem?_eq_none h1] at h; cases h
  · rw [List.length_append]
    have h' : r ∈ (lk (memPut mem mem.length [.sav (maskTs ts mask) a]) i).refs := by rw [memPut_end]; exact h
    rw [lk_memPut] at h'
    split at h'
    · rename_i hh
      have : i - mem.length = 0 := by simp at hh; omega
      rw [this] at h'
      have := hsav r h'
      simp; omega
    · have := hs.rm i r h'; simp; omega
theorem TO.inl {P : Program} {B : Nat} {w0 : World} {fz0 : Nat → Prop} {ops : Array Oper} {k f : Nat} {ts : List AV} {mem : List Blk} {Q : Exit → Act → World → Prop} {o : Oper} {fn : Func} {c : Code} (mask : List Bool) (K : Act → World → Prop)
    (hok : ops[k]? = some o) (hg : evGuard ops.toList ts o = some true) (hf : P.funcs[f]? = some fn) (hb : fn.body = some c)
    (hK : ∀ a w, K a w → wpOps P ops Q (List.range' (k + 1) (ops.size - (k + 1))) a w)
    (h : ∀ a, ∃ st, callSt P o f fn.ntmps mask ts mem a = some st ∧ T P B w0 fz0 c st.1 st.2 (Back P fn o.dst a K)) : TO P B w0 fz0 ops k ts mem Q := by
  intro G a w hs
  obtain ⟨st, hst, hT⟩ := h a
  have hlt : k < ops.size := (Array.getElem?_eq_some_iff.1 hok).1
  rw [show ops.size - k = (ops.size - (k + 1)) + 1 by omega, List.range'_succ]
  simp only [wpOps, hok]
  rw [evGuard_ok hs.tmps hg]
  simp only [if_true]
  refine .inl ?_
  unfold callSt at hst
  split at hst
  · rename_i x args tys ho
    split at hst
    · rename_i g caps as hx has
      split at hst
      · rename_i cs hcs
        split at hst
        · rename_i hcond
          obtain ⟨rfl, hc⟩ := hcond
          simp only [Bool.and_eq_true] at hc
          obtain ⟨hcall, hflat, hargs, hmask⟩ := hc
          simp only [Option.some.injEq] at hst
          subst hst
          rw [List.all_eq_true] at hflat
          obtain ⟨vs, e1, hcv⟩ := (show ∃ vs : List Value, [a.eval x] = [Value.func (.func g) #[] vs.toArray] ∧ CellsR w G caps vs from ev_ok hs.tmps hx)
          have ef : a.eval x = .func (.func g) #[] vs.toArray := by simpa using e1
          have hA := evArgs_ok hs.tmps args.toList as has
          have hB := capsL_ok caps cs vs hcs hflat hcv
          have hAB := ArgsR.append hA hB
          have hrun : (execOp a.eval o).run P w = .ok (.enter g (args.toList.map a.eval ++ vs).toArray) w := by
            have e2 : (#[] ++ args.map a.eval ++ vs.toArray : Array Value) = (args.toList.map a.eval ++ vs).toArray := by
              apply Array.ext'; simp
            simp only [execOp, ho, resolve, ef, Deferred.ofValue, Sem.run_bind, Sem.run_pure, Result.andThen_ok, invoke]
            rw [run_callFunc hcall, e2]
          unfold Oper.wp
          rw [hrun]
          refine calls_of_wp hf hb ?_
          rw [List.all_eq_true] at hargs
          have hr1 : ((as ++ cs) ++ List.replicate (fn.ntmps - (as ++ cs).length) AV.unk).all (refsLt mem.length) = true := by
            rw [List.all_eq_true]
            intro y hy
            rcases List.mem_append.1 hy with hy | hy
            · have := hargs y hy
              simp only [Bool.and_eq_true] at this
              exact this.1
            · rw [(List.mem_replicate.1 hy).2]; rfl
          have hst := addSav_ok hs mask hmask (enter_tmps fn.ntmps (fun y hy => by have := hargs y hy; simp only [Bool.and_eq_true] at this; exact this.2) hAB) rfl hr1
          refine wp_mono (hT G _ w hst) fun e a' w' hq => ?_
          cases e with
          | normal =>
            obtain ⟨h1, v, h2, v', h3, h4⟩ := hq
            cases h3
            exact ⟨h1, v, h2, hK _ _ h4⟩
          | ret =>
            obtain ⟨h1, v, h2, v', h3, h4⟩ := hq
            cases h3
            exact ⟨h1, v, h2, hK _ _ h4⟩
          | panic chain => obtain ⟨_, v', h3, _⟩ := hq; cases h3
          | outgrown => obtain ⟨v', h3, _⟩ := hq; cases h3
          | _ => exact hq.elim
        · cases hst
      · cases hst
    · cases hst
  · cases hst
theorem X.back {P : Program} {B : Nat} {w0 : World} {fz0 : Nat → Prop} {ts ts0 : List AV} {mem : List Blk} {fn : Func} {d : Option Tmp} {a : Act} {K : Act → World → Prop} {res : AV} {C : Prop} {j : Nat} (hr : evRes P ts mem fn.results.toList = some (res, C)) (hC : C)
    (hj : lk mem j = .sav ts0 a) (hlt : refsLt mem.length res = true) (h : ∀ G a' w', StR B w0 fz0 (tput ts0 d res) (mem.set j .dead) G a' w' → K a' w') :
    X P B w0 fz0 .ret ts mem (Back P fn d a K) ∧ X P B w0 fz0 .normal ts mem (Back P fn d a K) := by
  have main : ∀ G x w, StR B w0 fz0 ts mem G x w → x.defers = [] ∧ ∃ v, (results fn x.tmps).run P w = .ok v w ∧ ∃ v', Ending.returned v = .returned v' ∧ K (a.put d v') w := by
    intro G x w hs
    obtain ⟨v, h1, h2⟩ := evRes_ok hr hC hs.mem hs.tmps
    have hb := hs.mem.blk j
    rw [hj] at hb
    obtain ⟨ht0, hd0⟩ := hb
    refine ⟨hs.defers, v, h1, v, rfl, h G _ w ⟨fun t r hr' => ?_, fun i r hr' => ?_, ht0.put d h2, hs.mem.congr (fun i => ?_), hs.below, by rw [put_defers]; exact hd0, hs.fz1, hs.fz2⟩⟩
    · rw [List.length_set]
      exact tput_refs (fun t r h' => hs.rm j r (by rw [hj]; exact sav_refs h')) (Nat.le_refl _) (refsLt_ok hlt) t r hr'
    · rw [List.length_set]
      rw [lk_set] at hr'
      split at hr'
      · cases hr'
      · exact hs.rm i r hr'
    · rw [lk_set]
      split
      · exact .inr rfl
      · exact .inl rfl
  exact ⟨fun G x w hs => main G x w hs, fun G x w hs => main G x w hs⟩

/-! with states as pairs -/
def TOS (P : Program) (w0 : World) (fz0 : Nat → Prop) (ops : Array Oper) (k : Nat) (st : St) (Q : Exit → Act → World → Prop) : Prop := TO P w0.drawn w0 fz0 ops k st.1 st.2 Q
def KS (P : Program) (w0 : World) (fz0 : Nat → Prop) (K : Act → World → Prop) (st : St) : Prop := ∀ G a w, StR w0.drawn w0 fz0 st.1 st.2 G a w → K a w
def evK (P : Program) (ops : Array Oper) (k m : Nat) (hs : List Hint) (st : St) : St :=
  match st with
  | (ts, mem) =>
    match evOps P ops.toList ((ops.toList.drop k).take m) hs ts mem with
    | some (t, m, _) => (t, m)
    | none => ([], [])
def okK (P : Program) (ops : Array Oper) (k m : Nat) (hs : List Hint) (st : St) : Prop :=
  match st with
  | (ts, mem) =>
    match evOps P ops.toList ((ops.toList.drop k).take m) hs ts mem with
    | some (_, _, C) => C
    | none => False
def callK (P : Program) (ops : Array Oper) (k f nt : Nat) (mask : List Bool) (st : St) (a : Act) : Option St :=
  match ops[k]? with
  | some o =>
    match evGuard ops.toList st.1 o with
    | some true => callSt P o f nt mask st.1 st.2 a
    | _ => none
  | none => none
def dstK (ops : Array Oper) (k : Nat) : Option Tmp := (ops[k]?).bind (·.dst)
def backSt (P : Program) (fn : Func) (d : Option Tmp) (j : Nat) (ts0 : List AV) (st : St) : Option (St × Prop) :=
  match evRes P st.1 st.2 fn.results.toList with
  | some (res, C) => if refsLt st.2.length res = true then some ((tput ts0 d res, st.2.set j .dead), C) else none
  | none => none
section
variable {P : Program} {w0 : World} {fz0 : Nat → Prop} {st : St} {Q : Exit → Act → World → Prop} {ops : Array Oper} {k : Nat}
theorem TS.opsOf {id : Nat} (h : TOS P w0 fz0 ops 0 st Q) : TS P w0 fz0 (.region id ops false) st Q := T.region h
theorem TOS.run (m : Nat) (hs : List Hint) (hm : Nat.ble (k + m) ops.size = true) (hok : okK P ops k m hs st) (hn : TOS P w0 fz0 ops (k + m) (evK P ops k m hs st) Q) : TOS P w0 fz0 ops k st Q := by
  obtain ⟨ts, mem⟩ := st
  have hm' := Nat.le_of_ble_eq_true hm
  have hl : ((ops.toList.drop k).take m).length = m := by simp; omega
  unfold okK at hok
  simp only at hok
  cases he : evOps P ops.toList ((ops.toList.drop k).take m) hs ts mem with
  | none => rw [he] at hok; exact hok.elim
  | some r =>
    obtain ⟨t, mm, C⟩ := r
    rw [he] at hok
    unfold TOS evK at hn
    simp only [he] at hn
    exact TO.run _ k hs ts t mem mm C (by rw [hl]) he hok (by rw [hl]; exact hn)
theorem TOS.nil (h : Nat.ble ops.size k = true) (hn : XS P w0 fz0 .normal st Q) : TOS P w0 fz0 ops k st Q := TO.nil (Nat.le_of_ble_eq_true h) hn
theorem TOS.callK {fn : Func} {c : Code} (f : Nat) (mask : List Bool) (K : Act → World → Prop) (hf : P.funcs[f]? = some fn) (hb : fn.body = some c) (hK : ∀ a w, K a w → wpOps P ops Q (List.range' (k + 1) (ops.size - (k + 1))) a w)
    (h : ∀ a, ∃ st', Go.Proofs.YtbpjinefbnlenaaGreatDoor.callK P ops k f fn.ntmps mask st a = some st' ∧ TS P w0 fz0 c st' (Back P fn (dstK ops k) a K)) : TOS P w0 fz0 ops k st Q := by
  cases ho : ops[k]? with
  | none =>
    obtain ⟨st', h1, _⟩ := h ⟨#[], []⟩
    unfold Go.Proofs.YtbpjinefbnlenaaGreatDoor.callK at h1
    rw [ho] at h1; cases h1
  | some o =>
    have hg : evGuard ops.toList st.1 o = some true := by
      obtain ⟨st', h1, _⟩ := h ⟨#[], []⟩
      unfold Go.Proofs.YtbpjinefbnlenaaGreatDoor.callK at h1
      rw [ho] at h1
      simp only at h1
      split at h1
      · assumption
      · cases h1
    refine TO.inl mask K ho hg hf hb hK fun a => ?_
    obtain ⟨st', h1, h2⟩ := h a
    unfold Go.Proofs.YtbpjinefbnlenaaGreatDoor.callK at h1
    rw [ho] at h1
    simp only [hg] at h1
    unfold dstK at h2
    rw [ho] at h2
    exact ⟨st', h1, h2⟩
theorem TOS.call {fn : Func} {c : Code} (f : Nat) (mask : List Bool) (hf : P.funcs[f]? = some fn) (hb : fn.body = some c)
    (h : ∀ a, ∃ st', Go.Proofs.YtbpjinefbnlenaaGreatDoor.callK P ops k f fn.ntmps mask st a = some st' ∧ TS P w0 fz0 c st' (Back P fn (dstK ops k) a (wpOps P ops Q (List.range' (k + 1) (ops.size - (k + 1)))))) : TOS P w0 fz0 ops k st Q :=
  TOS.callK f mask _ hf hb (fun _ _ h => h) h
theorem XS.back {fn : Func} {d : Option Tmp} {a : Act} {K : Act → World → Prop} (j : Nat) (ts0 : List AV) (st' : St) (C : Prop) (hj : lk st.2 j = .sav ts0 a) (h : backSt P fn d j ts0 st = some (st', C)) (hC : C) (hn : KS P w0 fz0 K st') : XS P w0 fz0 .ret st (Back P fn d a K) ∧ XS P w0 fz0 .normal st (Back P fn d a K) := by
  unfold backSt at h
  split at h
  · rename_i res D hr
    split at h
    · rename_i hlt
      simp only [Option.some.injEq, Prod.mk.injEq] at h
      obtain ⟨rfl, rfl⟩ := h
      exact X.back hr hC hj hlt hn
    · cases h
  · cases h
theorem TOS.wk (x : Wk) (h : TOS P w0 fz0 ops k (wk1 x st) Q) : TOS P w0 fz0 ops k st Q := by
  intro G a w hs
  obtain ⟨G', hs'⟩ := wk1_ok hs x
  exact h G' a w hs'
theorem KS.opsOf (h : TOS P w0 fz0 ops k st Q) : KS P w0 fz0 (wpOps P ops Q (List.range' k (ops.size - k))) st := h
end
end Go.Proofs.YtbpjinefbnlenaaGreatDoor
