/- A machine of values, part 11c: maps; all the further operations in one. -/
import Derived.Test.YtbpjinefbnlenaaGreatDoorAm11b
namespace Go.Proofs.YtbpjinefbnlenaaGreatDoor
open Go Go.RowKit
set_option linter.unusedVariables false

def Sh.noArr : Sh → Bool
  | .pair a b => a.noArr && b.noArr
  | .st a => a.noArr
  | .arr _ _ => false
  | _ => true
mutual
theorem key_ok {P : Program} {w : World} {G : Gh} {em : Bool} : ∀ (n : Nat) (t : TypeId) (s : Sh) (x : s.T) (v : Value) (d : Nat), eqTy P n t s = true → s.noArr = true → ValR w G (s.av x) v → (Instr.checkKey em (d + n) t v).run P w = .ok () w
  | 0, t, s, x, v, d, h, _, hx => by cases s <;> simp [eqTy] at h
  | n + 1, t, .int k, x, v, d, h, _, hx => by
    simp only [eqTy] at h
    split at h
    · rename_i q hu
      obtain rfl : v = .int k x := by simpa using (show [v] = [Value.int k x] from hx)
      simp [Instr.checkKey, run_underlying hu, Sem.run_pure]
    · cases h
  | n + 1, t, .bool, x, v, d, h, _, hx => by
    simp only [eqTy] at h
    split at h
    · rename_i hu
      obtain rfl : v = .bool x := by simpa using (show [v] = [Value.bool x] from hx)
      simp [Instr.checkKey, run_underlying hu, Sem.run_pure]
    · cases h
  | n + 1, t, .str, x, v, d, h, _, hx => by
    simp only [eqTy] at h
    split at h
    · rename_i hu
      obtain rfl : v = .string ⟨List.toArray x⟩ := by simpa using (show [v] = [Value.string ⟨List.toArray x⟩] from hx)
      simp [Instr.checkKey, run_underlying hu, Sem.run_pure]
    · cases h
  | n + 1, t, .st a, x, v, d, h, hna, hx => by
    simp only [eqTy] at h
    split at h
    · rename_i fs hu
      simp only [Bool.and_eq_true, Bool.not_eq_true'] at h
      obtain ⟨hp, hf, hi⟩ := h
      obtain ⟨cs, rfl, hcx⟩ := hx
      rw [show d + (n + 1) = (d + n) + 1 from rfl, Instr.checkKey]
      simp only [Sem.run_bind, run_underlying hu, Result.andThen_ok]
      rw [← Array.forIn_toList]
      have := keyf_ok (em := em) n fs.toList a 0 x [] cs.toList d hf hna rfl ((CellsR.av a x _).1 hcx)
      simp at this ⊢
      rw [this]
      rfl
    · cases h
  | n + 1, t, .arr m a, x, v, d, h, hna, hx => by cases hna
  | n + 1, t, .unit, x, v, d, h, _, hx => by simp [eqTy] at h
  | n + 1, t, .pair a b, x, v, d, h, _, hx => by simp [eqTy] at h
  | n + 1, t, .sl a, x, v, d, h, _, hx => by simp [eqTy] at h
theorem keyf_ok {P : Program} {w : World} {G : Gh} {em : Bool} : ∀ (n : Nat) (fs : List Field) (s : Sh) (off : Nat) (x : s.T) (c1 cx : List Value) (d : Nat), eqFs P n fs s off = true → s.noArr = true → c1.length = off → ShR w G.fz s x cx →
    (forIn fs PUnit.unit (fun f _ => (do
      if f.name ≠ "_" then Instr.checkKey em (d + n) f.type (← part f.type (c1 ++ cx).toArray f.offset)
      pure (ForInStep.yield PUnit.unit) : Sem (ForInStep PUnit)))).run P w = .ok PUnit.unit w
  | 0, fs, s, off, x, c1, cx, d, h, _, hl1, hx => by simp [eqFs] at h
  | n + 1, [], s, off, x, c1, cx, d, h, _, hl1, hx => by simp [Sem.run_pure]
  | n + 1, [f], s, off, x, c1, cx, d, h, hna, hl1, hx => by
    simp only [eqFs, Bool.and_eq_true, bne_iff_ne, ne_eq, beq_iff_eq] at h
    obtain ⟨hn, hoff, ht⟩ := h
    obtain ⟨v1, p1, r1⟩ := part_sh (P := P) (G := G) c1 [] ht hx
    rw [List.append_nil, hl1, ← hoff] at p1
    have ih := key_ok (em := em) n f.type s x v1 (d + 1) ht hna r1
    rw [show d + 1 + n = d + (n + 1) by omega] at ih
    simp only [List.forIn_cons, List.forIn_nil, hn, ne_eq, not_false_eq_true, if_true, Sem.run_bind, p1, ih, Result.andThen_ok, Sem.run_pure]
  | n + 1, f :: g :: l, s, off, x, c1, cx, d, h, hna, hl1, hx => by
    cases s with
    | pair a b =>
      simp only [eqFs, Bool.and_eq_true, bne_iff_ne, ne_eq, beq_iff_eq] at h
      obtain ⟨hn, hoff, ht, hr⟩ := h
      simp only [Sh.noArr, Bool.and_eq_true] at hna
      obtain ⟨xa, xb, rfl, hxa, hxb⟩ := hx
      obtain ⟨v1, p1, r1⟩ := part_sh (P := P) (G := G) c1 xb ht hxa
      rw [List.append_assoc, hl1, ← hoff] at p1
      have ih := key_ok (em := em) n f.type a x.1 v1 (d + 1) ht hna.1 r1
      rw [show d + 1 + n = d + (n + 1) by omega] at ih
      have ih2 := keyf_ok (em := em) n (g :: l) b (off + a.size) x.2 (c1 ++ xa) xb (d + 1) hr hna.2 (by rw [List.length_append, hl1, ShR.length a _ _ hxa]) hxb
      rw [show d + 1 + n = d + (n + 1) by omega, List.append_assoc] at ih2
      rw [List.forIn_cons]
      simp only [hn, ne_eq, not_false_eq_true, if_true, Sem.run_bind, p1, ih, Result.andThen_ok, Sem.run_pure]
      simpa using ih2
    | _ => simp [eqFs] at h
end
/-- the entry of a key -/
def mapFind (k e : Sh) (x : k.T) : List (k.T × e.T) → Option Nat
  | [] => none
  | y :: l => bif k.beq x y.1 then some 0 else (mapFind k e x l).map (· + 1)
def mapGet (k e : Sh) (x : k.T) (l : List (k.T × e.T)) : Option e.T := (mapFind k e x l).bind fun i => (l[i]?).map (·.2)
def mapPut (k e : Sh) (x : k.T) (v : e.T) (l : List (k.T × e.T)) : List (k.T × e.T) :=
  match mapFind k e x l with
  | some i => l.modify i fun y => (x, v)
  | none => l ++ [(x, v)]
def Found (es : List MapEntry) (i : Nat) (f : Option Nat) (r : Option (Nat × Value)) : Prop :=
  match f with
  | none => r = none
  | some j => ∃ y, es[j]? = some y ∧ r = some (i + j, y.val)
theorem findAsking_ok {P : Program} {w : World} {G : Gh} {n : Nat} {t : TypeId} {k e : Sh} {x : k.T} {u : Value} (hk : eqTy P n t k = true) (hn : n ≤ 10000) (hu : ValR w G (k.av x) u) : ∀ (l : List (k.T × e.T)) (es : List MapEntry) (i : Nat), AllR (EntR w G k e) l es →
    ∃ r, (Instr.findAsking t u es i).run P w = .ok r w ∧ Found es i (mapFind k e x l) r
  | [], es, i, h => by
    simp only [AllR] at h; subst h
    exact ⟨none, by simp [Instr.findAsking, Sem.run_pure], rfl⟩
  | y :: l, es, i, h => by
    obtain ⟨z, es', rfl, h1, h2⟩ := h
    have heq := eq_ok n t k x y.1 u z.key (10000 - n) hk hu (ValR.of0 h1.1 (by intro b hb; cases k <;> cases hb))
    rw [show 10000 - n + n = 10000 by omega] at heq
    have heq2 : (Op.equal t u z.key).run P w = .ok (k.beq x y.1) w := heq
    simp only [Instr.findAsking, Sem.run_bind, heq2, Result.andThen_ok, mapFind]
    cases hb : k.beq x y.1 with
    | true => exact ⟨_, by simp [Sem.run_pure], z, rfl, rfl⟩
    | false =>
      obtain ⟨r, hr, hf⟩ := findAsking_ok hk hn hu l es' (i + 1) h2
      refine ⟨r, by simpa using hr, ?_⟩
      simp only [cond_false]
      revert hf
      cases mapFind k e x l with
      | none => exact id
      | some j =>
        rintro ⟨q, q1, q2⟩
        exact ⟨q, by simpa using q1, by rw [q2]; congr 2; show i + 1 + j = i + (j + 1); omega⟩
theorem findNow_ok {P : Program} {w : World} {G : Gh} {n : Nat} {t : TypeId} {d : TypeDesc} {k e : Sh} {x : k.T} {u : Value} (hd : P.underlying t = some d) (hk : eqTy P n t k = true) (hu : ValR w G (k.av x) u) : ∀ (l : List (k.T × e.T)) (es : List MapEntry) (i : Nat), AllR (EntR w G k e) l es →
    ∀ r, Instr.findNow d u es i = some r → Found es i (mapFind k e x l) r
  | [], es, i, h, r, hr => by
    simp only [AllR] at h; subst h
    simp only [Instr.findNow, Option.some.injEq] at hr
    exact hr.symm
  | y :: l, es, i, h, r, hr => by
    obtain ⟨z, es', rfl, h1, h2⟩ := h
    have hz := ValR.of0 h1.1 (by intro b hb; cases k <;> cases hb)
    have hsame : ∀ b, Instr.sameNow d u z.key = some b → b = k.beq x y.1 := by
      intro b hb
      cases n with
      | zero => cases k <;> simp [eqTy] at hk
      | succ n =>
        cases k with
        | int q =>
          obtain rfl : u = .int q x := by simpa using (show [u] = [Value.int q x] from hu)
          have e1 : z.key = .int q y.1 := by simpa using (show [z.key] = [Value.int q y.1] from hz)
          rw [e1] at hb
          simp only [eqTy, hd] at hk
          cases d <;> simp at hk
          simp [Instr.sameNow] at hb
          exact hb.symm
        | bool =>
          obtain rfl : u = .bool x := by simpa using (show [u] = [Value.bool x] from hu)
          have e1 : z.key = .bool y.1 := by simpa using (show [z.key] = [Value.bool y.1] from hz)
          rw [e1] at hb
          simp only [eqTy, hd] at hk
          cases d <;> simp at hk
          simp [Instr.sameNow] at hb
          exact hb.symm
        | str =>
          obtain rfl : u = .string ⟨List.toArray x⟩ := by simpa using (show [u] = [Value.string ⟨List.toArray x⟩] from hu)
          have e1 : z.key = .string ⟨List.toArray y.1⟩ := by simpa using (show [z.key] = [Value.string ⟨List.toArray y.1⟩] from hz)
          rw [e1] at hb
          simp only [eqTy, hd] at hk
          cases d <;> simp at hk
          simp only [Instr.sameNow, Option.some.injEq] at hb
          rw [← hb]
          simp only [Sh.beq]
          rw [show ((⟨List.toArray x⟩ : ByteArray) == ⟨List.toArray y.1⟩) = (List.toArray x == List.toArray y.1) from rfl]
          simp
        | st a =>
          exfalso
          obtain ⟨cs, rfl, _⟩ := hu
          cases d <;> simp [Instr.sameNow] at hb
        | arr m a =>
          exfalso
          obtain ⟨cs, rfl, _⟩ := hu
          cases d <;> simp [Instr.sameNow] at hb
        | _ => simp [eqTy] at hk
    simp only [Instr.findNow] at hr
    split at hr
    · rename_i hs
      have := hsame _ hs
      simp only [Option.some.injEq] at hr
      simp only [mapFind, ← this, cond_true]
      exact ⟨z, rfl, hr.symm⟩
    · rename_i hs
      have := hsame _ hs
      have ih := findNow_ok hd hk hu l es' (i + 1) h2 r hr
      simp only [mapFind, ← this, cond_false]
      revert ih
      cases mapFind k e x l with
      | none => exact id
      | some j =>
        rintro ⟨q, q1, q2⟩
        exact ⟨q, by simpa using q1, by rw [q2]; congr 2; show i + 1 + j = i + (j + 1); omega⟩
    · cases hr
theorem findKey_ok {P : Program} {w : World} {G : Gh} {n : Nat} {t : TypeId} {k e : Sh} {x : k.T} {u : Value} (hk : eqTy P n t k = true) (hn : n ≤ 10000) (hu : ValR w G (k.av x) u) {l : List (k.T × e.T)} {es : List MapEntry} (h : AllR (EntR w G k e) l es) :
    ∃ r, (Instr.findKey t u es).run P w = .ok r w ∧ Found es 0 (mapFind k e x l) r := by
  have hd : ∃ d, P.underlying t = some d := by
    cases n with
    | zero => cases k <;> simp [eqTy] at hk
    | succ n =>
      cases hu' : P.underlying t with
      | some d => exact ⟨d, rfl⟩
      | none => cases k <;> simp [eqTy, hu'] at hk
  obtain ⟨d, hd⟩ := hd
  simp only [Instr.findKey, Sem.run_bind, run_underlying hd, Result.andThen_ok]
  cases hf : Instr.findNow d u es 0 with
  | some r => exact ⟨r, by simp [Sem.run_pure], findNow_ok hd hk hu l es 0 h r hf⟩
  | none => exact findAsking_ok hk hn hu l es 0 h
theorem AllR.get {α β : Type} {R : α → β → Prop} : ∀ {l : List α} {m : List β}, AllR R l m → ∀ {i : Nat} {y : β}, m[i]? = some y → ∃ x, l[i]? = some x ∧ R x y
  | [], m, h, i, y, hy => by simp only [AllR] at h; subst h; simp at hy
  | x :: l, m, ⟨z, t, e, h1, h2⟩, i, y, hy => by
    subst e
    cases i with
    | zero => simp at hy; subst hy; exact ⟨x, rfl, h1⟩
    | succ i => obtain ⟨q, q1, q2⟩ := AllR.get h2 (by simpa using hy); exact ⟨q, by simpa using q1, q2⟩
def evLookup (P : Program) (mem : List Blk) (t : TypeId) (m x : AV) (ok : Bool) : Option (AV × Prop) :=
  match m with
  | .mp r =>
    match lk mem r, P.underlying t with
    | .map t' k e l, some (.map kt et) =>
      match AV.toSh k x, P.info? et with
      | some kx, some inf =>
        match inf.zero with
        | some z =>
          if t' = t ∧ eqTy P 12 kt k = true ∧ k.noArr = true ∧ flatSh e = true ∧ e.chk e.dflt z.cells.toList = true ∧ notAggV z = true ∧ (x.agg || (x.flat && flatSh k)) = true then
            (if ok then some (.tup (.cons (e.av ((mapGet k e kx l).getD e.dflt)) (.cons (.bool (mapGet k e kx l).isSome) .nil)), True) else some (e.av ((mapGet k e kx l).getD e.dflt), True))
          else none
        | none => none
      | _, _ => none
    | _, _ => none
  | _ => none
theorem toSh_valX {w : World} {G : Gh} {s : Sh} {a : AV} {x : s.T} {u : Value} (h : AV.toSh s a = some x) (hg : (a.agg || (a.flat && flatSh s)) = true) (hu : ValR w G a u) : ValR w G (s.av x) u := by
  by_cases ha : a.agg = true
  · exact (toSh_val h ha hu).1
  · simp only [ha, Bool.false_or, Bool.and_eq_true] at hg
    have hc := (ValR0.flat hg.1).1 (ValR.to0 hu (flat_tup hg.1))
    have := AV.toSh_ok s a x [u] h hc
    have hf := hg.2
    cases s <;> first | exact this | cases hf
theorem map_at {B : Nat} {w : World} {G : Gh} {mem : List Blk} (hm : MemR B w G mem) {r : Nat} {t : TypeId} {k e : Sh} {l : List (k.T × e.T)} (h : lk mem r = .map t k e l) : ∃ es clock, w.heap[(G.addr r).block]? = some (.map es clock) ∧ AllR (EntR w G k e) l es.toList := by
  have hb := hm.blk r
  rw [h] at hb
  exact hb
theorem run_getObj' {P : Program} {w : World} {b : Nat} {es : Array MapEntry} {clock : Nat} (h : w.heap[b]? = some (.map es clock)) : (getObj b).run P w = .ok (.map es clock) w := by
  simp [getObj, Sem.run, h]
theorem evLookup_ok {P : Program} {B : Nat} {w : World} {G : Gh} {mem : List Blk} (hm : MemR B w G mem) {t : TypeId} {m x c : AV} {ok : Bool} {C : Prop} {um ux : Value} (h : evLookup P mem t m x ok = some (c, C)) (hum : ValR w G m um) (hux : ValR w G x ux) :
    ∃ v, (Instr.lookup t um ux ok).run P w = .ok v w ∧ ValR w G c v := by
  unfold evLookup at h
  split at h
  · rename_i r
    obtain rfl : um = .map (some (G.addr r).block) := by simpa using (show [um] = [Value.map _] from hum)
    split at h
    · rename_i t' k e l kt et hlk hut
      split at h
      · rename_i kx inf hsh hinf
        split at h
        · rename_i z hz
          split at h
          · rename_i hc
            obtain ⟨rfl, hk, hna, hfl, hchk, hnz, hfa⟩ := hc
            obtain ⟨es, clock, hobj, hall⟩ := map_at hm hlk
            have hkv := toSh_valX hsh hfa hux
            have hck := key_ok (em := es.isEmpty) 12 kt k kx ux 9988 hk hna hkv
            obtain ⟨rr, hfr, hfound⟩ := findKey_ok hk (by omega) hkv hall
            have hzr : ValR0 w G (e.av e.dflt) z := by
              rw [flatSh_val hfl]
              have := Sh.chk_ok (w := w) (fz := G.fz) e e.dflt _ hchk
              rw [notAggV_ok hnz] at this
              exact this
            have key : ∃ v b, (do let (v, ok) ← match ← Instr.findKey kt ux es.toList with
                                    | some (_, v) => pure (v, true)
                                    | none => pure (← zeroValue et, false)
                                  pure (v, ok) : Sem (Value × Bool)).run P w = .ok (v, b) w ∧ ValR0 w G (e.av ((mapGet k e kx l).getD e.dflt)) v ∧ b = (mapGet k e kx l).isSome := by
              cases hmf : mapFind k e kx l with
              | none =>
                rw [hmf] at hfound
                simp only [Found] at hfound
                subst hfound
                refine ⟨z, false, by simp [hfr, run_zero hinf hz], ?_, ?_⟩
                · simpa [mapGet, hmf] using hzr
                · simp [mapGet, hmf]
              | some j =>
                rw [hmf] at hfound
                obtain ⟨y, hy, rfl⟩ := hfound
                obtain ⟨q, q1, q2⟩ := AllR.get hall hy
                refine ⟨y.val, true, by simp [hfr, Sem.run_pure], ?_, ?_⟩
                · simpa [mapGet, hmf, q1] using q2.2
                · simp [mapGet, hmf, q1]
            obtain ⟨v, b, hrun, hv, hb⟩ := key
            have hrun2 : (Instr.lookup t' (.map (some (G.addr r).block)) ux ok).run P w = .ok (if ok then .tuple #[v, .bool b] else v) w := by
              simp only [Instr.lookup, Sem.run_bind, run_underlying hut, Result.andThen_ok, run_getObj' hobj, Sem.run_pure, hck]
              simp only [Sem.run_bind, hfr, Result.andThen_ok] at hrun ⊢
              cases rr with
              | none =>
                simp only [Sem.run_bind, run_zero hinf hz, Result.andThen_ok, Sem.run_pure, Result.ok.injEq, Prod.mk.injEq, and_true] at hrun ⊢
                obtain ⟨rfl, rfl⟩ := hrun
                cases ok <;> simp
              | some pr =>
                obtain ⟨j, vv⟩ := pr
                simp only [Sem.run_bind, Result.andThen_ok, Sem.run_pure, Result.ok.injEq, Prod.mk.injEq, and_true] at hrun ⊢
                obtain ⟨rfl, rfl⟩ := hrun
                cases ok <;> simp
            refine ⟨_, hrun2, ?_⟩
            cases ok with
            | true =>
              simp only [if_true, Option.some.injEq, Prod.mk.injEq] at h
              obtain ⟨rfl, _⟩ := h
              exact ⟨_, rfl, v, _, rfl, hv, _, _, rfl, by rw [hb]; rfl, rfl⟩
            | false =>
              simp only [Bool.false_eq_true, if_false, Option.some.injEq, Prod.mk.injEq] at h
              obtain ⟨rfl, _⟩ := h
              exact ValR.of0 hv (by intro b' hb'; cases e <;> cases hb')
          · cases h
        · cases h
      · cases h
    · cases h
  · cases h
/-- the further operations -/
def w1 (r : Option AV) : Option (AV × List Blk × Prop) := r.map fun a => (a, [], True)
def w2 (r : Option (AV × Prop)) : Option (AV × List Blk × Prop) := r.map fun (a, C) => (a, [], C)
def oevX (ts : List AV) : Option Operand → Option (Option AV)
  | none => some none
  | some x => (ev ts x).map some
theorem oevX_ok {w : World} {G : Gh} {ts : List AV} {a : Act} (ht : TmpsR w G ts a) {x : Option Operand} {r : Option AV} (h : oevX ts x = some r) : OV w G r (x.map a.eval) := by
  cases x with
  | none => simp only [oevX, Option.some.injEq] at h; subst h; trivial
  | some x =>
    simp only [oevX, Option.map_eq_some_iff] at h
    obtain ⟨y, hy, rfl⟩ := h
    exact ev_ok ht hy
theorem w1_ok {r : Option AV} {av : AV} {new : List Blk} {C : Prop} (h : w1 r = some (av, new, C)) : r = some av ∧ new = [] ∧ C = True := by
  simp only [w1, Option.map_eq_some_iff, Prod.mk.injEq] at h
  obtain ⟨x, hx, rfl, rfl, rfl⟩ := h
  exact ⟨hx, rfl, rfl⟩
theorem w2_ok {r : Option (AV × Prop)} {av : AV} {new : List Blk} {C : Prop} (h : w2 r = some (av, new, C)) : r = some (av, C) ∧ new = [] := by
  simp only [w2, Option.map_eq_some_iff, Prod.mk.injEq, Prod.exists] at h
  obtain ⟨x, D, hx, rfl, rfl, rfl⟩ := h
  exact ⟨hx, rfl⟩
def evRange (P : Program) (t : TypeId) (x : AV) : Option Blk :=
  match P.underlying t, x with
  | some .string, .str s => some (.iter s 0)
  | _, _ => none
/-! a text as a row of bytes -/
def bCells (s : List UInt8) : List Value := s.map fun (b : UInt8) => Value.int .u8 ((b.toNat : Nat) : Int)
def zCells (n : Nat) : List Value := List.replicate n (Value.int .u8 0)
theorem CatR.bytes {w : World} {fz : Nat → Prop} : ∀ (s : List UInt8), CatR (ShR w fz (.int .u8)) (s.map fun b => ((b.toNat : Nat) : Int)) (bCells s)
  | [] => rfl
  | b :: s => ⟨[_], bCells s, rfl, rfl, CatR.bytes s⟩
theorem push_modify (h : Array Obj) (o : Obj) (f : Obj → Obj) : (h.push o).modify h.size f = h.push (f o) := by
  apply Array.ext
  · simp
  · intro i h1 h2
    rw [Array.getElem_modify]
    simp only [Array.getElem_push]
    split
    · rename_i e; subst e; simp
    · rename_i e
      split
      · rfl
      · rename_i e2; simp at h2; omega
theorem run_toBytes {P : Program} (w : World) {src dst el : TypeId} {d : TypeDesc} (s : ByteArray) (hs : P.underlying src = some d) (hd : P.underlying dst = some (.slice el)) (he : P.underlying el = some (.int .u8)) :
    ∃ w', (convert src dst (.string s)).run P w = .ok (.slice (some ⟨w.heap.size, 0, none⟩) s.size (grownCap w s.size 0 el)) w' ∧ Below w.heap.size w w' ∧
      w'.heap = w.heap.push (.cells (bCells s.data.toList ++ zCells (grownCap w s.size 0 el - s.size)).toArray el (grownCap w s.size 0 el, grownCap w s.size 0 el + 1)) := by
  have hge := grownCap_ge w s.size 0 el
  have hsz : s.size = s.data.size := rfl
  obtain ⟨cap, hgc⟩ : ∃ cap, grownCap w s.size 0 el = cap := ⟨_, rfl⟩
  rw [hgc] at hge ⊢
  have hq : (Question.appendCap s.size 0 el).cut (w.tape w.drawn (Question.appendCap s.size 0 el)) = cap := hgc
  obtain ⟨arr, harr⟩ : ∃ arr, (bCells s.data.toList ++ zCells (cap - s.size)).toArray = arr := ⟨_, rfl⟩
  have hn : arr.size = cap := by rw [← harr]; simp [bCells, zCells]; omega
  have e1 : (Array.map (fun (b : UInt8) => Value.int .u8 ((b.toNat : Nat) : Int)) s.data ++ Array.replicate (cap - s.size) (Value.int .u8 0)) = arr := by
    rw [← harr]; apply Array.ext'; simp [bCells, zCells]
  rw [harr]
  refine ⟨(w.drew.alloc (.cells arr el)).freeze ⟨w.heap.size, cap, none⟩ 1, ?_, ?_, ?_⟩
  · simp only [convert, run_underlying hs, run_underlying hd, run_underlying he, Sem.run_bind, Result.andThen_ok, Conv.stringToBytes]
    simp [Question.forced, newRow, markStringish, shape, freeze, hq, e1]
    have hr1 : Sem.run P (Go.newRow el arr) w.drew = .ok ⟨w.heap.size, 0, none⟩ (w.drew.alloc (.cells arr el)) := by simp [Go.newRow]
    have hr2 : (w.drew.alloc (.cells arr el)).heap[w.heap.size]? = some (.cells arr el) := alloc_new w.drew _
    rw [hr1]
    simp only [Result.andThen, Sem.run, World.shape?, hr2, hn]
  · refine ⟨rfl, rfl, rfl, ?_, fun k hk => ?_⟩
    · simp [World.freeze]
    · simp [World.freeze, Array.getElem?_modify]
      rw [if_neg (by omega)]
      exact heap_alloc_old w.drew _ hk
  · simp only [World.freeze, if_neg (show ¬ (1 : Nat) = 0 by decide)]
    have : (w.drew.alloc (.cells arr el)).heap = w.heap.push (.cells arr el) := rfl
    rw [this, push_modify]
    simp
/-- a text's runes -/
def runesGo (s : ByteArray) : (bound i : Nat) → List Int
  | 0, _ => []
  | b + 1, i => if i < s.size then ((Utf8.decode s i).1 : Int) :: runesGo s b (i + (Utf8.decode s i).2) else []
def runesL (s : List UInt8) : List Int := runesGo ⟨s.toArray⟩ s.length 0
def rCells (l : List Int) : List Value := l.map (Value.int .i32)
theorem runesFrom_eq (s : ByteArray) : ∀ (b i : Nat) (acc : Array Value), Conv.runesFrom s b i acc = acc ++ (rCells (runesGo s b i)).toArray
  | 0, i, acc => by simp [Conv.runesFrom, runesGo, rCells]
  | b + 1, i, acc => by
    rw [Conv.runesFrom, runesGo]
    split
    · simp only [runesFrom_eq s b, rCells, List.map_cons]
      apply Array.ext'
      simp
    · simp [rCells]
theorem CatR.runes {w : World} {fz : Nat → Prop} : ∀ (l : List Int), CatR (ShR w fz (.int .i32)) l (rCells l)
  | [] => rfl
  | b :: l => ⟨[_], rCells l, rfl, rfl, CatR.runes l⟩
theorem run_toRunes {P : Program} (w : World) {src dst el : TypeId} {d : TypeDesc} (s : List UInt8) (hs : P.underlying src = some d) (hd : P.underlying dst = some (.slice el)) (he : P.underlying el = some (.int .i32)) :
    ∃ w', (convert src dst (.string ⟨s.toArray⟩)).run P w = .ok (.slice (some ⟨w.heap.size, 0, none⟩) (runesL s).length (grownCap w (runesL s).length 0 el)) w' ∧ Below w.heap.size w w' ∧
      w'.heap = w.heap.push (.cells (rCells (runesL s) ++ List.replicate (grownCap w (runesL s).length 0 el - (runesL s).length) (Value.int .i32 0)).toArray el (0, 0)) := by
  obtain ⟨cap, hgc⟩ : ∃ cap, grownCap w (runesL s).length 0 el = cap := ⟨_, rfl⟩
  rw [hgc]
  have hq : (Question.appendCap (runesL s).length 0 el).cut (w.tape w.drawn (Question.appendCap (runesL s).length 0 el)) = cap := hgc
  have e0 : Conv.runesFrom ⟨s.toArray⟩ (⟨s.toArray⟩ : ByteArray).size 0 #[] = (rCells (runesL s)).toArray := by
    rw [runesFrom_eq]; simp [runesL, str_size]
  have hsz : (rCells (runesL s)).length = (runesL s).length := by simp [rCells]
  have e1 : (rCells (runesL s)).toArray ++ Array.replicate (cap - (runesL s).length) (Value.int .i32 0) = (rCells (runesL s) ++ List.replicate (cap - (runesL s).length) (Value.int .i32 0)).toArray := by
    apply Array.ext'; simp
  refine ⟨w.drew.alloc (.cells (rCells (runesL s) ++ List.replicate (cap - (runesL s).length) (Value.int .i32 0)).toArray el), ?_, ?_, rfl⟩
  · simp only [convert, run_underlying hs, run_underlying hd, run_underlying he, Sem.run_bind, Result.andThen_ok, Conv.stringToRunes, e0]
    simp [Question.forced, newRow, hq, e1, hsz]
    have hr1 : ∀ arr, Sem.run P (Go.newRow el arr) w.drew = .ok ⟨w.heap.size, 0, none⟩ (w.drew.alloc (.cells arr el)) := fun arr => by simp [Go.newRow]
    rw [hr1]
    rfl
  · exact ⟨rfl, rfl, rfl, by simp, fun k hk => heap_alloc_old w.drew _ hk⟩
def evToBytes (P : Program) (src dst : TypeId) (a : AV) : Option (Blk × Prop) :=
  match P.underlying src, P.underlying dst, a with
  | some _, some (.slice el), .str s =>
    match P.underlying el with
    | some (.int .u8) => if el = 5 then some (.row el (.int .u8) (s.map fun b => ((b.toNat : Nat) : Int)), s.length ≤ 140737488355328) else none
    | some (.int .i32) => some (.row el (.int .i32) (runesL s), (runesL s).length ≤ 35184372088832)
    | _ => none
  | _, _, _ => none
def evMakeMap (P : Program) (t : TypeId) : Option Blk :=
  match P.underlying t with
  | some (.map kt et) =>
    match shOf P 12 kt, shOf P 12 et with
    | some k, some e => some (.map t k e [])
    | _, _ => none
  | _ => none
def evMore (P : Program) (ts : List AV) (mem : List Blk) (base : Nat) (o : Oper) : Option (AV × List Blk × Prop) :=
  match o.op with
  | .slice t x lo hi mx =>
    match ev ts x, oevX ts lo, oevX ts hi, oevX ts mx with
    | some a, some l, some h, some m => w2 (evSlice2 P mem t a l h m)
    | _, _, _, _ => none
  | .indexAddr t x i =>
    match ev ts x, ev ts i with
    | some a, some b => w2 (evIndexAddr2 P mem t a b)
    | _, _ => none
  | .convert s d x =>
    match ev ts x with
    | some a =>
      match evToBytes P s d a with
      | some (b, C) => some (.row base, [b], C)
      | none => w1 (evConv2 P mem s d a)
    | none => none
  | .makeSlice t l c => (evMake2 P ts t l c).map fun (b, C) => (.row base, [b], C)
  | .range t x =>
    match ev ts x with
    | some a => (evRange P t a).map fun b => (.ptr base [], [b], True)
    | none => none
  | .makeMap t none => (evMakeMap P t).map fun b => (.mp base, [b], True)
  | .lookup t m x ok =>
    match ev ts m, ev ts x with
    | some a, some b => w2 (evLookup P mem t a b ok)
    | _, _ => none
  | .makeInterface t x =>
    match ev ts x with
    | some a =>
      match ifcOf a with
      | some f => if P.concrete t = true then w1 (some (f t)) else none
      | none => none
    | none => none
  | .typeAssert x _ t ok =>
    match ev ts x with
    | some a => w2 (evAssert P a t ok)
    | none => none
  | .binOp op t x y _ =>
    match y, ev ts x with
    | .const .nilIface, some a => if ifaceTy P t = true then w1 (isNilI op a) else none
    | _, _ => none
  | .call c =>
    match c.callee with
    | .builtin .len =>
      match c.args.toList, c.argTypes.toList with
      | [x], [t] =>
        match ev ts x with
        | some a => w1 (evLen2 P t a)
        | none => none
      | _, _ => none
    | _ => none
  | _ => none
theorem pure_new {P : Program} {o : Oper} {ts : List AV} {mem : List Blk} {base : Nat} {av : AV} {new : List Blk} {C : Prop}
    (h : ∀ (B : Nat) (w : World) (G : Gh) (a : Act), C → MemR B w G mem → TmpsR w G ts a → ∃ v w' G', (execOp a.eval o).run P w = .ok (.value v) w' ∧ NewR w w' G G' base new ∧ ValR w' G' av v) : PureOp P o ts mem base av new C := by
  intro B w G a hC hm ht _ _ next Q hn
  obtain ⟨v, w', G', hr, hN, hv⟩ := h B w G a hC hm ht
  unfold Oper.wp
  rw [hr]
  exact hn v w' G' hN hv
theorem evMore_ok {P : Program} {o : Oper} {ts : List AV} {mem : List Blk} {base : Nat} {av : AV} {new : List Blk} {C : Prop} (he : evMore P ts mem base o = some (av, new, C)) : PureOp P o ts mem base av new C := by
  unfold evMore at he
  split at he
  · rename_i t x lo hi mx ho
    split at he
    · rename_i a l h m hx hlo hhi hmx
      obtain ⟨h1, rfl⟩ := w2_ok he
      refine pure_val fun B w G a' hC hm ht => ?_
      obtain ⟨r, hr, hv⟩ := evSlice2_ok hm h1 hC (ev_ok ht hx) (oevX_ok ht hlo) (oevX_ok ht hhi) (oevX_ok ht hmx)
      exact ⟨r, by simp only [execOp, ho, Sem.run_bind, hr, Result.andThen_ok, Sem.run_pure], hv⟩
    · cases he
  · rename_i t x i ho
    split at he
    · rename_i a b hx hi
      obtain ⟨h1, rfl⟩ := w2_ok he
      refine pure_val fun B w G a' hC hm ht => ?_
      obtain ⟨r, hr, hv⟩ := evIndexAddr2_ok h1 hC hm (ev_ok ht hx) (ev_ok ht hi)
      exact ⟨r, by simp only [execOp, ho, Sem.run_bind, hr, Result.andThen_ok, Sem.run_pure], hv⟩
    · cases he
  · rename_i s d x ho
    split at he
    · rename_i a hx
      split at he
      · rename_i b D hb
        simp only [Option.some.injEq, Prod.mk.injEq] at he
        obtain ⟨rfl, rfl, rfl⟩ := he
        unfold evToBytes at hb
        split at hb
        · rename_i d' el s' hs hd
          split at hb
          · rename_i hel
            have hBT : el = 5 := by
              by_cases h : el = 5
              · exact h
              · rw [if_neg h] at hb; cases hb
            rw [if_pos hBT] at hb
            simp only [Option.some.injEq, Prod.mk.injEq] at hb
            obtain ⟨rfl, rfl⟩ := hb
            refine pure_new fun B w G a' hC hm ht => ?_
            have e1 := val_str (ev_ok ht hx)
            obtain ⟨w', hr, hbel, hheap⟩ := run_toBytes (P := P) w ⟨s'.toArray⟩ hs hd hel
            have hge := grownCap_ge w s'.length 0 el
            have hle := grownCap_le_maxLen w s'.length 0 el (by unfold maxLen; omega)
            have hsl : (⟨s'.toArray⟩ : ByteArray).size = s'.length := str_size s'
            rw [hsl] at hr hheap
            refine ⟨.slice (some ⟨w.heap.size, 0, none⟩) s'.length (grownCap w s'.length 0 el), w', _, by simp only [execOp, ho, e1, Sem.run_bind, hr, Result.andThen_ok, Sem.run_pure], newRowX (n := s'.length) (cap := grownCap w s'.length 0 el) (cells := bCells s') (rest := zCells (grownCap w s'.length 0 el - s'.length)) (grownCap w s'.length 0 el, grownCap w s'.length 0 el + 1) (.inr ?_) rfl hheap hbel ?_ (by simp) hge hle ?_ hm.fz, ?_⟩
            · exact ⟨hBT, by simp [bCells, zCells]; omega⟩
            · exact CatR.bytes s'
            · simp [bCells, zCells, Sh.size]; omega
            · show [Value.slice _ _ _] = [_] ∧ _
              simp [Gh.put, Value.oneCell']
          · rename_i hel
            simp only [Option.some.injEq, Prod.mk.injEq] at hb
            obtain ⟨rfl, rfl⟩ := hb
            refine pure_new fun B w G a' hC hm ht => ?_
            have e1 := val_str (ev_ok ht hx)
            obtain ⟨w', hr, hbel, hheap⟩ := run_toRunes (P := P) w s' hs hd hel
            have hge := grownCap_ge w (runesL s').length 0 el
            have hle := grownCap_le_maxLen w (runesL s').length 0 el (by unfold maxLen; omega)
            refine ⟨.slice (some ⟨w.heap.size, 0, none⟩) (runesL s').length (grownCap w (runesL s').length 0 el), w', _, by simp only [execOp, ho, e1, Sem.run_bind, hr, Result.andThen_ok, Sem.run_pure], newRowX (n := (runesL s').length) (cap := grownCap w (runesL s').length 0 el) (cells := rCells (runesL s')) (rest := List.replicate (grownCap w (runesL s').length 0 el - (runesL s').length) (Value.int .i32 0)) (0, 0) (.inl rfl) rfl hheap hbel ?_ (by simp) hge hle ?_ hm.fz, ?_⟩
            · exact CatR.runes _
            · simp [rCells, Sh.size]; omega
            · show [Value.slice _ _ _] = [_] ∧ _
              simp [Gh.put, Value.oneCell']
          · cases hb
        · cases hb
      · obtain ⟨h1, rfl, rfl⟩ := w1_ok he
        refine pure_val fun B w G a' hC hm ht => ?_
        obtain ⟨r, hr, hv⟩ := evConv2_ok hm h1 (ev_ok ht hx)
        exact ⟨r, by simp only [execOp, ho, Sem.run_bind, hr, Result.andThen_ok, Sem.run_pure], hv⟩
    · cases he
  · rename_i t l c ho
    simp only [Option.map_eq_some_iff, Prod.mk.injEq, Prod.exists] at he
    obtain ⟨b, D, hb, rfl, rfl, rfl⟩ := he
    exact evMake2_ok ho hb
  · rename_i t x ho
    split at he
    · rename_i a hx
      simp only [Option.map_eq_some_iff, Prod.mk.injEq] at he
      obtain ⟨b, hb, rfl, rfl, rfl⟩ := he
      unfold evRange at hb
      split at hb
      · rename_i s hut
        simp only [Option.some.injEq] at hb
        subst hb
        refine pure_new fun B w G a' hC hm ht => ?_
        have e1 := val_str (ev_ok ht hx)
        refine ⟨_, _, _, by simp only [execOp, ho, e1, Sem.run_bind, run_range_string w t _ hut, Result.andThen_ok, Sem.run_pure]; rfl, newBlk (o := .stringIter ⟨s.toArray⟩ 0) rfl (fun G' => ⟨by simp [Gh.put], by simp only [Gh.put, if_true]; exact alloc_new w _⟩) (fun _ _ => rfl) hm.fz, ?_⟩
        show [Value.pointer _] = [Value.pointer _]
        simp [Gh.put, offs]
      · cases hb
    · cases he
  · rename_i t ho
    simp only [Option.map_eq_some_iff, Prod.mk.injEq] at he
    obtain ⟨b, hb, rfl, rfl, rfl⟩ := he
    unfold evMakeMap at hb
    split at hb
    · split at hb
      · rename_i k e hk he
        simp only [Option.some.injEq] at hb
        subst hb
        refine pure_new fun B w G a' hC hm ht => ?_
        refine ⟨.map (some w.heap.size), w.alloc (.map #[] 0), _, ?_, newBlk (o := .map #[] 0) rfl (fun G' => ⟨#[], 0, by simp only [Gh.put, if_true]; exact alloc_new w _, rfl⟩) (fun _ _ => rfl) hm.fz, ?_⟩
        · simp only [execOp, ho, Option.map_none, Instr.makeMap, newObj, Sem.run_bind, Sem.run, Result.andThen]
          rfl
        · show [Value.map _] = [Value.map _]
          simp [Gh.put]
      · cases hb
    · cases hb
  · rename_i t m x ok ho
    split at he
    · rename_i a b hx hi
      obtain ⟨h1, rfl⟩ := w2_ok he
      refine pure_val fun B w G a' hC hm ht => ?_
      obtain ⟨r, hr, hv⟩ := evLookup_ok hm h1 (ev_ok ht hx) (ev_ok ht hi)
      exact ⟨r, by simp only [execOp, ho, Sem.run_bind, hr, Result.andThen_ok, Sem.run_pure], hv⟩
    · cases he
  · rename_i t x ho
    split at he
    · rename_i a hx
      split at he
      · rename_i f hf
        split at he
        · rename_i hc
          obtain ⟨h1, rfl, rfl⟩ := w1_ok he
          simp only [Option.some.injEq] at h1; subst h1
          refine pure_val fun B w G a' hC hm ht => ?_
          exact ⟨_, by simp only [execOp, ho, Sem.run_bind, run_makeInterface (h := hc), Result.andThen_ok, Sem.run_pure], ifcOf_ok hf (ev_ok ht hx) t⟩
        · cases he
      · cases he
    · cases he
  · rename_i x xt t ok ho
    split at he
    · rename_i a hx
      obtain ⟨h1, rfl⟩ := w2_ok he
      refine pure_val fun B w G a' hC hm ht => ?_
      obtain ⟨r, hr, hv⟩ := evAssert_ok (xt := xt) h1 (ev_ok ht hx)
      exact ⟨r, by simp only [execOp, ho, Sem.run_bind, hr, Result.andThen_ok, Sem.run_pure], hv⟩
    · cases he
  · rename_i op t x y ty ho
    split at he
    · rename_i a hx
      split at he
      · rename_i ht
        obtain ⟨h1, rfl, rfl⟩ := w1_ok he
        refine pure_val fun B w G a' hC hm htm => ?_
        obtain ⟨r, hr, hv⟩ := isNilI_ok x h1 ht (ev_ok htm hx)
        refine ⟨r, ?_, hv⟩
        simp only [execOp, ho]
        rw [show (a'.eval (.const .nilIface)) = .nilIface from rfl, Sem.run_bind, hr]
        rfl
      · cases he
    · cases he
  · rename_i c ho
    obtain ⟨callee, args, tys⟩ := c
    simp only at he
    split at he
    · split at he
      · rename_i x t hargs htys
        split at he
        · rename_i a hx
          obtain ⟨h1, rfl, rfl⟩ := w1_ok he
          have e1 : args = #[x] := by apply Array.ext'; simpa using hargs
          have e2 : tys = #[t] := by apply Array.ext'; simpa using htys
          refine pure_val fun B w G a' hC hm ht => ?_
          obtain ⟨r, hr, hv⟩ := evLen2_ok (ty := o.type) h1 (ev_ok ht hx)
          refine ⟨r, ?_, hv⟩
          simp only [execOp, ho, resolve, Sem.run_bind, Sem.run_pure, Result.andThen_ok, invoke, builtin, e1, e2, List.map_toArray, List.map_cons, List.map_nil, hr]
        · cases he
      · cases he
    · cases he
  · cases he
end Go.Proofs.YtbpjinefbnlenaaGreatDoor
