/- A machine of values, part 2: parts of a value, by paths. -/
import Derived.Test.YtbpjinefbnlenaaGreatDoorAm1
namespace Go.Proofs.YtbpjinefbnlenaaGreatDoor
open Go Go.RowKit
set_option linter.unusedVariables false

/-- a machine's value as a datum -/
def AV.toSh : (s : Sh) → AV → Option s.T
  | .int k, .int k' n => if k = k' then some n else none
  | .bool, .bool b => some b
  | .str, .str s => some s
  | .unit, .nil => some ()
  | .pair a b, .cons x y =>
    match AV.toSh a x, AV.toSh b y with
    | some u, some v => some (u, v)
    | _, _ => none
  | .st a, .st x => AV.toSh a x
  | .arr n a, .arr n' e l => if h : e = a then (if n = n' then some (h ▸ l) else none) else none
  | .sl a, .sl e l => if h : e = a then some (h ▸ l) else none
  | .sl a, .nilS => some []
  | .sl a, .emp => some []
  | _, _ => none
theorem maxLen_zero : 0 ≤ maxLen := Nat.zero_le _
theorem AV.toSh_ok {w : World} {G : Gh} : ∀ (s : Sh) (a : AV) (x : s.T) (cs : List Value), AV.toSh s a = some x → CellsR w G a cs → ShR w G.fz s x cs
  | .int k, .int k' n, x, cs, h, hc => by
    simp only [AV.toSh] at h
    split at h
    · rename_i e; subst e; simp only [Option.some.injEq] at h; subst h; exact hc
    · cases h
  | .bool, .bool b, x, cs, h, hc => by simp only [AV.toSh, Option.some.injEq] at h; subst h; exact hc
  | .str, .str b, x, cs, h, hc => by simp only [AV.toSh, Option.some.injEq] at h; subst h; exact hc
  | .unit, .nil, x, cs, h, hc => hc
  | .pair a b, .cons u v, x, cs, h, hc => by
    simp only [AV.toSh] at h
    split at h
    · rename_i p q hp hq
      simp only [Option.some.injEq] at h; subst h
      obtain ⟨c1, c2, e, h1, h2⟩ := hc
      exact ⟨c1, c2, e, AV.toSh_ok a u p c1 hp h1, AV.toSh_ok b v q c2 hq h2⟩
    · cases h
  | .st a, .st u, x, cs, h, hc => AV.toSh_ok a u x cs h hc
  | .arr n a, .arr n' e l, x, cs, h, hc => by
    simp only [AV.toSh] at h
    split at h
    · rename_i e1
      subst e1
      split at h
      · rename_i e2
        subst e2
        simp only [Option.some.injEq] at h; subst h
        exact hc
      · cases h
    · cases h
  | .sl a, .sl e l, x, cs, h, hc => by
    simp only [AV.toSh] at h
    split at h
    · rename_i e1
      subst e1
      simp only [Option.some.injEq] at h; subst h
      exact hc
    · cases h
  | .sl a, .nilS, x, cs, h, hc => by
    simp only [AV.toSh, Option.some.injEq] at h; subst h
    exact ⟨none, 0, hc, Nat.le_refl _, maxLen_zero, fun h0 => absurd h0 (by simp)⟩
  | .sl a, .emp, x, cs, h, hc => by
    simp only [AV.toSh, Option.some.injEq] at h; subst h
    obtain ⟨ad, hc⟩ := hc
    exact ⟨ad, 0, hc, Nat.le_refl _, maxLen_zero, fun h0 => absurd h0 (by simp)⟩

/-- the field 'i', at the offset 'off', of a struct's contents -/
def AV.fldGet : Nat → Nat → AV → Option AV
  | 0, off, .cons a _ => if off = 0 then some a else none
  | 0, off, a => if off = 0 then some a else none
  | i + 1, off, .cons a b => if a.size ≤ off then AV.fldGet i (off - a.size) b else none
  | _, _, _ => none
def AV.fldSet : Nat → AV → AV → Option AV
  | 0, x, .cons _ b => some (.cons x b)
  | 0, x, _ => some x
  | i + 1, x, .cons a b => (AV.fldSet i x b).map (.cons a ·)
  | _, _, _ => none
theorem fld_ok {w : World} {G : Gh} : ∀ (i off : Nat) (a c : AV) (cs : List Value), AV.fldGet i off a = some c → CellsR w G a cs →
    ∃ c1 c2 c3, cs = c1 ++ c2 ++ c3 ∧ c1.length = off ∧ CellsR w G c c2 ∧ ∀ x a' c2', AV.fldSet i x a = some a' → CellsR w G x c2' → CellsR w G a' (c1 ++ c2' ++ c3) := by
  intro i
  have last : ∀ (off : Nat) (a c : AV) (cs : List Value), (if off = 0 then some a else none) = some c → CellsR w G a cs → (∀ x, AV.fldSet 0 x a = some x) →
    ∃ c1 c2 c3, cs = c1 ++ c2 ++ c3 ∧ c1.length = off ∧ CellsR w G c c2 ∧ ∀ x a' c2', AV.fldSet 0 x a = some a' → CellsR w G x c2' → CellsR w G a' (c1 ++ c2' ++ c3) := by
    intro off a c cs h hc hs
    split at h
    · rename_i e
      subst e
      simp only [Option.some.injEq] at h; subst h
      refine ⟨[], cs, [], by simp, rfl, hc, fun x a' c2' hset hx => ?_⟩
      rw [hs x] at hset
      simp only [Option.some.injEq] at hset; subst hset
      simpa using hx
    · cases h
  induction i with
  | zero =>
    intro off a c cs h hc
    cases a with
    | cons a b =>
      simp only [AV.fldGet] at h
      split at h
      · rename_i e
        subst e
        simp only [Option.some.injEq] at h; subst h
        obtain ⟨c1, c2, rfl, h1, h2⟩ := hc
        refine ⟨[], c1, c2, by simp, rfl, h1, fun x a' c2' hset hx => ?_⟩
        simp only [AV.fldSet, Option.some.injEq] at hset; subst hset
        exact ⟨c2', c2, by simp, hx, h2⟩
      · cases h
    | _ => exact last off _ c cs h hc (fun x => rfl)
  | succ i ih =>
    intro off a c cs h hc
    cases a with
    | cons a b =>
      simp only [AV.fldGet] at h
      split at h
      · rename_i hle
        obtain ⟨c1, c2, rfl, h1, h2⟩ := hc
        obtain ⟨d1, d2, d3, rfl, hl, hd, hset⟩ := ih _ b c c2 h h2
        have hz := CellsR.length a c1 h1
        refine ⟨c1 ++ d1, d2, d3, by simp, by rw [List.length_append]; omega, hd, fun x a' c2' hs hx => ?_⟩
        simp only [AV.fldSet, Option.map_eq_some_iff] at hs
        obtain ⟨b', hb', rfl⟩ := hs
        exact ⟨c1, d1 ++ c2' ++ d3, by simp, h1, hset x b' c2' hb' hx⟩
      · cases h
    | _ => simp [AV.fldGet] at h

def AV.get : List Step → AV → Option (AV × Prop)
  | [], a => some (a, True)
  | .fld i off :: p, .st a =>
    match AV.fldGet i off a with
    | some c => AV.get p c
    | none => none
  | .idx k s :: p, .arr n e l =>
    if s = e.size then
      match AV.get p (e.av (l.getD k e.dflt)) with
      | some (c, C) => some (c, k < n ∧ C)
      | none => none
    else none
  | _, _ => none
def AV.set : List Step → AV → AV → Option (AV × Prop)
  | [], v, a => if v.size = a.size then some (v, True) else none
  | .fld i off :: p, v, .st a =>
    match AV.fldGet i off a with
    | some c =>
      match AV.set p v c with
      | some (c', C) =>
        match AV.fldSet i c' a with
        | some a' => some (.st a', C)
        | none => none
      | none => none
    | none => none
  | .idx k s :: p, v, .arr n e l =>
    if s = e.size then
      match AV.set p v (e.av (l.getD k e.dflt)) with
      | some (c', C) =>
        match AV.toSh e c' with
        | some x => some (.arr n e (l.set k x), k < n ∧ C)
        | none => none
      | none => none
    else none
  | _, _, _ => none
theorem getD_some {α : Type} {l : List α} {k : Nat} {d : α} (h : k < l.length) : l[k]? = some (l.getD k d) := by
  rw [List.getD_eq_getElem?_getD, List.getElem?_eq_getElem h]; rfl
theorem AV.get_ok {w : World} {G : Gh} : ∀ (p : List Step) (a c : AV) (C : Prop) (cs : List Value), AV.get p a = some (c, C) → C → CellsR w G a cs →
    ∃ c1 c2 c3, cs = c1 ++ c2 ++ c3 ∧ c1.length = offs p ∧ CellsR w G c c2 := by
  intro p
  induction p with
  | nil =>
    intro a c C cs h _ hc
    simp only [AV.get, Option.some.injEq, Prod.mk.injEq] at h
    obtain ⟨rfl, _⟩ := h
    exact ⟨[], cs, [], by simp, rfl, hc⟩
  | cons s p ih =>
    intro a c C cs h hC hc
    cases s with
    | fld i off =>
      cases a with
      | st a =>
        simp only [AV.get] at h
        split at h
        · rename_i d hd
          obtain ⟨c1, c2, c3, rfl, hl, h2, _⟩ := fld_ok i off a d cs hd hc
          obtain ⟨d1, d2, d3, rfl, hl2, h3⟩ := ih d c C c2 h hC h2
          exact ⟨c1 ++ d1, d2, d3 ++ c3, by simp, by rw [List.length_append, hl, hl2]; rfl, h3⟩
        · cases h
      | _ => simp [AV.get] at h
    | idx k sz =>
      cases a with
      | arr n e l =>
        simp only [AV.get] at h
        split at h
        · rename_i hs
          subst hs
          split at h
          · rename_i d D hd
            simp only [Option.some.injEq, Prod.mk.injEq] at h
            obtain ⟨rfl, rfl⟩ := h
            obtain ⟨hk, hD⟩ := hC
            obtain ⟨hn, hcat⟩ := hc
            obtain ⟨c1, c2, c3, rfl, hl, h2, _⟩ := CatR.at (fun x c hx => ShR.length e x c hx) hcat (getD_some (d := e.dflt) (by omega : k < l.length))
            obtain ⟨d1, d2, d3, rfl, hl2, h3⟩ := ih _ d D c2 hd hD ((CellsR.av e _ _).2 h2)
            exact ⟨c1 ++ d1, d2, d3 ++ c3, by simp, by rw [List.length_append, hl, hl2]; rfl, h3⟩
          · cases h
        · cases h
      | _ => simp [AV.get] at h
    | lst o => cases a <;> simp [AV.get] at h
theorem AV.set_ok {w : World} {G : Gh} : ∀ (p : List Step) (v a a' : AV) (C : Prop) (cs : List Value), AV.set p v a = some (a', C) → C → CellsR w G a cs →
    ∃ c1 c2 c3, cs = c1 ++ c2 ++ c3 ∧ c1.length = offs p ∧ c2.length = v.size ∧ ∀ c2', CellsR w G v c2' → CellsR w G a' (c1 ++ c2' ++ c3) := by
  intro p
  induction p with
  | nil =>
    intro v a a' C cs h _ hc
    simp only [AV.set] at h
    split at h
    · rename_i hz
      simp only [Option.some.injEq, Prod.mk.injEq] at h
      obtain ⟨rfl, _⟩ := h
      exact ⟨[], cs, [], by simp, rfl, by rw [CellsR.length a cs hc, hz], fun c2' h2 => by simpa using h2⟩
    · cases h
  | cons s p ih =>
    intro v a a' C cs h hC hc
    cases s with
    | fld i off =>
      cases a with
      | st a =>
        simp only [AV.set] at h
        split at h
        · rename_i d hd
          split at h
          · rename_i d' D hd'
            split at h
            · rename_i a1 ha1
              simp only [Option.some.injEq, Prod.mk.injEq] at h
              obtain ⟨rfl, rfl⟩ := h
              obtain ⟨c1, c2, c3, rfl, hl, h2, hset⟩ := fld_ok i off a d cs hd hc
              obtain ⟨d1, d2, d3, rfl, hl2, hz, h3⟩ := ih v d d' D c2 hd' hC h2
              refine ⟨c1 ++ d1, d2, d3 ++ c3, by simp, by rw [List.length_append, hl, hl2]; rfl, hz, fun c2' hc2 => ?_⟩
              have := hset d' a1 _ ha1 (h3 c2' hc2)
              simpa [CellsR] using this
            · cases h
          · cases h
        · cases h
      | _ => simp [AV.set] at h
    | idx k sz =>
      cases a with
      | arr n e l =>
        simp only [AV.set] at h
        split at h
        · rename_i hs
          subst hs
          split at h
          · rename_i d D hd
            split at h
            · rename_i x hx
              simp only [Option.some.injEq, Prod.mk.injEq] at h
              obtain ⟨rfl, rfl⟩ := h
              obtain ⟨hk, hD⟩ := hC
              obtain ⟨hn, hcat⟩ := hc
              have hkl : k < l.length := by omega
              obtain ⟨c1, c2, c3, rfl, hl, h2, ht, hdr⟩ := CatR.at (fun x c hx => ShR.length e x c hx) hcat (getD_some (d := e.dflt) hkl)
              obtain ⟨d1, d2, d3, rfl, hl2, hz, h3⟩ := ih v _ d D c2 hd hD ((CellsR.av e _ _).2 h2)
              refine ⟨c1 ++ d1, d2, d3 ++ c3, by simp, by rw [List.length_append, hl, hl2]; rfl, hz, fun c2' hc2 => ?_⟩
              refine ⟨by rw [List.length_set]; exact hn, ?_⟩
              have hd2 := AV.toSh_ok e d x _ hx (h3 c2' hc2)
              have := CatR.set hkl ht hd2 hdr
              simpa using this
            · cases h
          · cases h
        · cases h
      | _ => simp [AV.set] at h
    | lst o => cases a <;> simp [AV.set] at h

theorem offs_append (p q : List Step) : offs (p ++ q) = offs p + offs q := by
  induction p with
  | nil => simp [offs]
  | cons s p ih => cases s <;> simp [offs, ih, Nat.add_assoc]
theorem list_one {α : Type} {c : List α} (h : c.length = 1) : ∃ v, c = [v] := by
  match c, h with
  | [v], _ => exact ⟨v, rfl⟩
theorem CatR.all {α : Type} {R : α → List Value → Prop} {p : Value → Prop} (h : ∀ x c, R x c → ∀ v ∈ c, p v) : ∀ (l : List α) (cs : List Value), CatR R l cs → ∀ v ∈ cs, p v
  | [], _, e, v, hv => by simp only [CatR] at e; subst e; simp at hv
  | x :: l, _, ⟨c1, c2, e, h1, h2⟩, v, hv => by
    subst e
    rcases List.mem_append.1 hv with hv | hv
    · exact h x c1 h1 v hv
    · exact CatR.all h l c2 h2 v hv
theorem ShR.one {w : World} {fz : Nat → Prop} : ∀ (s : Sh) (x : s.T) (cs : List Value), ShR w fz s x cs → ∀ v ∈ cs, v.oneCell' = true
  | .int k, x, cs, h => by simp only [ShR] at h; subst h; intro v hv; simp at hv; subst hv; rfl
  | .bool, x, cs, h => by simp only [ShR] at h; subst h; intro v hv; simp at hv; subst hv; rfl
  | .str, x, cs, h => by simp only [ShR] at h; subst h; intro v hv; simp at hv; subst hv; rfl
  | .unit, x, cs, h => by simp only [ShR] at h; subst h; intro v hv; simp at hv
  | .pair a b, x, cs, h => by
    obtain ⟨c1, c2, rfl, h1, h2⟩ := h
    intro v hv
    rcases List.mem_append.1 hv with hv | hv
    · exact ShR.one a _ _ h1 v hv
    · exact ShR.one b _ _ h2 v hv
  | .st a, x, cs, h => ShR.one a x cs h
  | .arr n a, x, cs, h => CatR.all (fun y c hy => ShR.one a y c hy) x cs h.2
  | .sl a, x, cs, h => by obtain ⟨_, _, rfl, _⟩ := h; intro v hv; simp at hv; subst hv; rfl
theorem CatR.one' {w : World} {fz : Nat → Prop} (e : Sh) : ∀ (l : List e.T) (cs : List Value), CatR (ShR w fz e) l cs → ∀ v ∈ cs, v.oneCell' = true
  | l, cs, h => ShR.one (.arr l.length e) l cs ⟨rfl, h⟩
theorem CellsR.one {w : World} {G : Gh} : ∀ (a : AV) (cs : List Value), CellsR w G a cs → ∀ v ∈ cs, v.oneCell' = true
  | .unk, cs, h => by obtain ⟨v, rfl, hv⟩ := h; intro u hu; simp at hu; subst hu; exact hv
  | .int k n, cs, h => by simp only [CellsR] at h; subst h; intro v hv; simp at hv; subst hv; rfl
  | .bool k, cs, h => by simp only [CellsR] at h; subst h; intro v hv; simp at hv; subst hv; rfl
  | .str k, cs, h => by simp only [CellsR] at h; subst h; intro v hv; simp at hv; subst hv; rfl
  | .nil, cs, h => by simp only [CellsR] at h; subst h; intro v hv; simp at hv
  | .cons a b, cs, h => by
    obtain ⟨c1, c2, rfl, h1, h2⟩ := h
    intro v hv
    rcases List.mem_append.1 hv with hv | hv
    · exact CellsR.one a _ h1 v hv
    · exact CellsR.one b _ h2 v hv
  | .st a, cs, h => CellsR.one a cs h
  | .arr n e l, cs, h => ShR.one (.arr n e) l cs h
  | .sl e l, cs, h => ShR.one (.sl e) l cs h
  | .nilS, cs, h => by simp only [CellsR] at h; subst h; intro v hv; simp at hv; subst hv; rfl
  | .row r, cs, h => by obtain ⟨rfl, h1⟩ := h; intro v hv; simp at hv; subst hv; exact h1
  | .ptr b p, cs, h => by simp only [CellsR] at h; subst h; intro v hv; simp at hv; subst hv; rfl
  | .slf b z, cs, h => by simp only [CellsR] at h; subst h; intro v hv; rw [List.mem_singleton] at hv; subst hv; rfl
  | .nilP, cs, h => by simp only [CellsR] at h; subst h; intro v hv; simp at hv; subst hv; rfl
  | .fn f caps, cs, h => by obtain ⟨vs, rfl, _⟩ := h; intro v hv; simp at hv; subst hv; rfl
  | .tup _, _, h => h.elim
  | .emp, cs, h => by obtain ⟨a, rfl⟩ := h; intro v hv; simp at hv; subst hv; rfl
  | .sub r size lo n, cs, h => by obtain ⟨u, rfl, h1⟩ := h; intro v hv; simp at hv; subst hv; exact h1.one
  | .mp r, cs, h => by simp only [CellsR] at h; subst h; intro v hv; simp at hv; subst hv; rfl
  | .ifc t e x b, cs, h => by
    cases b with
    | true => obtain ⟨v, rfl, _⟩ := h.1 rfl; intro v hv; simp at hv; subst hv; rfl
    | false => rw [h.2 rfl]; intro v hv; simp at hv; subst hv; rfl
  | .opq b, cs, h => by
    cases b with
    | true => obtain ⟨t, v, rfl⟩ := h.1 rfl; intro v hv; simp at hv; subst hv; rfl
    | false => rw [h.2 rfl]; intro v hv; simp at hv; subst hv; rfl
  | .pv c, cs, h => by obtain ⟨b, off, rfl, _⟩ := h; intro v hv; simp at hv; subst hv; rfl
/-- is it a struct or an array? -/
def AV.agg : AV → Bool
  | .st _ | .arr _ _ _ => true
  | _ => false
/-- one cell, and no struct or array -/
def AV.flat : AV → Bool
  | .int .. | .bool .. | .str .. | .sl .. | .nilS | .row .. | .ptr .. | .slf .. | .nilP | .fn .. | .emp | .pv .. | .sub .. | .mp .. | .ifc .. | .opq .. => true
  | _ => false
theorem ValR0.flat {w : World} {G : Gh} {a : AV} (h : a.flat = true) {v : Value} : ValR0 w G a v ↔ CellsR w G a [v] := by
  cases a <;> first | exact Iff.rfl | cases h
theorem ValR.of0 {w : World} {G : Gh} {a : AV} {v : Value} (h : ValR0 w G a v) (ht : ∀ b, a ≠ .tup b) : ValR w G a v := by
  cases a <;> first | exact h | exact absurd rfl (ht _)
theorem ValR.to0 {w : World} {G : Gh} {a : AV} {v : Value} (h : ValR w G a v) (ht : ∀ b, a ≠ .tup b) : ValR0 w G a v := by
  cases a <;> first | exact h | exact absurd rfl (ht _)
/-- a value's cells -/
theorem ValR0.cells {w : World} {G : Gh} {a : AV} {v : Value} (h : ValR0 w G a v) (hf : a.flat || a.agg) : CellsR w G a v.cells.toList := by
  have one : ∀ a : AV, a.flat = true → CellsR w G a [v] → CellsR w G a v.cells.toList := by
    intro a _ hc
    have := CellsR.one a [v] hc v (by simp)
    have e : v.cells = #[v] := by cases v <;> first | rfl | simp [Value.oneCell'] at this
    rw [e]; exact hc
  cases a with
  | st a => obtain ⟨cs, rfl, h1⟩ := h; exact h1
  | arr n e l => obtain ⟨cs, rfl, h1⟩ := h; exact h1
  | unk | nil | cons | tup => cases hf
  | _ => exact one _ rfl h
end Go.Proofs.YtbpjinefbnlenaaGreatDoor
