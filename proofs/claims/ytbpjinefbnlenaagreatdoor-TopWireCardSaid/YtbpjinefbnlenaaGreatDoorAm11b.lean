/- A machine of values, part 11b: more operations that only compute: parts of own rows, rows longer than they are, runes, interfaces, maps. -/
import Derived.Test.YtbpjinefbnlenaaGreatDoorAm4b
import Derived.Test.YtbpjinefbnlenaaGreatDoorAm11
import Derived.Laws.RangeAny
import Derived.Laws.Cover4
import Derived.Laws.Runes
import Derived.Laws.Build
import Derived.Laws.RangeString
import Derived.WideLaws
namespace Go.Proofs.YtbpjinefbnlenaaGreatDoor
open Go Go.RowKit
set_option linter.unusedVariables false

/-! parts of own rows -/
theorem run_bound {P : Program} {w : World} (k : IntKind) (i : Int) (y : Nat) (c : BoundsCode) (h0 : 0 ≤ i) (h1 : i ≤ y) : (Instr.sliceBound (.int k i) y c).run P w = .ok i.toNat w := by
  simp only [Instr.sliceBound, asIntOf, Sem.run_bind, Sem.run_pure, Result.andThen_ok]
  rw [if_pos ⟨h0, h1⟩]
  rfl
def evSlice2 (P : Program) (mem : List Blk) (t : TypeId) (x : AV) (lo hi mx : Option AV) : Option (AV × Prop) :=
  match P.underlying t with
  | some (.slice el) =>
    match P.info? el with
    | some inf =>
      match mx with
      | none =>
        match oiAV lo, oiAV hi with
        | some lo, some hi =>
          match x with
          | .row r =>
            match lk mem r with
            | .row _ e l => if inf.size = e.size then some (.sub r e.size (loN lo) (hiN l.length hi - loN lo), subC l.length lo hi) else none
            | .rowl _ e l none => if inf.size = e.size then some (.sub r e.size (loN lo) (hiN l.length hi - loN lo), subC l.length lo hi) else none
            | _ => none
          | .sub r size s n => if inf.size = size then some (.sub r size (s + loN lo) (hiN n hi - loN lo), subC n lo hi) else none
          | _ => none
        | _, _ => none
      | some (.int _ m) =>
        match x, lo, hi with
        | .row r, none, some (.int _ h) =>
          match lk mem r with
          | .row _ _ l => if m = 0 ∧ h = 0 then some (.emp, True) else some (.unk, 0 ≤ h ∧ h ≤ m ∧ m ≤ l.length)
          | _ => none
        | .row r, some (.int _ lo), some (.int _ h) =>
          match lk mem r with
          | .row _ _ l => some (.unk, 0 ≤ lo ∧ lo ≤ h ∧ h ≤ m ∧ m ≤ l.length)
          | _ => none
        | _, _, _ => none
      | _ => none
    | none => none
  | _ => none
theorem row_val {B : Nat} {w : World} {G : Gh} {mem : List Blk} (hm : MemR B w G mem) {r : Nat} {t : TypeId} {e : Sh} {l : List e.T} (h : lk mem r = .row t e l) : ∃ ad cap, G.rowv r = .slice ad l.length cap ∧ l.length ≤ cap ∧ cap ≤ maxLen := by
  have hb := hm.blk r
  rw [h] at hb
  obtain ⟨_, cs, hrow, _⟩ := hb
  obtain ⟨a, cap, e, h1, h2, _⟩ := hrow.slice
  exact ⟨a, cap, e, h1, h2⟩
theorem rowl_val {B : Nat} {w : World} {G : Gh} {mem : List Blk} (hm : MemR B w G mem) {r : Nat} {t : TypeId} {e : Sh} {l : List e.T} {x : Option (Bool × AV)} (h : lk mem r = .rowl t e l x) : ∃ ad cap, G.rowv r = .slice ad (l.length + lstN x) cap ∧ l.length + lstN x ≤ cap ∧ cap ≤ maxLen := by
  have hb := hm.blk r
  rw [h] at hb
  obtain ⟨_, c1, c2, hrow, _⟩ := hb
  obtain ⟨a, cap, e, h1, h2, _⟩ := hrow.slice
  exact ⟨a, cap, e, h1, h2⟩
theorem addr_add_add (a : Addr) (x y : Nat) : (a.add x).add y = a.add (x + y) := by
  unfold Addr.add
  by_cases hx : x = 0
  · subst hx; simp
  · by_cases hy : y = 0
    · subst hy; simp [hx]
    · simp [hx, hy, Nat.add_assoc]
theorem run_bounds3 {P : Program} {w : World} {n cap : Nat} {lo : Option Value} {l : Int} {k2 k3 : IntKind} {h m : Int} (hl : (lo = none ∧ l = 0) ∨ ∃ k, lo = some (.int k l)) (h0 : 0 ≤ l) (h1 : l ≤ h) (h2 : h ≤ m) (h3 : m ≤ cap) :
    (Instr.sliceBounds true n cap lo (some (.int k2 h)) (some (.int k3 m))).run P w = .ok (l.toNat, h.toNat, m.toNat) w := by
  rcases hl with ⟨rfl, rfl⟩ | ⟨k, rfl⟩
  · simp [Instr.sliceBounds, run_bound k3 m cap _ (by omega) h3, run_bound k2 h m.toNat _ (by omega) (by omega)]
  · simp [Instr.sliceBounds, run_bound k3 m cap _ (by omega) h3, run_bound k2 h m.toNat _ (by omega) (by omega), run_bound k l h.toNat _ h0 (by omega)]
theorem evSlice2_ok {P : Program} {B : Nat} {w : World} {G : Gh} {mem : List Blk} (hm : MemR B w G mem) {t : TypeId} {x c : AV} {lo hi mx : Option AV} {u : Value} {vlo vhi vmx : Option Value} {C : Prop} (h : evSlice2 P mem t x lo hi mx = some (c, C)) (hC : C) (hu : ValR w G x u)
    (h1 : OV w G lo vlo) (h2 : OV w G hi vhi) (h3 : OV w G mx vmx) :
    ∃ r, (Instr.sliceAt t u vlo vhi vmx).run P w = .ok r w ∧ ValR w G c r := by
  unfold evSlice2 at h
  split at h
  · rename_i el hut
    split at h
    · rename_i inf hinf
      split at h
      · obtain rfl : vmx = none := by cases vmx with | none => rfl | some v => exact h3.elim
        split at h
        · rename_i lo' hi' hlo hhi
          have ol := oi_ok hlo h1
          have oh := oi_ok hhi h2
          split at h
          · rename_i r
            split at h
            · rename_i T e l hlk
              split at h
              · rename_i hz
                simp only [Option.some.injEq, Prod.mk.injEq] at h
                obtain ⟨rfl, rfl⟩ := h
                obtain ⟨e1, e2⟩ := (show [u] = [G.rowv r] ∧ _ from hu)
                obtain rfl : u = G.rowv r := by simpa using e1
                obtain ⟨ad, cap, hv, hlc, hcm⟩ := row_val hm hlk
                obtain ⟨g1, g2⟩ := subC_le hC
                refine ⟨.slice (if cap = loN lo' then ad else ad.map (·.add (loN lo' * inf.size))) (hiN l.length hi' - loN lo') (cap - loN lo'), ?_, ?_⟩
                · rw [hv]
                  simp only [Instr.sliceAt, Sem.run_bind, run_underlying hut, Result.andThen_ok, Instr.slice, run_bounds ol oh hC hlc, run_sz hinf, Sem.run_pure]
                · exact ⟨_, rfl, ad, l.length, cap, _, hv, hlc, hcm, rfl, by omega, fun hlt => by rw [if_neg (by omega), hz]⟩
              · cases h
            · rename_i T e l hlk
              split at h
              · rename_i hz
                simp only [Option.some.injEq, Prod.mk.injEq] at h
                obtain ⟨rfl, rfl⟩ := h
                obtain ⟨e1, e2⟩ := (show [u] = [G.rowv r] ∧ _ from hu)
                obtain rfl : u = G.rowv r := by simpa using e1
                obtain ⟨ad, cap, hv, hlc, hcm⟩ := rowl_val hm hlk
                rw [show lstN none = 0 from rfl, Nat.add_zero] at hv hlc
                obtain ⟨g1, g2⟩ := subC_le hC
                refine ⟨.slice (if cap = loN lo' then ad else ad.map (·.add (loN lo' * inf.size))) (hiN l.length hi' - loN lo') (cap - loN lo'), ?_, ?_⟩
                · rw [hv]
                  simp only [Instr.sliceAt, Sem.run_bind, run_underlying hut, Result.andThen_ok, Instr.slice, run_bounds ol oh hC hlc, run_sz hinf, Sem.run_pure]
                · exact ⟨_, rfl, ad, l.length, cap, _, hv, hlc, hcm, rfl, by omega, fun hlt => by rw [if_neg (by omega), hz]⟩
              · cases h
            · cases h
          · rename_i r size s n
            split at h
            · rename_i hz
              simp only [Option.some.injEq, Prod.mk.injEq] at h
              obtain ⟨rfl, rfl⟩ := h
              obtain ⟨v, e1, ad, N, cap, a', hv, hN, hcm, rfl, hle, ha⟩ := (show ∃ v, [u] = [v] ∧ SubR size s n (G.rowv r) v from hu)
              obtain rfl := (List.cons.inj e1).1
              obtain ⟨g1, g2⟩ := subC_le hC
              refine ⟨.slice (if cap - s = loN lo' then a' else a'.map (·.add (loN lo' * inf.size))) (hiN n hi' - loN lo') (cap - s - loN lo'), ?_, ?_⟩
              · simp only [Instr.sliceAt, Sem.run_bind, run_underlying hut, Result.andThen_ok, Instr.slice, run_bounds ol oh hC (show n ≤ cap - s by omega), run_sz hinf, Sem.run_pure]
              · refine ⟨_, rfl, ad, N, cap, _, hv, hN, hcm, by rw [Nat.sub_sub], by omega, fun hlt => ?_⟩
                rw [if_neg (by omega), ha (by omega), hz]
                cases ad with
                | none => rfl
                | some b => simp only [Option.map_some, addr_add_add, Nat.add_mul]
            · cases h
          · cases h
        · cases h
      · rename_i k m
        obtain ⟨vm, rfl⟩ : ∃ vm, vmx = some vm := by cases vmx with | none => exact h3.elim | some v => exact ⟨v, rfl⟩
        rw [val_int (show ValR w G (.int k m) vm from h3)]
        split at h
        · rename_i r k2 hh
          obtain rfl : vlo = none := by cases vlo with | none => rfl | some v => exact h1.elim
          obtain ⟨vh, rfl⟩ : ∃ vm, vhi = some vm := by cases vhi with | none => exact h2.elim | some v => exact ⟨v, rfl⟩
          rw [val_int (show ValR w G (.int k2 hh) vh from h2)]
          obtain ⟨e1, e2⟩ := (show [u] = [G.rowv r] ∧ _ from hu)
          obtain rfl : u = G.rowv r := by simpa using e1
          split at h
          · rename_i T e l hlk
            obtain ⟨ad, cap, hv, hlc, hcm⟩ := row_val hm hlk
            rw [hv]
            split at h
            · rename_i hz
              obtain ⟨rfl, rfl⟩ := hz
              simp only [Option.some.injEq, Prod.mk.injEq] at h
              obtain ⟨rfl, rfl⟩ := h
              refine ⟨.slice ad 0 0, ?_, ad, rfl⟩
              simp only [Instr.sliceAt, Sem.run_bind, run_underlying hut, Result.andThen_ok, Instr.slice, run_bounds3 (.inl ⟨rfl, rfl⟩) (Int.le_refl 0) (Int.le_refl 0) (Int.le_refl 0) (by omega : (0 : Int) ≤ cap), run_sz hinf, Sem.run_pure]
              rfl
            · simp only [Option.some.injEq, Prod.mk.injEq] at h
              obtain ⟨rfl, rfl⟩ := h
              obtain ⟨g1, g2, g3⟩ := hC
              refine ⟨.slice (if m.toNat = (0 : Int).toNat then ad else ad.map (·.add ((0 : Int).toNat * inf.size))) (hh.toNat - (0 : Int).toNat) (m.toNat - (0 : Int).toNat), ?_, trivial⟩
              simp only [Instr.sliceAt, Sem.run_bind, run_underlying hut, Result.andThen_ok, Instr.slice, run_bounds3 (lo := none) (.inl ⟨rfl, rfl⟩) (Int.le_refl 0) g1 g2 (by omega : m ≤ cap), run_sz hinf, Sem.run_pure]
          · cases h
        · rename_i r k1 lo1 k2 hh
          obtain ⟨vl, rfl⟩ : ∃ vm, vlo = some vm := by cases vlo with | none => exact h1.elim | some v => exact ⟨v, rfl⟩
          obtain ⟨vh, rfl⟩ : ∃ vm, vhi = some vm := by cases vhi with | none => exact h2.elim | some v => exact ⟨v, rfl⟩
          rw [val_int (show ValR w G (.int k2 hh) vh from h2), val_int (show ValR w G (.int k1 lo1) vl from h1)]
          obtain ⟨e1, e2⟩ := (show [u] = [G.rowv r] ∧ _ from hu)
          obtain rfl : u = G.rowv r := by simpa using e1
          split at h
          · rename_i T e l hlk
            obtain ⟨ad, cap, hv, hlc, hcm⟩ := row_val hm hlk
            rw [hv]
            simp only [Option.some.injEq, Prod.mk.injEq] at h
            obtain ⟨rfl, rfl⟩ := h
            obtain ⟨g0, g1, g2, g3⟩ := hC
            refine ⟨.slice (if m.toNat = lo1.toNat then ad else ad.map (·.add (lo1.toNat * inf.size))) (hh.toNat - lo1.toNat) (m.toNat - lo1.toNat), ?_, trivial⟩
            simp only [Instr.sliceAt, Sem.run_bind, run_underlying hut, Result.andThen_ok, Instr.slice, run_bounds3 (.inr ⟨k1, rfl⟩) g0 g1 g2 (by omega : m ≤ cap), run_sz hinf, Sem.run_pure]
          · cases h
        · cases h
      · cases h
    · cases h
  · cases h
/-- the length of a part, a place in it -/
def evLen2 (P : Program) (t : TypeId) (x : AV) : Option AV :=
  match P.underlying t, x with
  | some (.slice _), .sub _ _ _ n => some (.int .i64 n)
  | _, _ => none
theorem evLen2_ok {P : Program} {w : World} {G : Gh} {t ty : TypeId} {x c : AV} {u : Value} (h : evLen2 P t x = some c) (hu : ValR w G x u) : ∃ r, (Builtin.len_ #[t] ty #[u]).run P w = .ok r w ∧ ValR w G c r := by
  unfold evLen2 at h
  split at h
  · rename_i el r size lo n hut
    simp only [Option.some.injEq] at h
    subst h
    obtain ⟨v, e1, ad, N, cap, a', hv, hN, hcm, rfl, hle, ha⟩ := (show ∃ v, [u] = [v] ∧ SubR size lo n (G.rowv r) v from hu)
    obtain rfl := (List.cons.inj e1).1
    exact ⟨.int .i64 n, by simp [Builtin.len_, run_underlying hut, goInt], rfl⟩
  · cases h
def evIndexAddr2 (P : Program) (mem : List Blk) (t : TypeId) (x ix : AV) : Option (AV × Prop) :=
  match ix, x, P.underlying t with
  | .int k i, .sub r size lo n, some (.slice el) =>
    match P.info? el, lk mem r with
    | some inf, .row _ e _ => if inf.size = size ∧ e.size = size then some (.ptr r [.idx (lo + i.toNat) size], inR i n) else none
    | _, _ => none
  | _, _, _ => none
theorem evIndexAddr2_ok {P : Program} {B : Nat} {w : World} {G : Gh} {mem : List Blk} {t : TypeId} {x ix c : AV} {C : Prop} {u v : Value} (h : evIndexAddr2 P mem t x ix = some (c, C)) (hC : C) (hm : MemR B w G mem) (hu : ValR w G x u) (hv : ValR w G ix v) :
    ∃ r, (Instr.indexAt t u v).run P w = .ok r w ∧ ValR w G c r := by
  unfold evIndexAddr2 at h
  split at h
  · rename_i k i r size lo n el hut
    rw [val_int hv]
    split at h
    · rename_i inf T e l hinf hlk
      split at h
      · rename_i hz
        obtain ⟨hz, hez⟩ := hz
        simp only [Option.some.injEq, Prod.mk.injEq] at h
        obtain ⟨rfl, rfl⟩ := h
        obtain ⟨h0, h1⟩ := hC
        obtain ⟨v', e1, ad, N, cap, a', hrv, hN, hcm, rfl, hle, ha⟩ := (show ∃ v, [u] = [v] ∧ SubR size lo n (G.rowv r) v from hu)
        obtain rfl := (List.cons.inj e1).1
        have hb := hm.blk r
        rw [hlk] at hb
        obtain ⟨hga, cs, hrow, _⟩ := hb
        rcases hrow with ⟨hn, _, ax, hval⟩ | ⟨g, cap2, rest, hval, hcap, _, ho, _⟩
        · rw [hval] at hrv
          obtain ⟨_, rfl, rfl⟩ := Value.slice.inj hrv
          omega
        · have hg := hga g (by rw [hval]; cases cap2 with | zero => omega | succ n => rfl)
          rw [hval] at hrv
          obtain ⟨rfl, rfl, rfl⟩ := Value.slice.inj hrv
          rw [ha (by omega)]
          refine ⟨.pointer (some ((Addr.add ⟨g, 0, none⟩ (lo * size)).add (i.toNat * inf.size))), ?_, ?_⟩
          · simp only [Instr.indexAt, asIntOf, Sem.run_bind, Sem.run_pure, Result.andThen_ok, run_underlying hut, Option.map_some]
            rw [if_pos ⟨h0, h1⟩]
            simp only [Sem.run_bind, Sem.run_pure, Result.andThen_ok, run_sz hinf]
          · show [Value.pointer _] = [Value.pointer _]
            rw [addr_add_add, addr_add', hg, hz]
            simp [offs, Nat.add_mul]
      · cases h
    · cases h
  · cases h
/-! 'make' of a row that may grow -/
theorem newRowX {w : World} {G : Gh} {base n cap : Nat} {t : TypeId} {e : Sh} {l : List e.T} {cells rest : List Value} {o : Obj} {w' : World} (fr : Nat × Nat) (hfr : fr = (0, 0) ∨ (t = 5 ∧ (cells ++ rest).length ≤ fr.1)) (ho : o = .cells (cells ++ rest).toArray t fr) (hw' : w'.heap = w.heap.push o) (hbel : Below w.heap.size w w') (hc : CatR (ShR w G.fz e) l cells) (hl : l.length = n) (hnc : n ≤ cap) (hm : cap ≤ maxLen) (hcr : (cells ++ rest).length = cap * e.size) (hfz : ∀ b, G.fz b → b < w.heap.size) :
    NewR w w' G (G.put base ⟨w.heap.size, 0, none⟩ (.slice (some ⟨w.heap.size, 0, none⟩) n cap)) base [.row t e l] := by
  have hsz : w'.heap.size = w.heap.size + 1 := by rw [hw']; simp
  have hl0 : ∀ (j x : Nat), (lk [Blk.row t e l] j).live (G.put base ⟨w.heap.size, 0, none⟩ (.slice (some ⟨w.heap.size, 0, none⟩) n cap)) (base + j) = some x → j = 0 ∧ x = w.heap.size := by
    intro j x h
    cases j with
    | zero =>
      simp only [lk, Blk.live, Gh.put, List.getD_cons_zero, Nat.add_zero, if_true] at h
      cases cap with
      | zero => simp [rowBlk] at h
      | succ n => simp [rowBlk] at h; exact ⟨rfl, h.symm⟩
    | succ j => simp [lk, Blk.live] at h
  have hlen : cells.length = l.length * e.size := CatR.length (fun y c hy => ShR.length e y c hy) _ _ hc
  refine ⟨hbel, fun i hi => Gh.put_agree _ _ _ _ _ (by simp at hi; omega), fun _ h => h, fun _ h => .inl h, fun j => ?_, fun j k x hjk h1 h2 => ?_, fun j x h => ?_⟩
  · cases j with
    | zero =>
      refine ⟨fun g hg => ?_, cells, ?_, CatR.mono (fun y c hy => ShR.keep (fz := G.fz) ⟨hbel.size, fun b h hlt => hbel.block b hlt, fun _ h => h⟩ e y c hy) _ _ hc⟩
      · simp only [Gh.put, Nat.add_zero, if_true] at hg ⊢
        cases cap with
        | zero => simp [rowBlk] at hg
        | succ n => simp [rowBlk] at hg; rw [hg]
      · simp only [Gh.put, Nat.add_zero, if_true]
        rcases Nat.eq_zero_or_pos cap with h0 | h0
        · refine .inl ⟨by omega, ?_, _, by rw [show n = 0 by omega, h0]⟩
          apply List.length_eq_zero_iff.1
          rw [hlen, hl, show n = 0 by omega, Nat.zero_mul]
        · refine .inr ⟨w.heap.size, cap, rest, by rw [hl], h0, Nat.le_refl _, ?_, by omega, hm, hlen, hcr⟩
          refine ⟨fr, ?_, hfr⟩
          rw [hw', ← ho]
          simp
    | succ j => simp [lk, BlkR]
  · have := hl0 j x h1; have := hl0 k x h2; omega
  · obtain ⟨_, rfl⟩ := hl0 j x h
    exact ⟨Nat.le_refl _, by omega, fun hf => by have := hfz _ hf; omega⟩
/-- what a cell counts for: two of two bytes fit for each number -/
def makeW (b : Nat) : Nat := if b ≤ 2 then 1 else b + 1
def evMake2 (P : Program) (ts : List AV) (t : TypeId) (l c : Operand) : Option (Blk × Prop) :=
  match P.underlying t with
  | some (.slice el) =>
    match P.info? el, shOf P 12 el with
    | some inf, some e =>
      match inf.zero with
      | some z =>
        if (decide (inf.size = e.size) && (decide (0 < e.size) && (decide (inf.bytes ≤ 16384) && e.chk e.dflt z.cells.toList))) = true then
          match ev ts l, ev ts c with
          | some (.int _ n), some (.int _ m) => some (.row el e (List.replicate n.toNat e.dflt), 0 ≤ n ∧ (n ≤ m ∧ m * (makeW inf.bytes : Nat) ≤ 140737488355328))
          | _, _ => none
        else none
      | none => none
    | _, _ => none
  | _ => none
theorem evMake2_ok {P : Program} {o : Oper} {ts : List AV} {mem : List Blk} {base : Nat} {t : TypeId} {l c : Operand} {b : Blk} {C : Prop} (ho : o.op = .makeSlice t l c) (h : evMake2 P ts t l c = some (b, C)) :
    PureOp P o ts mem base (.row base) [b] C := by
  intro B w G a hC hm ht hrt hrm next Q hn
  unfold evMake2 at h
  split at h
  · rename_i el hut
    split at h
    · rename_i inf e hinf hsh
      split at h
      · rename_i z hz
        split at h
        · rename_i hcond
          simp only [Bool.and_eq_true, decide_eq_true_eq] at hcond
          obtain ⟨hsz, h0, hby, hchk⟩ := hcond
          split at h
          · rename_i k1 n k2 m hl hc
            simp only [Option.some.injEq, Prod.mk.injEq] at h
            obtain ⟨rfl, rfl⟩ := h
            obtain ⟨hn0, hnm, hn1⟩ := hC
            have el1 := val_int (ev_ok ht hl)
            have ec1 := val_int (ev_ok ht hc)
            have hb0 : (m : Int) ≤ 140737488355328 ∧ (inf.bytes : Int) * m ≤ 281474976710656 := by
              unfold makeW at hn1
              split at hn1
              · rename_i hb2
                have hm2 : (m : Int) ≤ 140737488355328 := by omega
                have : (inf.bytes : Int) * m ≤ 2 * m := Int.mul_le_mul_of_nonneg_right (by omega) (by omega)
                exact ⟨hm2, by omega⟩
              · have hb1 : (m : Int) * ((inf.bytes : Int) + 1) ≤ 140737488355328 := by simpa using hn1
                have hb2 : (inf.bytes : Int) * m + m ≤ 140737488355328 := by rw [Int.mul_add, Int.mul_one, Int.mul_comm] at hb1; exact hb1
                have hb3 : 0 ≤ (inf.bytes : Int) * m := Int.mul_nonneg (by omega) (by omega)
                exact ⟨by omega, by omega⟩
            obtain ⟨hb1, hb2⟩ := hb0
            have hr := run_make (P := P) w t el inf z hut hinf hz k1 k2 n m hn0 hnm (by omega) (by omega)
            have hzc : ShR w G.fz e e.dflt z.cells.toList := Sh.chk_ok e e.dflt _ hchk
            have hcat := made_cat hzc h0 m.toNat
            have hmx : m.toNat ≤ maxLen := by unfold maxLen; omega
            rw [show List.replicate m.toNat e.dflt = List.replicate n.toNat e.dflt ++ List.replicate (m.toNat - n.toNat) e.dflt by rw [List.replicate_append_replicate]; congr 1; omega] at hcat
            obtain ⟨ca, cb, hcc, h2, h3⟩ := CatR.split hcat
            have hla := CatR.length (fun y c hy => ShR.length e y c hy) _ _ h2
            have hlb := CatR.length (fun y c hy => ShR.length e y c hy) _ _ h3
            rw [List.length_replicate] at hla hlb
            unfold Oper.wp
            simp only [execOp, ho, el1, ec1, Sem.run_bind, hr, Result.andThen_ok, Sem.run_pure]
            rw [hsz]
            refine hn _ _ _ (newRowX (n := n.toNat) (cap := m.toNat) (cells := ca) (rest := cb) (0, 0) (.inl rfl) rfl (by rw [← hcc]; rfl) ((Below.refl _ _).alloc (Nat.le_refl _) _) h2 (by simp) (by omega) hmx (by rw [List.length_append, hla, hlb, ← Nat.add_mul]; congr 1; omega) hm.fz) ?_
            show [Value.slice _ _ _] = [_] ∧ _
            simp [Gh.put, Value.oneCell']
          · cases h
        · cases h
      · cases h
    · cases h
  · cases h
/-! texts and runes -/
def encL (n : Int) : List UInt8 := (Utf8.encode n).data.toList
def strOfRunes (l : List Int) : List UInt8 := l.flatMap encL
theorem runes_foldl : ∀ (l : List Int) (s : ByteArray), l.foldl (fun r n => r ++ Utf8.encode n) s = ⟨(s.data.toList ++ strOfRunes l).toArray⟩
  | [], s => by simp [strOfRunes]
  | n :: l, s => by
    rw [List.foldl_cons, runes_foldl l]
    congr 1
    simp [strOfRunes, encL, ByteArray.data_append]
theorem CatR.ints' {w : World} {fz : Nat → Prop} {k : IntKind} {l : List Int} {cs : List Value} (h : CatR (ShR w fz (.int k)) l cs) : cs = l.map (Value.int k) := CatR.ints h
def evConv2 (P : Program) (mem : List Blk) (src dst : TypeId) (a : AV) : Option AV :=
  match P.underlying src, P.underlying dst with
  | some (.int _), some .string =>
    match a with
    | .int _ n => some (.str (encL n))
    | _ => none
  | some (.slice e), some .string =>
    match P.underlying e with
    | some (.int .i32) =>
      match a with
      | .nilS => some (.str [])
      | .sl (.int .i32) l => some (.str (strOfRunes l))
      | .row r =>
        match lk mem r with
        | .row _ (.int .i32) l => some (.str (strOfRunes l))
        | _ => none
      | _ => none
    | some (.int .u8) =>
      match a with
      | .sub r size lo n =>
        match lk mem r with
        | .row _ (.int .u8) l => if size = 1 then some (.str (strOf ((l.take (lo + n)).drop lo))) else none
        | _ => none
      | _ => none
    | _ => none
  | _, _ => none
theorem evConv2_ok {P : Program} {B : Nat} {w : World} {G : Gh} {mem : List Blk} (hm : MemR B w G mem) {src dst : TypeId} {a av : AV} {u : Value} (h : evConv2 P mem src dst a = some av) (ha : ValR w G a u) : ∃ r, (convert src dst u).run P w = .ok r w ∧ ValR w G av r := by
  have runes : ∀ (e : TypeId) (fz : Nat → Prop) (l : List Int), P.underlying src = some (.slice e) → P.underlying e = some (.int .i32) → P.underlying dst = some .string → ShR w fz (.sl (.int .i32)) l [u] → ∃ r, (convert src dst u).run P w = .ok r w ∧ ValR w G (.str (strOfRunes l)) r := by
    intro e fz l h1 h2 h3 hl
    obtain ⟨ad, cap, e1, hlc, hcm, hx⟩ := hl
    obtain rfl := (List.cons.inj e1).1
    rw [run_convert_runes_string w src dst e ad l.length cap h1 h2 h3]
    cases ad with
    | none =>
      have h0 : l = [] := by
        rcases Nat.eq_zero_or_pos l.length with h0 | h0
        · exact List.length_eq_zero_iff.1 h0
        · obtain ⟨b, off, cells, e2, _⟩ := hx h0; cases e2
      subst h0
      exact ⟨.string .empty, by simp [Conv.runesToString, Sem.run_pure], rfl⟩
    | some ad =>
      refine ⟨_, run_runesToString w ad l.length cap l ?_, ?_⟩
      · rcases Nat.eq_zero_or_pos l.length with h0 | h0
        · have : l = [] := List.length_eq_zero_iff.1 h0
          subst this
          have := run_loadCells_list (P := P) w ad [] (fun j v hj => by simp at hj)
          simpa using this
        · obtain ⟨b, off, cells, e2, hf, hb, hc, hcell⟩ := hx h0
          obtain rfl := Option.some.inj e2
          have e3 := CatR.ints' hc
          subst e3
          have := run_loadCells_list (P := P) w ⟨b, off, none⟩ (l.map (Value.int .i32)) (fun j v hj => by rw [addr_add']; exact hcell j v hj)
          simpa using this
      · show [Value.string (runesBytes l)] = [Value.string _]
        unfold runesBytes
        rw [runes_foldl]
        rfl
  unfold evConv2 at h
  split at h
  · rename_i k h1 h2
    split at h
    · rename_i k' n
      simp only [Option.some.injEq] at h; subst h
      rw [val_int ha]
      exact ⟨_, run_convert_int_string w src dst _ n (by rw [h1]; rfl) h2, rfl⟩
    · cases h
  · rename_i e h1 h2
    split at h
    · rename_i h3
      split at h
      · simp only [Option.some.injEq] at h; subst h
        obtain rfl : u = .slice none 0 0 := by simpa using (show [u] = [Value.slice none 0 0] from ha)
        exact runes e (fun _ => True) [] h1 h3 h2 ⟨none, 0, rfl, Nat.le_refl _, Nat.zero_le _, fun h => absurd h (by simp)⟩
      · rename_i l
        simp only [Option.some.injEq] at h; subst h
        exact runes e G.fz l h1 h3 h2 ha
      · rename_i r
        split at h
        · rename_i T l hlk
          simp only [Option.some.injEq] at h; subst h
          have hv := row_view hm hlk
          obtain rfl : u = G.rowv r := by simpa using (show [u] = [G.rowv r] ∧ _ from ha).1
          exact runes e _ l h1 h3 h2 hv
        · cases h
      · cases h
    · rename_i h3
      split at h
      · rename_i r size lo n
        split at h
        · rename_i T l hlk
          split at h
          · rename_i hz
            subst hz
            simp only [Option.some.injEq] at h; subst h
            obtain ⟨v', e1, hs⟩ := (show ∃ v', [u] = [v'] ∧ SubR 1 lo n (G.rowv r) v' from ha)
            obtain rfl : u = v' := by simpa using e1
            have hv := (row_view hm hlk).subv (e := .int .u8) hs
            refine ⟨_, run_convBytes src e h1 h3 dst h2 hv, ?_⟩
            show [Value.string (strOfNums _)] = [Value.string ⟨(strOf _).toArray⟩]
            rfl
          · cases h
        · cases h
      · cases h
    · cases h
  · cases h
/-! new blocks of other kinds -/
theorem newBlk {w w' : World} {G : Gh} {base : Nat} {b : Blk} {o : Obj} (hw' : w' = w.alloc o) (hb : ∀ G' : Gh, BlkR w.heap.size w' (G'.put base ⟨w.heap.size, 0, none⟩ undef) base b) (hl : ∀ G' i, b.live G' i = some (G'.addr i).block) (hfz : ∀ b, G.fz b → b < w.heap.size) :
    NewR w w' G (G.put base ⟨w.heap.size, 0, none⟩ undef) base [b] := by
  subst hw'
  have hbl : Below w.heap.size w (w.alloc o) := (Below.refl _ _).alloc (Nat.le_refl _) _
  have hsz : (w.alloc o).heap.size = w.heap.size + 1 := by simp
  have hl0 : ∀ (j x : Nat), (lk [b] j).live (G.put base ⟨w.heap.size, 0, none⟩ undef) (base + j) = some x → j = 0 ∧ x = w.heap.size := by
    intro j x h
    cases j with
    | zero =>
      rw [show lk [b] 0 = b from rfl, hl] at h
      simp [Gh.put] at h; exact ⟨rfl, h.symm⟩
    | succ j => simp [lk, Blk.live] at h
  refine ⟨hbl, fun i hi => Gh.put_agree _ _ _ _ _ (by simp at hi; omega), fun _ h => h, fun _ h => .inl h, fun j => ?_, fun j k x hjk h1 h2 => ?_, fun j x h => ?_⟩
  · cases j with
    | zero => exact hb G
    | succ j => simp [lk, BlkR]
  · have := hl0 j x h1; have := hl0 k x h2; omega
  · obtain ⟨_, rfl⟩ := hl0 j x h
    exact ⟨Nat.le_refl _, by omega, fun hf => by have := hfz _ hf; omega⟩
/-! interfaces -/
def ifcOf : AV → Option ((t : TypeId) → AV)
  | .int k n => some fun t => .ifc t (.int k) n true
  | .bool b => some fun t => .ifc t .bool b true
  | .str s => some fun t => .ifc t .str s true
  | _ => none
theorem ifcOf_ok {w : World} {G : Gh} {a : AV} {f : TypeId → AV} {u : Value} (h : ifcOf a = some f) (ha : ValR w G a u) (t : TypeId) : ValR w G (f t) (.iface t u) := by
  unfold ifcOf at h
  split at h <;> try (simp only [Option.some.injEq] at h; subst h)
  · exact ⟨fun _ => ⟨u, rfl, by rw [val_int ha]; rfl, ha⟩, fun h => by cases h⟩
  · exact ⟨fun _ => ⟨u, rfl, by rw [val_bool ha]; rfl, ha⟩, fun h => by cases h⟩
  · exact ⟨fun _ => ⟨u, rfl, by rw [val_str ha]; rfl, ha⟩, fun h => by cases h⟩
  · cases h
def flatSh : Sh → Bool
  | .int _ | .bool | .str => true
  | _ => false
theorem flatSh_val {w : World} {G : Gh} {e : Sh} {x : e.T} {v : Value} (h : flatSh e = true) : ValR0 w G (e.av x) v ↔ ShR w G.fz e x [v] := by
  cases e <;> first | exact Iff.rfl | cases h
def notAggV : Value → Bool
  | .agg _ => false
  | _ => true
theorem notAggV_ok {v : Value} (h : notAggV v = true) : v.cells = #[v] := by cases v <;> first | rfl | cases h
def evAssert (P : Program) (x : AV) (t : TypeId) (ok : Bool) : Option (AV × Prop) :=
  match x, P.info? t, ok with
  | .ifc t' e y b, some inf, true =>
    match P.underlying t, inf.zero with
    | some (.interface _), _ => none
    | some _, some z => if t' = t ∧ flatSh e = true ∧ e.chk e.dflt z.cells.toList = true ∧ notAggV z = true then some (.tup (.cons (e.av (bif b then y else e.dflt)) (.cons (.bool b) .nil)), True) else none
    | _, _ => none
  | _, _, _ => none
theorem evAssert_ok {P : Program} {w : World} {G : Gh} {x c : AV} {xt t : TypeId} {ok : Bool} {C : Prop} {u : Value} (h : evAssert P x t ok = some (c, C)) (hu : ValR w G x u) : ∃ r, (Instr.typeAssert u xt t ok).run P w = .ok r w ∧ ValR w G c r := by
  unfold evAssert at h
  split at h
  · rename_i t' e y b inf hinf
    split at h
    · cases h
    · rename_i d z hnot hut hz
      split at h
      · rename_i hc
        obtain ⟨rfl, hfl, hchk, hzc⟩ := hc
        simp only [Option.some.injEq, Prod.mk.injEq] at h
        obtain ⟨rfl, rfl⟩ := h
        have hzr : ValR0 w G (e.av e.dflt) z := by
          rw [flatSh_val hfl]
          have := Sh.chk_ok (w := w) (fz := G.fz) e e.dflt _ hchk
          rw [notAggV_ok hzc] at this
          exact this
        cases b with
        | true =>
          obtain ⟨v, e1, h1, h2⟩ := (show CellsR w G (.ifc t' e y true) [u] from hu).1 rfl
          obtain rfl := (List.cons.inj e1).1
          refine ⟨.tuple #[v, .bool true], ?_, _, rfl, v, _, rfl, (flatSh_val hfl).2 h2, _, _, rfl, rfl, rfl⟩
          cases d <;> first | exact absurd rfl (hnot _) | simp [Instr.typeAssert, run_underlying hut, Sem.run_pure]
        | false =>
          have e1 := (show CellsR w G (.ifc t' e y false) [u] from hu).2 rfl
          obtain rfl := (List.cons.inj e1).1
          refine ⟨.tuple #[z, .bool false], ?_, _, rfl, z, _, rfl, hzr, _, _, rfl, rfl, rfl⟩
          cases d <;> first | exact absurd rfl (hnot _) | simp [Instr.typeAssert, run_underlying hut, run_zero hinf hz]
      · cases h
    · cases h
  · cases h
def isNilI (op : BinOp) (a : AV) : Option AV :=
  match op, a with
  | .eql, .ifc _ _ _ b => some (.bool (!b))
  | .neq, .ifc _ _ _ b => some (.bool b)
  | .eql, .opq b => some (.bool (!b))
  | .neq, .opq b => some (.bool b)
  | _, _ => none
def ifaceTy (P : Program) (t : TypeId) : Bool :=
  match P.underlying t with
  | some (.interface _) => true
  | _ => false
theorem ifaceTy_ok {P : Program} {t : TypeId} (h : ifaceTy P t = true) : P.underlying t = some (.interface (P.methodsAt t)) := by
  unfold ifaceTy at h
  split at h
  · rename_i ms hu
    rw [hu]; simp [Program.methodsAt, hu]
  · cases h
theorem isNilI_ok {P : Program} {w : World} {G : Gh} {op : BinOp} {t : TypeId} {a c : AV} {u : Value} (x : Operand) (h : isNilI op a = some c) (ht : ifaceTy P t = true) (hu : ValR w G a u) :
    ∃ r, (do eqGuard op t x (.const .nilIface) u .nilIface; binOp op t u .nilIface : Sem Value).run P w = .ok r w ∧ ValR w G c r := by
  have hut := ifaceTy_ok ht
  have cases2 : ∀ b : Bool, ((b = true → ∃ t v, u = .iface t v) ∧ (b = false → u = .nilIface)) →
      (∃ r, (do eqGuard .eql t x (.const .nilIface) u .nilIface; binOp .eql t u .nilIface : Sem Value).run P w = .ok r w ∧ ValR w G (.bool (!b)) r) ∧
      (∃ r, (do eqGuard .neq t x (.const .nilIface) u .nilIface; binOp .neq t u .nilIface : Sem Value).run P w = .ok r w ∧ ValR w G (.bool b) r) := by
    intro b hb
    cases b with
    | true =>
      obtain ⟨t', v, rfl⟩ := hb.1 rfl
      exact ⟨⟨_, by simp [eqGuard, run_eql_held_nil w t t' v hut], rfl⟩, ⟨_, by simp [eqGuard, run_neq_held_nil w t t' v hut], rfl⟩⟩
    | false =>
      obtain rfl := hb.2 rfl
      exact ⟨⟨_, by simp [eqGuard_nil_constR, run_eql_nil_nil w t hut], rfl⟩, ⟨_, by simp [eqGuard_nil_constR, run_neq_nil_nil w t hut], rfl⟩⟩
  have hi : ∀ t' e y b, a = .ifc t' e y b → ((b = true → ∃ t v, u = .iface t v) ∧ (b = false → u = .nilIface)) := by
    intro t' e y b ha
    subst ha
    have hh := (show CellsR w G (.ifc t' e y b) [u] from hu)
    exact ⟨fun hb => by obtain ⟨v, e1, _⟩ := hh.1 hb; exact ⟨_, _, (List.cons.inj e1).1⟩, fun hb => (List.cons.inj (hh.2 hb)).1⟩
  have ho : ∀ b, a = .opq b → ((b = true → ∃ t v, u = .iface t v) ∧ (b = false → u = .nilIface)) := by
    intro b ha
    subst ha
    have hh := (show CellsR w G (.opq b) [u] from hu)
    exact ⟨fun hb => by obtain ⟨t, v, e1⟩ := hh.1 hb; exact ⟨_, _, (List.cons.inj e1).1⟩, fun hb => (List.cons.inj (hh.2 hb)).1⟩
  unfold isNilI at h
  split at h <;> try (simp only [Option.some.injEq] at h; subst h)
  · exact (cases2 _ (hi _ _ _ _ rfl)).1
  · exact (cases2 _ (hi _ _ _ _ rfl)).2
  · exact (cases2 _ (ho _ rfl)).1
  · exact (cases2 _ (ho _ rfl)).2
  · cases h
end Go.Proofs.YtbpjinefbnlenaaGreatDoor
