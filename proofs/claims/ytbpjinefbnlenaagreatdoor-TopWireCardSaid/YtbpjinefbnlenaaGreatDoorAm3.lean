/- A machine of values, part 3: the machine's state and the model's; new blocks. -/
import Derived.Test.YtbpjinefbnlenaaGreatDoorAm2
import Derived.Laws.OwnMore
import Derived.Outline
import Derived.Orders
namespace Go.Proofs.YtbpjinefbnlenaaGreatDoor
open Go Go.RowKit
set_option linter.unusedVariables false

/-- new blocks 'new' at the places from 'base' on -/
def putOver : List Blk → List Blk → List Blk
  | [], n => n
  | x :: m, [] => x :: m
  | _ :: m, b :: n => b :: putOver m n
def memPutB : Nat → List Blk → List Blk → List Blk
  | 0, mem, n => putOver mem n
  | b + 1, mem, n => mem.headD .dead :: memPutB b mem.tail n
def memPut (mem : List Blk) (base : Nat) (new : List Blk) : List Blk := memPutB base mem new
theorem lk_putOver : ∀ (m n : List Blk) (i : Nat), lk (putOver m n) i = if i < n.length then lk n i else lk m i
  | [], n, i => by
    simp only [putOver]
    split
    · rfl
    · rename_i h
      simp only [lk, List.getD_eq_getElem?_getD]
      rw [List.getElem?_eq_none (by omega), List.getElem?_nil]
  | x :: m, [], i => by simp [putOver]
  | x :: m, b :: n, 0 => by simp [putOver, lk]
  | x :: m, b :: n, i + 1 => by
    have := lk_putOver m n i
    simpa [putOver, lk] using this
theorem lk_memPut : ∀ (base : Nat) (mem new : List Blk) (i : Nat), lk (memPut mem base new) i = if base ≤ i ∧ i < base + new.length then lk new (i - base) else lk mem i
  | 0, m, n, i => by
    have := lk_putOver m n i
    simp only [memPut, memPutB, Nat.zero_le, true_and, Nat.zero_add, Nat.sub_zero]
    exact this
  | base + 1, m, n, 0 => by cases m <;> simp [memPut, memPutB, lk]
  | base + 1, m, n, i + 1 => by
    have h := lk_memPut base m.tail n i
    have e1 : (base + 1 ≤ i + 1 ∧ i + 1 < base + 1 + n.length) = (base ≤ i ∧ i < base + n.length) := by apply propext; omega
    have e2 : i + 1 - (base + 1) = i - base := by omega
    have e3 : lk m (i + 1) = lk m.tail i := by cases m <;> simp [lk]
    simp only [e1, e2, e3]
    simpa [memPut, memPutB, lk] using h

theorem OwnAt.keep {w w' : World} {g : Nat} {t : TypeId} {cs rest : List Value} (h : OwnAt w g t cs rest) (hk : w'.heap[g]? = w.heap[g]?) : OwnAt w' g t cs rest := by
  obtain ⟨fr, h1, h2⟩ := h
  exact ⟨fr, hk.trans h1, h2⟩
theorem OwnAt.lt {w : World} {g : Nat} {t : TypeId} {cs rest : List Value} (h : OwnAt w g t cs rest) : g < w.heap.size := by
  obtain ⟨fr, h1, _⟩ := h
  exact (Array.getElem?_eq_some_iff.1 h1).1
theorem OwnAt.cell {w : World} {g : Nat} {t : TypeId} {cs rest : List Value} (h : OwnAt w g t cs rest) {i : Nat} {v : Value} (hi : cs[i]? = some v) : w.cell? ⟨g, i, none⟩ = some v := by
  have hlt : i < cs.length := (List.getElem?_eq_some_iff.1 hi).1
  obtain ⟨fr, h, _⟩ := h
  simp only [World.cell?, h]
  simp [List.getElem?_append_left hlt, hi]
theorem RowV.blk {B : Nat} {w : World} {t : TypeId} {size : Nat} {v : Value} {n : Nat} {cs : List Value} (h : RowV B w t size v n cs) {g : Nat} (hg : rowBlk v = some g) : B ≤ g ∧ g < w.heap.size := by
  rcases h with ⟨_, _, a, rfl⟩ | ⟨g', cap, rest, rfl, hc, hB, ho, _⟩
  · simp [rowBlk] at hg
  · cases cap with
    | zero => omega
    | succ c => simp [rowBlk] at hg; subst hg; exact ⟨hB, ho.lt⟩
theorem RowV.keep {B : Nat} {w w' : World} {t : TypeId} {size : Nat} {v : Value} {n : Nat} {cs : List Value} (h : RowV B w t size v n cs) (hk : ∀ g, rowBlk v = some g → w'.heap[g]? = w.heap[g]?) : RowV B w' t size v n cs := by
  rcases h with h | ⟨g, cap, rest, rfl, hc, hB, ho, h1⟩
  · exact .inl h
  · refine .inr ⟨g, cap, rest, rfl, hc, hB, ho.keep (hk g ?_), h1⟩
    cases cap with
    | zero => omega
    | succ c => rfl
theorem RowV.mono {B B' : Nat} {w : World} {t : TypeId} {size : Nat} {v : Value} {n : Nat} {cs : List Value} (h : RowV B w t size v n cs) (hB : B' ≤ B) : RowV B' w t size v n cs := by
  rcases h with h | ⟨g, cap, rest, e, hc, hB', h1⟩
  · exact .inl h
  · exact .inr ⟨g, cap, rest, e, hc, by omega, h1⟩
theorem RowV.slice {B : Nat} {w : World} {t : TypeId} {size : Nat} {v : Value} {n : Nat} {cs : List Value} (h : RowV B w t size v n cs) : ∃ a cap, v = .slice a n cap ∧ n ≤ cap ∧ cap ≤ maxLen ∧ cs.length = n * size := by
  rcases h with ⟨rfl, rfl, a, rfl⟩ | ⟨g, cap, rest, rfl, hc, hB', ho, h1, h2, h3, _⟩
  · exact ⟨a, 0, rfl, Nat.le_refl _, Nat.zero_le _, by simp⟩
  · exact ⟨_, cap, rfl, h1, h2, h3⟩
theorem RowV.one {B : Nat} {w : World} {t : TypeId} {size : Nat} {v : Value} {n : Nat} {cs : List Value} (h : RowV B w t size v n cs) : v.oneCell' = true := by
  obtain ⟨a, cap, rfl, _⟩ := h.slice
  rfl

theorem RowO.blk {B : Nat} {w : World} {t : TypeId} {size : Nat} {v : Value} {n : Nat} {cs : List Value} (h : RowO B w t size v n cs) {g : Nat} (hg : rowBlk v = some g) : B ≤ g ∧ g < w.heap.size := by
  rcases h with ⟨_, _, a, rfl⟩ | ⟨g', pre, cap, rest, rfl, hc, hB, ho, _⟩
  · simp [rowBlk] at hg
  · cases cap with
    | zero => omega
    | succ c => simp [rowBlk] at hg; subst hg; exact ⟨hB, ho.lt⟩
theorem RowO.keep {B : Nat} {w w' : World} {t : TypeId} {size : Nat} {v : Value} {n : Nat} {cs : List Value} (h : RowO B w t size v n cs) (hk : ∀ g, rowBlk v = some g → w'.heap[g]? = w.heap[g]?) : RowO B w' t size v n cs := by
  rcases h with h | ⟨g, pre, cap, rest, rfl, hc, hB, ho, h1⟩
  · exact .inl h
  · refine .inr ⟨g, pre, cap, rest, rfl, hc, hB, ho.keep (hk g ?_), h1⟩
    cases cap with
    | zero => omega
    | succ c => rfl
theorem RowO.mono {B B' : Nat} {w : World} {t : TypeId} {size : Nat} {v : Value} {n : Nat} {cs : List Value} (h : RowO B w t size v n cs) (hB : B' ≤ B) : RowO B' w t size v n cs := by
  rcases h with h | ⟨g, pre, cap, rest, e, hc, hB', h1⟩
  · exact .inl h
  · exact .inr ⟨g, pre, cap, rest, e, hc, by omega, h1⟩
theorem RowO.slice {B : Nat} {w : World} {t : TypeId} {size : Nat} {v : Value} {n : Nat} {cs : List Value} (h : RowO B w t size v n cs) : ∃ a cap, v = .slice a n cap ∧ n ≤ cap ∧ cap ≤ maxLen ∧ cs.length = n * size := by
  rcases h with ⟨rfl, rfl, a, rfl⟩ | ⟨g, pre, cap, rest, rfl, hc, hB', ho, h1, h2, h3, _⟩
  · exact ⟨a, 0, rfl, Nat.le_refl _, Nat.zero_le _, by simp⟩
  · exact ⟨_, cap, rfl, h1, h2, h3⟩
theorem RowO.one {B : Nat} {w : World} {t : TypeId} {size : Nat} {v : Value} {n : Nat} {cs : List Value} (h : RowO B w t size v n cs) : v.oneCell' = true := by
  obtain ⟨a, cap, rfl, _⟩ := h.slice
  rfl
/-- the row's cells stand where it begins -/
theorem RowO.at {B : Nat} {w : World} {t : TypeId} {size : Nat} {v : Value} {n : Nat} {cs : List Value} (h : RowO B w t size v n cs) {a : Addr} (ha : RowAt v a) {j : Nat} {u : Value} (hj : cs[j]? = some u) : w.cell? ⟨a.block, a.off + j, none⟩ = some u := by
  rcases h with ⟨_, rfl, _⟩ | ⟨g, pre, cap, rest, hv, hc, hB, ho, _⟩
  · simp at hj
  · rw [ha g _ n cap hv hc]
    show w.cell? ⟨g, pre.length + j, none⟩ = some u
    exact ho.cell (by rw [List.getElem?_append_right (by omega), Nat.add_sub_cancel_left]; exact hj)

/-- a block of the machine in a later world: its own block is as it was -/
theorem BlkR.keep {B B' : Nat} {w w' : World} {G G' : Gh} {i : Nat} {b : Blk} (h : BlkR B w G i b) (hk : Keeps G.fz G'.fz w w') (ha : Agree G G' i) (hr : ∀ r ∈ b.refs, Agree G G' r) (hB : B' ≤ B)
    (hl : ∀ x, b.live G i = some x → w'.heap[x]? = w.heap[x]?) : BlkR B' w' G' i b := by
  cases b with
  | dead => trivial
  | box t c =>
    obtain ⟨h1, cs, h2, h3⟩ := h
    refine ⟨by rw [ha.addr]; exact h1, cs, ?_, CellsR.keep hk c cs hr h3⟩
    rw [ha.addr]
    exact h2.keep (hl _ rfl)
  | row t e l =>
    obtain ⟨h1, cs, h2, h3⟩ := h
    refine ⟨fun g hg => by rw [ha.addr]; exact h1 g (by rw [← ha.rowv]; exact hg), cs, ?_, CatR.mono (fun x c hx => ShR.keep hk e x c hx) _ _ h3⟩
    rw [ha.rowv]
    exact (h2.keep (fun g hg => hl g hg)).mono hB
  | bbuf t e l =>
    obtain ⟨⟨h1, cs, h2, h3⟩, h4⟩ := h
    refine ⟨⟨fun g hg => by rw [ha.addr]; exact h1 g (by rw [← ha.rowv]; exact hg), cs, ?_, CatR.mono (fun x c hx => ShR.keep hk e x c hx) _ _ h3⟩, by rw [ha.rowv]; exact h4⟩
    rw [ha.rowv]
    exact (h2.keep (fun g hg => hl g hg)).mono hB
  | rowl t e l x =>
    obtain ⟨h1, c1, c2, h2, h3, h4⟩ := h
    refine ⟨by rw [ha.addr, ha.rowv]; exact h1, c1, c2, ?_, CatR.mono (fun x c hx => ShR.keep hk e x c hx) _ _ h3, LstR.keep hk x c2 hr h4⟩
    rw [ha.rowv]
    exact (h2.keep (fun g hg => hl g hg)).mono hB
  | sav ts a => exact ⟨h.1.keep hk (fun t r hr' => hr r (sav_refs hr')), h.2⟩
  | iter s pos =>
    simp only [BlkR] at h ⊢
    rw [ha.addr]
    exact ⟨h.1, (hl _ rfl).trans h.2⟩
  | map t k e l =>
    obtain ⟨es, clock, h1, h2⟩ := h
    refine ⟨es, clock, ?_, AllR.mono (fun x y hxy => hxy.keep hk) _ _ h2⟩
    rw [ha.addr]
    exact (hl _ rfl).trans h1
theorem live_agree {G G' : Gh} {i : Nat} (b : Blk) (ha : Agree G G' i) : b.live G' i = b.live G i := by
  cases b <;> simp [Blk.live, ha.addr, ha.rowv]

/-- what an operation that writes nothing of the machine's has made -/
structure NewR (w w' : World) (G G' : Gh) (base : Nat) (new : List Blk) : Prop where
  below : Below w.heap.size w w'
  agree : ∀ i, i < base ∨ base + new.length ≤ i → Agree G G' i
  fz1 : ∀ b, G.fz b → G'.fz b
  fz2 : ∀ b, G'.fz b → G.fz b ∨ (w.heap.size ≤ b ∧ b < w'.heap.size)
  blk : ∀ j, BlkR w.heap.size w' G' (base + j) (lk new j)
  apart : ∀ (j k x : Nat), j ≠ k → (lk new j).live G' (base + j) = some x → (lk new k).live G' (base + k) ≠ some x
  own : ∀ (j x : Nat), (lk new j).live G' (base + j) = some x → w.heap.size ≤ x ∧ x < w'.heap.size ∧ ¬ G'.fz x
theorem NewR.keeps {w w' : World} {G G' : Gh} {base : Nat} {new : List Blk} (h : NewR w w' G G' base new) : Keeps G.fz G'.fz w w' :=
  ⟨h.below.size, fun b _ hb => h.below.block b hb, h.fz1⟩
theorem NewR.none {w w' : World} {G : Gh} {base : Nat} (h : Below w.heap.size w w') : NewR w w' G G base [] :=
  ⟨h, fun _ _ => ⟨rfl, rfl⟩, fun _ h => h, fun _ h => .inl h, fun _ => trivial, fun j k x _ h => by simp [lk, Blk.live] at h, fun j x h => by simp [lk, Blk.live] at h⟩
theorem MemR.more {B : Nat} {w w' : World} {G G' : Gh} {mem new : List Blk} {base : Nat} (hm : MemR B w G mem) (hn : NewR w w' G G' base new)
    (hdead : ∀ i, base ≤ i → i < base + new.length → lk mem i = .dead) (hrefs : ∀ i r, r ∈ (lk mem i).refs → r < base ∨ base + new.length ≤ r) : MemR B w' G' (memPut mem base new) := by
  have hk := hn.keeps
  have hold : ∀ i, ¬ (base ≤ i ∧ i < base + new.length) → Agree G G' i := fun i hi => hn.agree i (by omega)
  have hblk : ∀ i x, ¬ (base ≤ i ∧ i < base + new.length) → (lk mem i).live G' i = some x → (lk mem i).live G i = some x := fun i x hi h => by rw [← live_agree (lk mem i) (hold i hi)]; exact h
  refine ⟨fun i => ?_, fun i j x hij hi hj => ?_, fun i x hi => ?_, fun b hb => ?_, hm.base.keep hn.below.size (fun k h0 => hn.below.block k (Nat.lt_of_lt_of_le h0 hm.base.1))⟩
  · rw [lk_memPut]
    split
    · rename_i h
      have := hn.blk (i - base)
      rw [show base + (i - base) = i by omega] at this
      revert this
      cases lk new (i - base) with
      | dead => intro _; trivial
      | box t c => intro h; exact h
      | sav ts a => intro h; exact h
      | iter s pos => intro h; exact h
      | map t k e l => intro h; exact h
      | row t e l => intro h; exact ⟨h.1, h.2.imp fun cs h2 => ⟨h2.1.mono hm.base.1, h2.2⟩⟩
      | bbuf t e l => intro h; exact ⟨⟨h.1.1, h.1.2.imp fun cs h2 => ⟨h2.1.mono hm.base.1, h2.2⟩⟩, h.2⟩
      | rowl t e l x => intro h; obtain ⟨h1, c1, c2, h2, h3⟩ := h; exact ⟨h1, c1, c2, h2.mono hm.base.1, h3⟩
    · rename_i h
      refine (hm.blk i).keep hk (hold i h) (fun r hr => hn.agree r (hrefs i r hr)) (Nat.le_refl _) (fun x hx => ?_)
      exact hn.below.block x (hm.own i x hx).2.1
  · rw [lk_memPut] at hi hj
    split at hi <;> split at hj
    · rename_i h1 h2
      have := hn.apart (i - base) (j - base) x (by omega)
      rw [show base + (i - base) = i by omega, show base + (j - base) = j by omega] at this
      exact this hi hj
    · rename_i h1 h2
      have a := hn.own (i - base) x
      rw [show base + (i - base) = i by omega] at a
      have b := hm.own j x (hblk j x h2 hj)
      have := a hi
      omega
    · rename_i h1 h2
      have a := hn.own (j - base) x
      rw [show base + (j - base) = j by omega] at a
      have b := hm.own i x (hblk i x h1 hi)
      have := a hj
      omega
    · rename_i h1 h2
      exact hm.apart i j x hij (hblk i x h1 hi) (hblk j x h2 hj)
  · rw [lk_memPut] at hi
    split at hi
    · rename_i h1
      have a := hn.own (i - base) x
      rw [show base + (i - base) = i by omega] at a
      have := a hi
      exact ⟨Nat.le_trans hm.base.1 this.1, this.2⟩
    · rename_i h1
      have b := hm.own i x (hblk i x h1 hi)
      refine ⟨b.1, Nat.lt_of_lt_of_le b.2.1 hn.below.size, fun hf => ?_⟩
      rcases hn.fz2 x hf with h | h
      · exact b.2.2 h
      · omega
  · rcases hn.fz2 b hb with h | h
    · exact Nat.lt_of_lt_of_le (hm.fz b h) hn.below.size
    · exact h.2

def tput (ts : List AV) (d : Option Tmp) (v : AV) : List AV :=
  match d with
  | some t => ts.set t v
  | none => ts
theorem TmpsR.put {w : World} {G : Gh} {ts : List AV} {a : Act} (h : TmpsR w G ts a) (d : Option Tmp) {av : AV} {v : Value} (hv : ValR w G av v) : TmpsR w G (tput ts d av) (a.put d v) := by
  cases d with
  | none => exact h
  | some t =>
    refine ⟨by simp [tput, Act.put, h.size], fun i => ?_⟩
    have := h.val i
    simp only [tput, Act.put, List.getD_eq_getElem?_getD, List.getElem?_set]
    by_cases e : t = i
    · subst e
      by_cases hlt : t < ts.length
      · have hlt' : t < a.tmps.size := by rw [h.size]; exact hlt
        simp [hlt, hlt', Array.getD]
        exact hv
      · have hlt' : ¬ t < a.tmps.size := by rw [h.size]; exact hlt
        simp [hlt]
        trivial
    · rw [if_neg e]
      have e2 : (a.tmps.setIfInBounds t v).getD i undef = a.tmps.getD i undef := by
        simp only [Array.getD_eq_getD_getElem?, Array.getElem?_setIfInBounds, if_neg e]
      rw [e2]
      simpa [List.getD_eq_getElem?_getD] using this
/-- a constant -/
def cav : Value → Option AV
  | .int k n => some (.int k n)
  | .bool b => some (.bool b)
  | .string s => some (.str s.data.toList)
  | .slice none 0 0 => some .nilS
  | .pointer none => some .nilP
  | .nilIface => some (.opq false)
  | .func (.func f) first captured => if first.size = 0 ∧ captured.size = 0 then some (.fn f .nil) else none
  | _ => none
theorem cav_ok {w : World} {G : Gh} {v : Value} {a : AV} (h : cav v = some a) : ValR w G a v := by
  unfold cav at h
  split at h <;> try simp only [Option.some.injEq] at h
  · subst h; rfl
  · subst h; rfl
  · subst h; rfl
  · subst h; rfl
  · subst h; rfl
  · subst h; exact ⟨fun h => (by cases h), fun _ => rfl⟩
  · rename_i f first captured
    split at h
    · rename_i hz
      simp only [Option.some.injEq] at h
      subst h
      obtain ⟨h1, h2⟩ := hz
      have e1 : first = #[] := Array.eq_empty_of_size_eq_zero h1
      have e2 : captured = #[] := Array.eq_empty_of_size_eq_zero h2
      subst e1; subst e2
      exact ⟨[], rfl, rfl⟩
    · cases h
  · cases h
/-- an operand -/
def ev (ts : List AV) : Operand → Option AV
  | .tmp t => some (ts.getD t .unk)
  | .const v => cav v
  | .func f => some (.fn f .nil)
  | .global _ => none
theorem ev_ok {w : World} {G : Gh} {ts : List AV} {a : Act} (h : TmpsR w G ts a) {x : Operand} {av : AV} (he : ev ts x = some av) : ValR w G av (a.eval x) := by
  cases x with
  | tmp t => simp only [ev, Option.some.injEq] at he; subst he; exact h.val t
  | const v => exact cav_ok he
  | func f => simp only [ev, Option.some.injEq] at he; subst he; exact ⟨[], rfl, rfl⟩
  | global g => cases he
theorem ev_refs {ts : List AV} {x : Operand} {av : AV} (he : ev ts x = some av) {r : Nat} (hr : r ∈ av.refs) : ∃ t, r ∈ (ts.getD t .unk).refs := by
  cases x with
  | tmp t => simp only [ev, Option.some.injEq] at he; subst he; exact ⟨t, hr⟩
  | const v =>
    exfalso
    simp only [ev] at he
    unfold cav at he
    split at he <;> try simp only [Option.some.injEq] at he
    · subst he; simp [AV.refs] at hr
    · subst he; simp [AV.refs] at hr
    · subst he; simp [AV.refs] at hr
    · subst he; simp [AV.refs] at hr
    · subst he; simp [AV.refs] at hr
    · subst he; simp [AV.refs] at hr
    · split at he
      · simp only [Option.some.injEq] at he; subst he; simp [AV.refs] at hr
      · cases he
    · cases he
  | func f => simp only [ev, Option.some.injEq] at he; subst he; simp [AV.refs] at hr
  | global g => cases he
end Go.Proofs.YtbpjinefbnlenaaGreatDoor
