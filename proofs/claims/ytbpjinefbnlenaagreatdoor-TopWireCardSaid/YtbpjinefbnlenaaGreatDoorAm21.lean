/- A machine of values, part 21: the rule for drawn regions. -/
import Derived.Test.YtbpjinefbnlenaaGreatDoorAm20
namespace Go.Proofs.YtbpjinefbnlenaaGreatDoor
open Go Go.RowKit
set_option linter.unusedVariables false

def tailOk (masks : List Nat) (m n : Nat) : Bool := (List.range n).all fun i => decide (i < m) || (List.range i).all fun j => (masks.getD i 0).testBit j
theorem tailOk_ok {masks : List Nat} {m n : Nat} (h : tailOk masks m n = true) : ∀ i, m ≤ i → i < n → ∀ j, j < i → (masks.getD i 0).testBit j = true := by
  intro i h1 h2 j h3
  unfold tailOk at h
  rw [List.all_eq_true] at h
  have := h i (List.mem_range.2 h2)
  rw [Bool.or_eq_true, decide_eq_true_eq] at this
  rcases this with h4 | h4
  · omega
  · rw [List.all_eq_true] at h4
    exact h4 j (List.mem_range.2 h3)
def backB : Nat → List Oper → Bool
  | _, [] => true
  | k, o :: l => o.after.toList.all (fun e => !Region.binds .any e || decide (e.on < k)) && backB (k + 1) l
theorem backB_ok : ∀ (l : List Oper) (k : Nat), backB k l = true → ∀ (i : Nat) (o : Oper), l[i]? = some o → ∀ e ∈ o.after, Region.binds .any e = true → e.on < k + i
  | [], k, _, i, o, h => by simp at h
  | q :: l, k, h, i, o, hi => by
    simp only [backB, Bool.and_eq_true, List.all_eq_true, Bool.or_eq_true, Bool.not_eq_true', decide_eq_true_eq] at h
    cases i with
    | zero =>
      simp at hi; subst hi
      intro e he hb
      rcases h.1 e (by simpa using he) with h1 | h1
      · rw [hb] at h1; cases h1
      · exact h1
    | succ i =>
      intro e he hb
      have := backB_ok l (k + 1) h.2 i o (by simpa using hi) e he hb
      omega
theorem befs_lt {ops : List Oper} (hb : backB 0 ops = true) : ∀ (i : Nat) (j : Nat), i < ops.length → ((befs [] ops).getD i 0).testBit j = true → j < i := by
  intro i
  induction i using Nat.strongRecOn with
  | _ i ih =>
    intro j hi hj
    obtain ⟨e, h1, h2, h3⟩ := befs_get ops [] i _ (List.getElem?_eq_getElem hi) j (by simpa using hj)
    have he := backB_ok ops 0 hb i _ (List.getElem?_eq_getElem hi) e (by simpa using h1) h2
    rw [Nat.zero_add] at he
    rcases h3 with h3 | h3
    · omega
    · have := ih e.on he j (by omega) h3
      omega
def memAt (D : Nat → Bool) (rs : List PR) (mem : List Blk) : List Blk := effMem D 0 rs (minMem D 0 rs mem)
/-- a drawn region: the first m operations, in any order -/
def evHead (P : Program) (m : Nat) (kill : List (Nat × Nat)) (ops : List Oper) (hs : List Hint) (ts : List AV) (mem : List Blk) : Option (List AV × List Blk × Prop) :=
  match evPreGo P ops (befs [] ops) kill (ops.take m) ts mem 0 (ops.take m) hs [] mem.length with
  | some (rs, C) =>
    if (decide (m ≤ ops.length) && (okDst ts.length rs && (asc mem.length rs && (okEff mem.length kill (befs [] ops) rs 0 rs && (okRefs (befs [] ops) rs 0 rs && (tailOk (befs [] ops) m ops.length && (backB 0 ops &&
        ((minTs (fun _ => true) 0 rs (tsUnk (ops.take m) ts)).all (refsLt (memAt (fun _ => true) rs mem).length) && (memAt (fun _ => true) rs mem).all (blkLt (memAt (fun _ => true) rs mem).length))))))))) = true then
      some (minTs (fun _ => true) 0 rs (tsUnk (ops.take m) ts), memAt (fun _ => true) rs mem, C)
    else none
  | none => none
/-- a drawn region: the first m operations in any order, then the others -/
def evDraw (P : Program) (m : Nat) (kill : List (Nat × Nat)) (ops : List Oper) (hs : List Hint) (ts : List AV) (mem : List Blk) : Option (List AV × List Blk × Prop) :=
  match evHead P m kill ops hs ts mem with
  | some (t0, m0, C) =>
    match evOps P ops (ops.drop m) (hs.drop m) t0 m0 with
    | some (t, m', D) => some (t, m', C ∧ D)
    | none => none
  | none => none
theorem MemR.congr {B : Nat} {w : World} {G : Gh} {mem mem' : List Blk} (h : MemR B w G mem) (he : ∀ i, lk mem' i = lk mem i ∨ lk mem' i = .dead) : MemR B w G mem' := by
  refine ⟨fun i => ?_, fun i j x hij hi hj => ?_, fun i x hi => ?_, h.fz, h.base⟩
  · rcases he i with e | e
    · rw [e]; exact h.blk i
    · rw [e]; trivial
  · rcases he i with e | e
    · rcases he j with e' | e'
      · rw [e] at hi; rw [e'] at hj; exact h.apart i j x hij hi hj
      · rw [e'] at hj; cases hj
    · rw [e] at hi; cases hi
  · rcases he i with e | e
    · rw [e] at hi; exact h.own i x hi
    · rw [e] at hi; cases hi
theorem put_get_ne {a : Act} {d : Option Tmp} {v : Value} {t : Nat} (h : d ≠ some t) : (a.put d v).tmps.getD t undef = a.tmps.getD t undef := by
  cases d with
  | none => rfl
  | some d =>
    have hne : d ≠ t := fun e => h (by rw [e])
    simp only [Act.put, Array.getD_eq_getD_getElem?, Array.getElem?_setIfInBounds, if_neg hne]
theorem put_get_eq {a : Act} {v : Value} {t : Nat} (h : t < a.tmps.size) : (a.put (some t) v).tmps.getD t undef = v := by
  simp only [Act.put, Array.getD_eq_getD_getElem?, Array.getElem?_setIfInBounds, h, if_true]
  rfl
theorem put_size (a : Act) (d : Option Tmp) (v : Value) : (a.put d v).tmps.size = a.tmps.size := by cases d <;> simp [Act.put]
theorem getD_mem {α : Type} {l : List α} {t : Nat} {d : α} (h : t < l.length) : l.getD t d ∈ l := by
  rw [List.getD_eq_getElem?_getD, List.getElem?_eq_getElem h]; exact List.getElem_mem h
theorem getD_none {α : Type} {l : List α} {t : Nat} {d : α} (h : l.length ≤ t) : l.getD t d = d := by
  rw [List.getD_eq_getElem?_getD, List.getElem?_eq_none h]; rfl
theorem at_get (D : Nat → Bool) (rs : List PR) (mem : List Blk) (x : Nat) :
    (∃ (j : Nat) (r : PR) (y : Blk), rs[j]? = some r ∧ D j = true ∧ r.eff = some (x, y) ∧ lk (memAt D rs mem) x = y ∧ ∀ (j' : Nat) (r' : PR) (y' : Blk), rs[j']? = some r' → D j' = true → r'.eff = some (x, y') → j' ≤ j) ∨
    ((∀ (j : Nat) (r : PR) (y : Blk), rs[j]? = some r → D j = true → r.eff ≠ some (x, y)) ∧
      ((∃ (j : Nat) (r : PR), rs[j]? = some r ∧ D j = true ∧ inRg r x ∧ lk (memAt D rs mem) x = lk r.new (x - r.base)) ∨
       ((∀ (j : Nat) (r : PR), rs[j]? = some r → D j = true → ¬ inRg r x) ∧ lk (memAt D rs mem) x = lk mem x))) := by
  unfold memAt
  rcases effMem_get D rs 0 (minMem D 0 rs mem) x with ⟨j, r, y, g1, g2, g3, g5, g6⟩ | ⟨g1, g2⟩
  · rw [Nat.zero_add] at g2
    exact .inl ⟨j, r, y, g1, g2, g3, g5, fun j' r' y' hj hD => g6 j' r' y' hj (by rw [Nat.zero_add]; exact hD)⟩
  · refine .inr ⟨fun j r y hj hD => g1 j r y hj (by rw [Nat.zero_add]; exact hD), ?_⟩
    rw [g2]
    rcases minMem_get D rs 0 mem x with ⟨j, r, h1, h2, h3, h4⟩ | ⟨h1, h2⟩
    · rw [Nat.zero_add] at h2
      exact .inl ⟨j, r, h1, h2, h3, h4⟩
    · exact .inr ⟨fun j r hj hD => h1 j r hj (by rw [Nat.zero_add]; exact hD), h2⟩
theorem at_range {D : Nat → Bool} {rs : List PR} {mem : List Blk} {x : Nat} (hasc : asc mem.length rs = true) (hno : ∀ (j : Nat) (r : PR) (y : Blk), rs[j]? = some r → D j = true → r.eff ≠ some (x, y)) {j : Nat} {r : PR} (hj : rs[j]? = some r) (hD : D j = true) (hx : inRg r x) : lk (memAt D rs mem) x = lk r.new (x - r.base) := by
  rcases at_get D rs mem x with ⟨j', r', y', g1, g2, g3, _⟩ | ⟨_, ⟨j', r', h1, h2, h3, h4⟩ | ⟨h1, _⟩⟩
  · exact absurd g3 (hno j' r' y' g1 g2)
  · have := asc_apart rs _ hasc j' j r' r x h1 hj h3 hx
    subst this
    rw [hj] at h1; simp only [Option.some.injEq] at h1; subst h1
    exact h4
  · exact absurd hx (h1 j r hj hD)
theorem at_eff {D : Nat → Bool} {rs : List PR} {mem : List Blk} {x : Nat} {j : Nat} {r : PR} {y : Blk} (hj : rs[j]? = some r) (hD : D j = true) (hx : r.eff = some (x, y))
    (hlast : ∀ (j' : Nat) (r' : PR) (y' : Blk), rs[j']? = some r' → D j' = true → r'.eff = some (x, y') → j' ≤ j) : lk (memAt D rs mem) x = y := by
  rcases at_get D rs mem x with ⟨j', r', y', g1, g2, g3, g5, g6⟩ | ⟨g1, _⟩
  · have := hlast j' r' y' g1 g2 g3
    have := g6 j r y hj hD hx
    obtain rfl : j = j' := by omega
    rw [hj] at g1; simp only [Option.some.injEq] at g1; subst g1
    rw [hx] at g3
    simp only [Option.some.injEq, Prod.mk.injEq, true_and] at g3
    rw [g5, g3]
  · exact absurd hx (g1 j r y hj hD)
theorem at_none {D : Nat → Bool} {rs : List PR} {mem : List Blk} {x : Nat} (h : ∀ (j : Nat) (r : PR), rs[j]? = some r → D j = true → ¬ inRg r x ∧ ∀ y, r.eff ≠ some (x, y)) : lk (memAt D rs mem) x = lk mem x := by
  rcases at_get D rs mem x with ⟨j', r', y', g1, g2, g3, _⟩ | ⟨_, ⟨j', r', h1, h2, h3, h4⟩ | ⟨_, g2⟩⟩
  · exact absurd g3 ((h j' r' g1 g2).2 y')
  · exact absurd h3 (h j' r' h1 h2).1
  · exact g2
theorem at_same {D D' : Nat → Bool} {rs : List PR} {mem : List Blk} {x : Nat} (hasc : asc mem.length rs = true) (h : ∀ (j : Nat) (r : PR), rs[j]? = some r → (inRg r x ∨ ∃ y, r.eff = some (x, y)) → D j = D' j) : lk (memAt D rs mem) x = lk (memAt D' rs mem) x := by
  rcases at_get D rs mem x with ⟨j, r, y, g1, g2, g3, g5, g6⟩ | ⟨hno, hor⟩
  · rw [g5, at_eff g1 (by rw [← h j r g1 (.inr ⟨y, g3⟩)]; exact g2) g3 (fun j' r' y' hj hD he => g6 j' r' y' hj (by rw [h j' r' hj (.inr ⟨y', he⟩)]; exact hD) he)]
  · have hno' : ∀ (j : Nat) (r : PR) (y : Blk), rs[j]? = some r → D' j = true → r.eff ≠ some (x, y) := fun j r y hj hD hy => hno j r y hj (by rw [h j r hj (.inr ⟨y, hy⟩)]; exact hD) hy
    rcases hor with ⟨j, r, h1, h2, h3, h4⟩ | ⟨h1, g2⟩
    · rw [h4, at_range hasc hno' h1 (by rw [← h j r h1 (.inl h3)]; exact h2) h3]
    · rw [g2]
      exact (at_none fun j r hj hD => ⟨fun hx => h1 j r hj (by rw [h j r hj (.inl hx)]; exact hD) hx, fun y => hno' j r y hj hD⟩).symm
theorem T.headAny {P : Program} {B : Nat} {w0 : World} {fz0 : Nat → Prop} {ops : Array Oper} {ts ts' : List AV} {mem mem' : List Blk} {C : Prop} {Q : Exit → Act → World → Prop} (m : Nat) (kill : List (Nat × Nat)) (hs : List Hint)
    (he : evHead P m kill ops.toList hs ts mem = some (ts', mem', C)) (hC : C) (hn : TO P B w0 fz0 ops m ts' mem' Q) (G0' : Gh) (a0 : Act) (w : World) (hst0 : StR B w0 fz0 ts mem G0' a0 w) : wpAny P .any ops Q ops.size (Array.replicate ops.size false) a0 { w with drawn := w.drawn + 1 } := by
  unfold evHead at he
  split at he
  · rename_i rs C1 hpre
    split at he
    · rename_i hchk
      · simp only [Option.some.injEq, Prod.mk.injEq] at he
        obtain ⟨rfl, rfl, rfl⟩ := he
        have hC1 := hC
        simp only [Bool.and_eq_true, decide_eq_true_eq] at hchk
        obtain ⟨hmn, hdst, hasc, hoe, href, htl, hbk, hr1, hr2⟩ := hchk
        have hmn' : m ≤ ops.size := by simpa using hmn
        have hmlt : ∀ i j, ((befs [] ops.toList).getD i 0).testBit j = true → j < i := by
          intro i j h
          rcases Nat.lt_or_ge i ops.toList.length with h1 | h1
          · exact befs_lt hbk i j h1 h
          · obtain ⟨r, e1, e2⟩ := befs_prefix ops.toList []
            have : (befs [] ops.toList).length ≤ i := by rw [e1]; simp; omega
            rw [List.getD_eq_getElem?_getD, List.getElem?_eq_none this] at h
            simp at h
        generalize hmasks : befs [] ops.toList = masks at *
        generalize htsU : tsUnk (ops.toList.take m) ts = tsU at *
        obtain ⟨hlen, _, hgood⟩ := evPreGo_ok _ _ _ _ _ _ _ hpre hC1 rfl
        rw [Nat.zero_add, List.length_take, Nat.min_eq_left hmn] at hlen
        simp only [Nat.zero_add] at hgood
        have hop : ∀ (i : Nat) (o : Oper), i < m → ops[i]? = some o → ∃ r, rs[i]? = some r ∧ Good P ops.toList masks kill (ops.toList.take m) ts mem i o r (rs.take i) := fun i o hi ho => hgood i o (by rw [List.getElem?_take, if_pos hi]; simpa using ho)
        have hdsts2 : ∀ (t : Nat), (∀ o ∈ ops.toList.take m, o.dst ≠ some t) → ∀ r ∈ rs, r.dst ≠ some t := by
          intro t ht r hr
          obtain ⟨i, hi⟩ := List.getElem?_of_mem hr
          have hilt : i < m := by have := (List.getElem?_eq_some_iff.1 hi).1; omega
          have hi2 : i < (ops.toList.take m).length := by rw [List.length_take]; omega
          obtain ⟨r', h1, h2⟩ := hgood i _ (List.getElem?_eq_getElem hi2)
          rw [hi] at h1; simp only [Option.some.injEq] at h1; subst h1
          rw [h2.1]
          exact ht _ (List.getElem_mem hi2)
        -- the states
        let J1 : (Nat → Bool) → Act → World → Prop := fun D a w => ∃ G : Gh,
          a.tmps.size = ts.length ∧ a.defers = [] ∧
          (∀ (j : Nat) (r : PR), rs[j]? = some r → D j = true → ∀ d, r.dst = some d → ValR w G r.av (a.tmps.getD d undef)) ∧
          (∀ t, (∀ (j : Nat) (r : PR), rs[j]? = some r → D j = true → r.dst ≠ some t) → ValR w G (ts.getD t .unk) (a.tmps.getD t undef)) ∧
          MemR B w G (memAt D rs mem) ∧ Below B w0 w ∧ (∀ b, fz0 b → G.fz b) ∧ ((∀ b, G.fz b → fz0 b ∨ B ≤ b) ∧ ∀ b, fz0 b → b < w0.heap.size → w.heap[b]? = w0.heap[b]?)
        let J2 : Nat → Act → World → Prop := fun k a w => wpOps P ops Q (List.range' k (ops.size - k)) a w
        -- temporaries, as an operation finds them
        have hmin : ∀ (D : Nat → Bool) (i : Nat) (G : Gh) (a : Act) (w : World), D i = false → (∀ j, (masks.getD i 0).testBit j = true → D j = true) → (∀ j, D j = true → (masks.getD j 0).testBit i = false) → a.tmps.size = ts.length →
            (∀ (j : Nat) (r : PR), rs[j]? = some r → D j = true → ∀ d, r.dst = some d → ValR w G r.av (a.tmps.getD d undef)) →
            (∀ t, (∀ (j : Nat) (r : PR), rs[j]? = some r → D j = true → r.dst ≠ some t) → ValR w G (ts.getD t .unk) (a.tmps.getD t undef)) → TmpsR w G (vTs masks (ops.toList.take m) ts (rs.take i) i) a := by
          intro D i G a w hDi hb hmD hsz h1 h2
          unfold vTs
          refine ⟨by rw [minTs_length, tsUnkI_length]; exact hsz, fun t => ?_⟩
          rcases minTs_get (fun j => (masks.getD i 0).testBit j) (rs.take i) 0 (tsUnkI masks i 0 (ops.toList.take m) ts) t with ⟨j, r, g1, g2, g3, g4⟩ | g
          · rw [g4]
            rw [List.getElem?_take] at g1
            split at g1
            · rw [Nat.zero_add] at g2; exact h1 j r g1 (hb j g2) t g3
            · cases g1
          · rw [g]
            rcases tsUnkI_get masks i (ops.toList.take m) 0 ts t with e | ⟨e1, e2⟩
            · rw [e]; trivial
            · rw [e2]
              refine h2 t fun j r hj hD hd => ?_
              have hjlt : j < m := by have := (List.getElem?_eq_some_iff.1 hj).1; omega
              have hj2 : j < (ops.toList.take m).length := by rw [List.length_take]; omega
              obtain ⟨r', f1, f2⟩ := hgood j _ (List.getElem?_eq_getElem hj2)
              rw [hj] at f1; simp only [Option.some.injEq] at f1; subst f1
              rcases e1 j _ (List.getElem?_eq_getElem hj2) (by rw [← f2.1]; exact hd) with h | h
              · rw [Nat.zero_add] at h; subst h; rw [hDi] at hD; cases hD
              · rw [Nat.zero_add] at h; rw [hmD j hD] at h; cases h
        have hmemsub : ∀ (D : Nat → Bool) (i : Nat), D i = false → (∀ j, (masks.getD i 0).testBit j = true → D j = true) → (∀ j, D j = true → (masks.getD j 0).testBit i = false) → ∀ x, lk (vMem masks kill mem (rs.take i) i) x = lk (memAt D rs mem) x ∨ lk (vMem masks kill mem (rs.take i) i) x = .dead := by
          intro D i hDi hb hmD x
          unfold vMem
          rcases killMem_get masks i kill (effMem (fun j => (masks.getD i 0).testBit j) 0 (rs.take i) (minMem (fun j => (masks.getD i 0).testBit j) 0 (rs.take i) mem)) x with e2 | ⟨e1, e2⟩
          · exact .inr e2
          · rw [e2]
            -- whoever has written it stands ahead of this one
            have ahead : ∀ (j' : Nat) (r' : PR) (y' : Blk), rs[j']? = some r' → D j' = true → r'.eff = some (x, y') → j' < i ∧ (masks.getD i 0).testBit j' = true := by
              intro j' r' y' f1 f2 f3
              have hin := (okEff_in rs 0 hoe j' r' x y' f1 f3).2
              rw [Nat.zero_add] at hin
              rcases e1 j' hin with h | h
              · subst h; rw [hDi] at f2; cases f2
              · rw [hmD j' f2, Bool.false_or] at h
                exact ⟨hmlt i j' h, h⟩
            rcases effMem_get (fun j => (masks.getD i 0).testBit j) (rs.take i) 0 (minMem (fun j => (masks.getD i 0).testBit j) 0 (rs.take i) mem) x with ⟨j, r, y, g1, g2, g3, g5, g6⟩ | ⟨g1, e0⟩
            · left
              rw [List.getElem?_take] at g1
              split at g1
              · rw [Nat.zero_add] at g2
                rw [g5, at_eff g1 (hb j g2) g3 (fun j' r' y' f1 f2 f3 => by
                  obtain ⟨a1, a2⟩ := ahead j' r' y' f1 f2 f3
                  exact g6 j' r' y' (by rw [List.getElem?_take, if_pos a1]; exact f1) (by rw [Nat.zero_add]; exact a2) f3)]
              · cases g1
            · rw [e0]
              have hno : ∀ (j : Nat) (r : PR) (y : Blk), rs[j]? = some r → D j = true → r.eff ≠ some (x, y) := fun j r y f1 f2 f3 => by
                obtain ⟨a1, a2⟩ := ahead j r y f1 f2 f3
                exact g1 j r y (by rw [List.getElem?_take, if_pos a1]; exact f1) (by rw [Nat.zero_add]; exact a2) f3
              rcases minMem_get (fun j => (masks.getD i 0).testBit j) (rs.take i) 0 mem x with ⟨j, r, f1, f2, f3, f4⟩ | ⟨f1, f2⟩
              · left
                rw [List.getElem?_take] at f1
                split at f1
                · rw [Nat.zero_add] at f2
                  rw [f4, at_range hasc hno f1 (hb j f2) f3]
                · cases f1
              · rw [f2]
                rcases at_get D rs mem x with ⟨j', r', y', h1, h2, h3, _⟩ | ⟨_, ⟨j', r', h1, h2, h3, h4⟩ | ⟨_, h2⟩⟩
                · exact absurd h3 (hno j' r' y' h1 h2)
                · right
                  have := asc_ge rs _ hasc j' r' h1
                  exact lk_big (by unfold inRg at h3; omega)
                · left; exact h2.symm
        have hfin0 : ∀ D a w, (∀ j, j < m → D j = true) → J1 D a w → ∃ G, StR B w0 fz0 (minTs (fun _ => true) 0 rs tsU) (memAt (fun _ => true) rs mem) G a w := by
          rintro D a w hD ⟨G, g1, g2, g3, g4, g5, g6, g7, g8⟩
          have hDr : ∀ (j : Nat) (r : PR), rs[j]? = some r → D j = true := fun j r hj => hD j (by have := (List.getElem?_eq_some_iff.1 hj).1; omega)
          refine ⟨G, fun t r hr => ?_, all_refs hr2, ⟨by rw [minTs_length, ← htsU, tsUnk_length]; exact g1, fun t => ?_⟩, ?_, g6, g2, g7, g8⟩
          · rw [List.all_eq_true] at hr1
            rcases Nat.lt_or_ge t (minTs (fun _ => true) 0 rs tsU).length with h1 | h1
            · have hm : (minTs (fun _ => true) 0 rs tsU).getD t .unk ∈ minTs (fun _ => true) 0 rs tsU := by
                rw [List.getD_eq_getElem?_getD, List.getElem?_eq_getElem h1]; exact List.getElem_mem h1
              exact refsLt_ok (hr1 _ hm) r hr
            · rw [List.getD_eq_getElem?_getD, List.getElem?_eq_none h1] at hr; cases hr
          · rcases minTs_get (fun _ => true) rs 0 tsU t with ⟨j, r, f1, f2, f3, f4⟩ | g
            · rw [f4]; exact g3 j r f1 (hDr j r f1) t f3
            · rw [g, ← htsU]
              rcases tsUnk_get (ops.toList.take m) ts t with e | ⟨e1, e2⟩
              · rw [e]; trivial
              · rw [e2]; exact g4 t (fun j r hj _ => hdsts2 t e1 r (List.mem_of_getElem? hj))
          · refine g5.congr fun x => .inl (at_same hasc fun j r hj _ => (hDr j r hj).symm)
        refine wpAny_two (n := ops.size) m rfl hmn' (fun i o ho e hee hb => by have := backB_ok _ 0 hbk i o (by simpa using ho) e hee hb; omega) (fun i j => (masks.getD i 0).testBit j)
          (fun i o ho j hj => ?_) (tailOk_ok (by simpa using htl)) J1 J2 ?_ ?_ ?_ ?_ ?_
        · subst hmasks
          have := befs_get ops.toList [] i o (by simpa using ho) j (by simpa using hj)
          obtain ⟨e, h1, h2, h3⟩ := this
          exact ⟨e, by simpa using h1, h2, h3⟩
        · -- one of the first ones
          rintro D a w i o him ho hDi hDm hbD hcl ⟨G, g1, g2, g3, g4, g5, g6, g7, g8⟩ K hK
          obtain ⟨r, hri, hdst', hor⟩ := hop i o him ho
          have hmaskD : ∀ j, D j = true → (masks.getD j 0).testBit i = false := by
            intro j hDj
            cases hb : (masks.getD j 0).testBit i with
            | false => rfl
            | true => have := hcl j i hDj hb; rw [hDi] at this; cases this
          have htm := hmin D i G a w hDi hbD hmaskD g1 g3 g4
          have hms := hmemsub D i hDi hbD hmaskD
          have hne : ∀ (j : Nat) (q : PR) (d : Nat), rs[j]? = some q → D j = true → q.dst = some d → o.dst ≠ some d := by
            intro j q d hq hDj hd hod
            rw [← hdst'] at hod
            have := okDst_ne rs hdst i j r q d hri hq hod hd
            subst this
            rw [hDi] at hDj; cases hDj
          have hupd : ∀ j, j ≠ i → updB D i j = D j := fun j hj => by unfold updB; rw [if_neg hj]
          have hupi : updB D i i = true := by unfold updB; rw [if_pos rfl]
          have hupD : ∀ j, D j = true → updB D i j = true := fun j hj => by unfold updB; split <;> first | rfl | exact hj
          have hij : ∀ j, D j = true → i ≠ j := fun j hDj e => by subst e; rw [hDi] at hDj; cases hDj
          -- what is there names nothing of this one's range
          have hrefD : ∀ (j : Nat) (q : PR), rs[j]? = some q → D j = true → ∀ x ∈ prRefs q, ¬ inRg r x := by
            intro j q hq hDj x hx
            have := okRefs_ok rs 0 href j q hq x hx i r hri
            rw [Nat.zero_add] at this
            rcases this with h1 | h1 | h1
            · exact absurd h1 (hij j hDj)
            · rw [hmaskD j hDj] at h1; cases h1
            · exact h1
          have hbase := asc_ge rs _ hasc i r hri
          -- nobody that is done writes in this one's range
          have hnoR : ∀ x, inRg r x → ∀ (j : Nat) (q : PR) (y : Blk), rs[j]? = some q → D j = true → q.eff ≠ some (x, y) := by
            intro x hx j q y hq hDj hy
            rcases (okEff_in rs 0 hoe j q x y hq hy).1 with h | ⟨j', q', h1, h2, h3⟩
            · unfold inRg at hx; omega
            · have := asc_apart rs _ hasc j' i q' r x h1 hri h2 hx
              subst this
              rw [Nat.zero_add, hmaskD j hDj] at h3; cases h3
          have hnoI : ∀ x, inRg r x → ∀ y, r.eff ≠ some (x, y) := by
            intro x hx y hy
            rcases (okEff_in rs 0 hoe i r x y hri hy).1 with h | ⟨j', q', h1, h2, h3⟩
            · unfold inRg at hx; omega
            · have := asc_apart rs _ hasc j' i q' r x h1 hri h2 hx
              subst this
              rw [Nat.zero_add] at h3
              have := hmlt _ _ h3; omega
          have hnoU : ∀ x, inRg r x → ∀ (j : Nat) (q : PR) (y : Blk), rs[j]? = some q → updB D i j = true → q.eff ≠ some (x, y) := by
            intro x hx j q y hq hDj
            by_cases hji : j = i
            · subst hji
              rw [hri] at hq; simp only [Option.some.injEq] at hq; subst hq
              exact hnoI x hx y
            · rw [hupd j hji] at hDj
              exact hnoR x hx j q y hq hDj
          -- the state behind it
          have after : r.eff = none → ∀ (v : Value) (w' : World) (G' : Gh), NewR w w' G G' r.base r.new → ValR w' G' r.av v → J1 (updB D i) (a.put o.dst v) w' := by
            intro hre v w' G' hN hv
            have hag : ∀ x, ¬ inRg r x → Agree G G' x := fun x hx => hN.agree x (by unfold inRg at hx; omega)
            refine ⟨G', by rw [put_size]; exact g1, by rw [put_defers]; exact g2, fun j q hq hj d hd => ?_, fun t ht => ?_, ?_, g6.trans (hN.below.mono g5.base.1), fun b hb => hN.fz1 b (g7 b hb), fun b hb => ?_, fun b hb hlt => (hN.keeps.block b (g7 b hb) (Nat.lt_of_lt_of_le hlt g6.size)).trans (g8.2 b hb hlt)⟩
            · by_cases hji : j = i
              · subst hji
                rw [hri] at hq; simp only [Option.some.injEq] at hq; subst hq
                have hod : o.dst = some d := by rw [← hdst']; exact hd
                have hlt := okDst_lt rs hdst j r d hri hd
                rw [hod, put_get_eq (by omega)]
                exact hv
              · have hDj : D j = true := by rw [hupd j hji] at hj; exact hj
                rw [put_get_ne (hne j q d hq hDj hd)]
                exact ValR.keep hN.keeps _ _ (fun x hx => hag x (hrefD j q hq hDj x (by simp [prRefs, hx]))) (g3 j q hq hDj d hd)
            · rw [put_get_ne (by rw [← hdst']; exact ht i r hri hupi)]
              refine ValR.keep hN.keeps _ _ (fun x hx => hag x ?_) (g4 t (fun j q hq hDj => ht j q hq (hupD j hDj)))
              have := hst0.rt t x hx
              unfold inRg; omega
            · have hdead : ∀ x, r.base ≤ x → x < r.base + r.new.length → lk (memAt D rs mem) x = .dead := by
                intro x h1 h2
                rcases at_get D rs mem x with ⟨j, q, y, f1, f2, f3, _⟩ | ⟨_, ⟨j, q, e1, e2, e3, e4⟩ | ⟨f1, f2⟩⟩
                · exact absurd f3 (hnoR x ⟨h1, h2⟩ j q y f1 f2)
                · have := asc_apart rs _ hasc i j r q x hri e1 ⟨h1, h2⟩ e3
                  exact absurd this (hij j e2)
                · rw [f2]; exact lk_big (by omega)
              have hrf : ∀ x y, y ∈ (lk (memAt D rs mem) x).refs → y < r.base ∨ r.base + r.new.length ≤ y := by
                intro x y hy
                have : ¬ inRg r y := by
                  rcases at_get D rs mem x with ⟨j, q, z, f1, f2, f3, f5, _⟩ | ⟨_, ⟨j, q, e1, e2, e3, e4⟩ | ⟨f1, f2⟩⟩
                  · rw [f5] at hy
                    refine hrefD j q f1 f2 y ?_
                    unfold prRefs
                    refine List.mem_append.2 (.inr (List.mem_append.2 (.inr ?_)))
                    rw [f3]; exact hy
                  · rw [e4] at hy
                    refine hrefD j q e1 e2 y ?_
                    unfold prRefs
                    refine List.mem_append.2 (.inr (List.mem_append.2 (.inl (List.mem_flatMap.2 ⟨lk q.new (x - q.base), ?_, hy⟩))))
                    unfold inRg at e3
                    have hlt : x - q.base < q.new.length := by omega
                    simp only [lk, List.getD_eq_getElem?_getD, List.getElem?_eq_getElem hlt, Option.getD_some]
                    exact List.getElem_mem hlt
                  · rw [f2] at hy
                    have := hst0.rm x y hy
                    unfold inRg; omega
                unfold inRg at this; omega
              refine (g5.more hN hdead hrf).congr (fun x => .inl ?_)
              rw [lk_memPut]
              by_cases hx : r.base ≤ x ∧ x < r.base + r.new.length
              · rw [if_pos hx, at_range hasc (hnoU x hx) hri hupi hx]
              · rw [if_neg hx]
                refine at_same hasc fun j q hq hor => ?_
                by_cases hji : j = i
                · subst hji
                  rw [hri] at hq; simp only [Option.some.injEq] at hq; subst hq
                  rcases hor with h | ⟨y, h⟩
                  · exact absurd h hx
                  · rw [hre] at h; cases h
                · exact hupd j hji
            · rcases hN.fz2 b hb with h | h
              · exact g8.1 b h
              · exact .inr (Nat.le_trans g5.base.1 h.1)
          unfold Turn
          rcases hor with ⟨hg, ⟨h, Ci, hev, hCi⟩, hre, hc1, hc2⟩ | ⟨hg, hav, hnew, hre⟩ | ⟨hg, hnew, h, b, blk, Ci, hst, hCi, hre⟩ | ⟨hg, hav, h, old, row, Ci, hap, hCi, hnew, hre⟩
          · rw [evGuard_ok htm hg]
            simp only [if_true]
            refine .inl ?_
            have hm2 : MemR B w G (vMem masks kill mem (rs.take i) i) := g5.congr hms
            refine evDec_ok hev B w G a hCi hm2 htm (fun t x hx => ?_) (all_refs hc2) K Q (fun v w' G' hN hv => hK _ _ (after hre v w' G' hN hv))
            rw [List.all_eq_true] at hc1
            rcases Nat.lt_or_ge t (vTs masks (ops.toList.take m) ts (rs.take i) i).length with h1 | h1
            · exact refsLt_ok (hc1 _ (getD_mem h1)) x hx
            · rw [getD_none h1] at hx; cases hx
          · rw [evGuard_ok htm hg]
            simp only [Bool.false_eq_true, if_false]
            refine hK _ _ (after hre undef w G ?_ ?_)
            · rw [hnew]; exact NewR.none (Below.refl _ _)
            · rw [hav]; exact ⟨#[], rfl, rfl⟩
          · rw [evGuard_ok htm hg]
            simp only [if_true]
            refine .inl ?_
            obtain ⟨hst2, hblt2, hnd, hrf0⟩ := fxB_ok (fxB_mono hst hms)
            have hlast : ∀ (j' : Nat) (r' : PR) (y' : Blk), rs[j']? = some r' → updB D i j' = true → r'.eff = some (b, y') → j' ≤ i := by
              intro j' r' y' f1 f2 f3
              by_cases hji : j' = i
              · omega
              · rw [hupd j' hji] at f2
                rcases Nat.lt_or_ge i j' with h | h
                · have := okEff_ord rs 0 hoe i j' r r' b blk y' h hri f1 hre f3
                  rw [Nat.zero_add, Nat.zero_add, hmaskD j' f2] at this; cases this
                · exact h
            refine hst2 B w G a hCi g5 htm K Q fun v w' hbel hk hm' hv => hK _ _ ?_
            refine ⟨G, by rw [put_size]; exact g1, by rw [put_defers]; exact g2, fun j q hq hj d hd => ?_, fun t ht => ?_, ?_, g6.trans hbel, g7, g8.1, fun b hb hlt => (hk.block b (g7 b hb) (Nat.lt_of_lt_of_le hlt g6.size)).trans (g8.2 b hb hlt)⟩
            · by_cases hji : j = i
              · subst hji
                rw [hri] at hq; simp only [Option.some.injEq] at hq; subst hq
                have hod : o.dst = some d := by rw [← hdst']; exact hd
                have hlt := okDst_lt rs hdst j r d hri hd
                rw [hod, put_get_eq (by omega)]
                exact hv
              · have hDj : D j = true := by rw [hupd j hji] at hj; exact hj
                rw [put_get_ne (hne j q d hq hDj hd)]
                exact ValR.keep hk _ _ (fun x hx => ⟨rfl, rfl⟩) (g3 j q hq hDj d hd)
            · rw [put_get_ne (by rw [← hdst']; exact ht i r hri hupi)]
              exact ValR.keep hk _ _ (fun x hx => ⟨rfl, rfl⟩) (g4 t (fun j q hq hDj => ht j q hq (hupD j hDj)))
            · refine hm'.congr (fun x => .inl ?_)
              rw [lk_set]
              by_cases hx : x = b
              · subst hx
                rw [if_pos ⟨rfl, hblt2⟩, at_eff hri hupi hre hlast]
              · rw [if_neg (by simp [hx])]
                refine at_same hasc fun j q hq hor => ?_
                by_cases hji : j = i
                · subst hji
                  rw [hri] at hq; simp only [Option.some.injEq] at hq; subst hq
                  rcases hor with h | ⟨y, h⟩
                  · unfold inRg at h; rw [hnew] at h; simp at h; omega
                  · rw [hre] at h
                    simp only [Option.some.injEq, Prod.mk.injEq] at h
                    exact absurd h.1.symm hx
                · exact hupd j hji
          · rw [evGuard_ok htm hg]
            simp only [if_true]
            refine .inl ?_
            have hin : inRg r r.base := ⟨Nat.le_refl _, by rw [hnew]; simp⟩
            have hinr : ∀ y, inRg r y → y = r.base := fun y hy => by unfold inRg at hy; rw [hnew] at hy; simp at hy; omega
            have hrf : ∀ z y, y ∈ (lk (memAt D rs mem) z).refs → y ≠ r.base := by
              intro z y hy e
              have : ¬ inRg r y := by
                rcases at_get D rs mem z with ⟨j, q, u, f1, f2, f3, f5, _⟩ | ⟨_, ⟨j, q, e1, e2, e3, e4⟩ | ⟨f1, f2⟩⟩
                · rw [f5] at hy
                  refine hrefD j q f1 f2 y ?_
                  unfold prRefs
                  refine List.mem_append.2 (.inr (List.mem_append.2 (.inr ?_)))
                  rw [f3]; exact hy
                · rw [e4] at hy
                  refine hrefD j q e1 e2 y ?_
                  unfold prRefs
                  refine List.mem_append.2 (.inr (List.mem_append.2 (.inl (List.mem_flatMap.2 ⟨lk q.new (z - q.base), ?_, hy⟩))))
                  unfold inRg at e3
                  have hlt : z - q.base < q.new.length := by omega
                  simp only [lk, List.getD_eq_getElem?_getD, List.getElem?_eq_getElem hlt, Option.getD_some]
                  exact List.getElem_mem hlt
                · rw [f2] at hy
                  have := hst0.rm z y hy
                  unfold inRg; omega
              exact this (by rw [e]; exact hin)
            refine evGrow_ok (evGrow_mono hap hms) r.base B w G a hCi g5 htm hrf K Q fun v w' G' hbel hkp hag hfz hv hm' => hK _ _ ?_
            have hag2 : ∀ y, ¬ inRg r y → Agree G G' y := fun y hy => hag y (fun e => hy (by rw [e]; exact hin))
            refine ⟨G', by rw [put_size]; exact g1, by rw [put_defers]; exact g2, fun j q hq hj d hd => ?_, fun t ht => ?_, ?_, g6.trans hbel, fun b hb => by rw [hfz]; exact g7 b hb, fun b hb => by rw [hfz] at hb; exact g8.1 b hb, fun b hb hlt => (hkp.block b (g7 b hb) (Nat.lt_of_lt_of_le hlt g6.size)).trans (g8.2 b hb hlt)⟩
            · by_cases hji : j = i
              · subst hji
                rw [hri] at hq; simp only [Option.some.injEq] at hq; subst hq
                have hod : o.dst = some d := by rw [← hdst']; exact hd
                have hlt := okDst_lt rs hdst j r d hri hd
                rw [hod, put_get_eq (by omega), hav]
                exact hv
              · have hDj : D j = true := by rw [hupd j hji] at hj; exact hj
                rw [put_get_ne (hne j q d hq hDj hd)]
                exact ValR.keep hkp _ _ (fun y hy => hag2 y (hrefD j q hq hDj y (by simp [prRefs, hy]))) (g3 j q hq hDj d hd)
            · rw [put_get_ne (by rw [← hdst']; exact ht i r hri hupi)]
              refine ValR.keep hkp _ _ (fun y hy => hag2 y ?_) (g4 t (fun j q hq hDj => ht j q hq (hupD j hDj)))
              have := hst0.rt t y hy
              unfold inRg; omega
            · refine hm'.congr (fun z => .inl ?_)
              rw [lk_memPut]
              by_cases hz : z = r.base
              · subst hz
                rw [if_pos (by simp), at_range hasc (hnoU _ hin) hri hupi hin, hnew]
              · rw [if_neg (by simp; omega)]
                have same : (∀ y, r.eff ≠ some (z, y)) → lk (memAt (updB D i) rs mem) z = lk (memAt D rs mem) z := fun hn => at_same hasc fun j q hq hor => by
                  by_cases hji : j = i
                  · subst hji
                    rw [hri] at hq; simp only [Option.some.injEq] at hq; subst hq
                    rcases hor with h | ⟨y, h⟩
                    · exact absurd (hinr z h) hz
                    · exact absurd h (hn y)
                  · exact hupd j hji
                cases old with
                | none => exact same (fun y h => by rw [hre] at h; cases h)
                | some r0 =>
                  simp only [killO]
                  rw [lk_set]
                  by_cases hz0 : z = r0
                  · subst hz0
                    rw [at_eff hri hupi (y := .dead) (by rw [hre]; rfl) (fun j' r' y' f1 f2 f3 => by
                      by_cases hji : j' = i
                      · omega
                      · rw [hupd j' hji] at f2
                        rcases Nat.lt_or_ge i j' with h | h
                        · have := okEff_ord rs 0 hoe i j' r r' z .dead y' h hri f1 (by rw [hre]; rfl) f3
                          rw [Nat.zero_add, Nat.zero_add, hmaskD j' f2] at this; cases this
                        · exact h)]
                    split
                    · rfl
                    · rename_i hh; exact (lk_big (by simp at hh; omega)).symm
                  · rw [if_neg (by simp [hz0])]
                    refine same (fun y h => ?_)
                    rw [hre] at h
                    simp only [Option.map_some, Option.some.injEq, Prod.mk.injEq] at h
                    exact hz0 h.1.symm
        · -- all of the first ones are done
          intro D a w hD _ hJ
          obtain ⟨G, hs'⟩ := hfin0 D a w hD hJ
          exact hn G a w hs'
        · -- one of the others
          intro k a w o hk ho hJ K hK
          have hlt : k < ops.size := (Array.getElem?_eq_some_iff.1 ho).1
          have hJ' : wpOps P ops Q (List.range' k (ops.size - k)) a w := hJ
          rw [show ops.size - k = (ops.size - (k + 1)) + 1 by omega, List.range'_succ] at hJ'
          simp only [wpOps, ho] at hJ'
          unfold Turn
          split
          · rename_i hw
            rw [if_pos hw] at hJ'
            exact hJ'.imp (Oper.wp_mono hK) (fun h => h)
          · rename_i hw
            rw [if_neg hw] at hJ'
            exact hK _ _ hJ'
        · -- the end
          intro a w hJ
          have hJ' : wpOps P ops Q (List.range' ops.size (ops.size - ops.size)) a w := hJ
          rw [Nat.sub_self] at hJ'
          exact hJ'
        · -- the start
          refine ⟨G0', hst0.tmps.size, hst0.defers, (fun j r _ h => by cases h), fun t _ => ?_, ?_, hst0.below.drew, hst0.fz1, hst0.fz2⟩
          · exact ValR.keep (w := w) (w' := { w with drawn := w.drawn + 1 }) (G := G0') (G' := G0') ⟨Nat.le_refl _, fun _ _ _ => rfl, fun _ h => h⟩ _ _ (fun _ _ => ⟨rfl, rfl⟩) (hst0.tmps.val t)
          · have hN : NewR w ({ w with drawn := w.drawn + 1 } : World) G0' G0' mem.length [] := NewR.none ((Below.refl w.heap.size w).drew)
            refine (hst0.mem.more hN (fun i h1 h2 => by simp at h2; omega) (fun i r hr => .inl (hst0.rm i r hr))).congr (fun x => .inl ?_)
            rw [at_none (fun j r hj h => by cases h), lk_memPut, if_neg (by simp only [List.length_nil]; omega)]
    · cases he
  · cases he
theorem T.head {P : Program} {B : Nat} {w0 : World} {fz0 : Nat → Prop} {id : Nat} {ops : Array Oper} {ts ts' : List AV} {mem mem' : List Blk} {C : Prop} {Q : Exit → Act → World → Prop} (hmo : P.follows .mixedOrders = true) (m : Nat) (kill : List (Nat × Nat)) (hs : List Hint)
    (he : evHead P m kill ops.toList hs ts mem = some (ts', mem', C)) (hC : C) (hn : TO P B w0 fz0 ops m ts' mem' Q) : T P B w0 fz0 (.region id ops true) ts mem Q :=
  fun G a w hst => wp_region_any hmo (T.headAny m kill hs he hC hn G a w hst)
/-! the operations in another order -/
theorem T.drawAny {P : Program} {B : Nat} {w0 : World} {fz0 : Nat → Prop} {ops : Array Oper} {ts ts' : List AV} {mem mem' : List Blk} {C : Prop} {Q : Exit → Act → World → Prop} (m : Nat) (kill : List (Nat × Nat)) (hs : List Hint)
    (he : evDraw P m kill ops.toList hs ts mem = some (ts', mem', C)) (hC : C) (hn : X P B w0 fz0 .normal ts' mem' Q) : ∀ G a w, StR B w0 fz0 ts mem G a w → wpAny P .any ops Q ops.size (Array.replicate ops.size false) a { w with drawn := w.drawn + 1 } := by
  intro G a w hst
  unfold evDraw at he
  split at he
  · rename_i t0 m0 C0 hh
    split at he
    · rename_i t2 m2 C2 htail
      simp only [Option.some.injEq, Prod.mk.injEq] at he
      obtain ⟨rfl, rfl, rfl⟩ := he
      have hmn : m ≤ ops.toList.length := by
        unfold evHead at hh
        split at hh
        · split at hh
          · rename_i hchk
            simp only [Bool.and_eq_true, decide_eq_true_eq] at hchk
            exact hchk.1
          · cases hh
        · cases hh
      refine T.headAny m kill hs hh hC.1 (TO.run (ops.toList.drop m) m (hs.drop m) _ _ _ _ _ (List.take_length) htail hC.2 (TO.nil ?_ hn)) G a w hst
      rw [List.length_drop]
      simp only [Array.length_toList] at hmn ⊢
      omega
    · cases he
  · cases he
theorem T.draw {P : Program} {B : Nat} {w0 : World} {fz0 : Nat → Prop} {id : Nat} {ops : Array Oper} {ts ts' : List AV} {mem mem' : List Blk} {C : Prop} {Q : Exit → Act → World → Prop} (hmo : P.follows .mixedOrders = true) (m : Nat) (kill : List (Nat × Nat)) (hs : List Hint)
    (he : evDraw P m kill ops.toList hs ts mem = some (ts', mem', C)) (hC : C) (hn : X P B w0 fz0 .normal ts' mem' Q) : T P B w0 fz0 (.region id ops true) ts mem Q :=
  fun G a w hst => wp_region_any hmo (T.drawAny m kill hs he hC hn G a w hst)
/-- a drawn region's outcome -/
def drR (P : Program) (m : Nat) (kill : List (Nat × Nat)) (ops : Array Oper) (hs : List Hint) (st : St) : St :=
  match st with
  | (ts, mem) =>
    match evDraw P m kill ops.toList hs ts mem with
    | some (t, m, _) => (t, m)
    | none => ([], [])
def drOk (P : Program) (m : Nat) (kill : List (Nat × Nat)) (ops : Array Oper) (hs : List Hint) (st : St) : Prop :=
  match st with
  | (ts, mem) =>
    match evDraw P m kill ops.toList hs ts mem with
    | some (_, _, C) => C
    | none => False
theorem TS.draw {P : Program} {w0 : World} {fz0 : Nat → Prop} {st : St} {Q : Exit → Act → World → Prop} {id : Nat} {ops : Array Oper} (m : Nat) (kill : List (Nat × Nat)) (hs : List Hint) (hmo : P.follows .mixedOrders = true) (hok : drOk P m kill ops hs st) (hn : XS P w0 fz0 .normal (drR P m kill ops hs st) Q) : TS P w0 fz0 (.region id ops true) st Q := by
  obtain ⟨ts, mem⟩ := st
  unfold drOk at hok
  simp only at hok
  cases he : evDraw P m kill ops.toList hs ts mem with
  | none => rw [he] at hok; exact hok.elim
  | some r =>
    obtain ⟨t, mm, C⟩ := r
    rw [he] at hok
    refine T.draw hmo m kill hs he hok ?_
    unfold XS drR at hn
    simp only [he] at hn
    exact hn
theorem TS.drawAny {P : Program} {w0 : World} {fz0 : Nat → Prop} {st : St} {Q : Exit → Act → World → Prop} {ops : Array Oper} (m : Nat) (kill : List (Nat × Nat)) (hs : List Hint) (hok : drOk P m kill ops hs st) (hn : XS P w0 fz0 .normal (drR P m kill ops hs st) Q) : ∀ G a w, StR w0.drawn w0 fz0 st.1 st.2 G a w → wpAny P .any ops Q ops.size (Array.replicate ops.size false) a { w with drawn := w.drawn + 1 } := by
  obtain ⟨ts, mem⟩ := st
  unfold drOk at hok
  simp only at hok
  cases he : evDraw P m kill ops.toList hs ts mem with
  | none => rw [he] at hok; exact hok.elim
  | some r =>
    obtain ⟨t, mm, C⟩ := r
    rw [he] at hok
    refine T.drawAny m kill hs he hok ?_
    unfold XS drR at hn
    simp only [he] at hn
    exact hn
/-- what the head of a drawn region leaves -/
def hdR (P : Program) (m : Nat) (kill : List (Nat × Nat)) (ops : Array Oper) (hs : List Hint) (st : St) : St :=
  match st with
  | (ts, mem) =>
    match evHead P m kill ops.toList hs ts mem with
    | some (t, m, _) => (t, m)
    | none => ([], [])
def hdOk (P : Program) (m : Nat) (kill : List (Nat × Nat)) (ops : Array Oper) (hs : List Hint) (st : St) : Prop :=
  match st with
  | (ts, mem) =>
    match evHead P m kill ops.toList hs ts mem with
    | some (_, _, C) => C
    | none => False
theorem TS.head {P : Program} {w0 : World} {fz0 : Nat → Prop} {st : St} {Q : Exit → Act → World → Prop} {id : Nat} {ops : Array Oper} (m : Nat) (kill : List (Nat × Nat)) (hs : List Hint) (hmo : P.follows .mixedOrders = true) (hok : hdOk P m kill ops hs st) (hn : TO P w0.drawn w0 fz0 ops m (hdR P m kill ops hs st).1 (hdR P m kill ops hs st).2 Q) : TS P w0 fz0 (.region id ops true) st Q := by
  obtain ⟨ts, mem⟩ := st
  unfold hdOk at hok
  simp only at hok
  cases he : evHead P m kill ops.toList hs ts mem with
  | none => rw [he] at hok; exact hok.elim
  | some r =>
    obtain ⟨t, mm, C⟩ := r
    rw [he] at hok
    refine T.head hmo m kill hs he hok ?_
    unfold hdR at hn
    simp only [he] at hn
    exact hn
end Go.Proofs.YtbpjinefbnlenaaGreatDoor
