/- A range over a function whose iterator writes one box of its own (what it captured): the law. -/
import Derived.RangeFuncNested
import Derived.RangeFuncBound
import Derived.RangeFuncCalls
import Derived.RangeFuncLeaves
import Derived.RangeFuncBox
namespace Go.Proofs.YtgjklpadcmedkaaDoor
open Go Go.RowKit
set_option linter.unusedVariables false

/-- what is said of a world stands, whatever grows, whatever is written into the box, whatever a book-keeping block turns to -/
def BoxStays (Bn B : Nat) (I : World → Prop) : Prop := ∀ (X Y : World) (row : Option Nat), I X → X.grownBy Y row → (∀ r, row = some r → r = Bn ∨ (B ≤ r ∧ ∃ o : Obj, X.heap[r]? = some o ∧ o.isCells = false)) → I Y
theorem BoxStays.and {Bn B : Nat} {I J : World → Prop} (h : BoxStays Bn B I) (k : BoxStays Bn B J) : BoxStays Bn B fun W => I W ∧ J W := fun X Y row hs hg hr => ⟨h X Y row hs.1 hg hr, k X Y row hs.2 hg hr⟩
theorem BoxStays.put {Bn B : Nat} {I : World → Prop} (h : BoxStays Bn B I) {W : World} {l : Nat} {o o' : Obj} (hs : I W) (hB : B ≤ l) (hl : W.heap[l]? = some o) (ho : o.isCells = false) : I (W.putObj l o') :=
  h _ _ (some l) hs (grownBy_putObj' W l o') fun r e => by cases e; exact .inr ⟨hB, o, hl, ho⟩
theorem BoxStays.alloc {Bn B : Nat} {I : World → Prop} (h : BoxStays Bn B I) {W : World} (o : Obj) (hs : I W) : I (W.alloc o) := h _ _ none hs (World.grownBy_alloc W o none) fun r e => by cases e
/-- the box lies as it lay -/
def BoxAs (bs : Nat → Prop) (W W' : World) : Prop := W.heap.size ≤ W'.heap.size ∧ ∀ b, bs b → W'.heap[b]? = W.heap[b]?
/-- the two blocks of book-keeping of an outermost loop -/
structure Book (D : Nat) (o : Obj) (W : World) : Prop where
  blk : W.heap[D]? = some (.deferred (some []))
  rec_ : W.heap[D + 1]? = some o
theorem Book.lt {D : Nat} {o : Obj} {W : World} (h : Book D o W) : D + 1 < W.heap.size := (Array.getElem?_eq_some_iff.1 h.rec_).1
theorem Book.grown {D : Nat} {o : Obj} {X Y : World} {row : Option Nat} (h : Book D o X) (hg : X.grownBy Y row) (hr : ∀ r, row = some r → r < D) : Book D o Y :=
  ⟨(hg.block D (by have := h.lt; omega) fun e => by have := hr D e.symm; omega).trans h.blk, (hg.block (D + 1) h.lt fun e => by have := hr (D + 1) e.symm; omega).trans h.rec_⟩
theorem Book.keeps {D : Nat} {o : Obj} {X Y : World} (h : Book D o X) (k : KeepsFrom D X Y) (ho : o.isCells = false) : Book D o Y := ⟨k.same _ _ (Nat.le_refl _) h.blk rfl, k.same _ _ (by omega) h.rec_ ho⟩
theorem Book.turn {D : Nat} {o : Obj} {X : World} (h : Book D o X) (o' : Obj) : Book D o' (X.putObj (D + 1) o') := ⟨(World.putObj_heap_other (by omega)).trans h.blk, World.putObj_heap_same h.lt⟩
/-- the record of a loop -/
def recOf (fn : FuncId) (tmps : Array Value) (ps : Array Tmp) (assign body : Code) (D : Nat) (st : LoopState) (pe : Option Code) : Loop := { state := st, pending := pe, fn, tmps, params := ps, assign, body, defers := D }
/-- the contract of an iterator that writes its own box -/
def SeqBox {α : Type} (n : Nat) (P : Program) (g : Nat) (lb : Array Value) (encs : α → Array Value) (Bn : Nat) (bs : Nat → Prop) (S Sp : List α → Prop) (w : World) : Prop :=
  ∀ (l : Nat) (J Jx : List α → World → Prop) (W : World), Below w.heap.size w W →
    (∀ s X Y row, J s X → X.grownBy Y row → (∀ r, row = some r → r = Bn) → J s Y) → (∀ s X Y row, Jx s X → X.grownBy Y row → (∀ r, row = some r → r = Bn) → Jx s Y) →
    (∀ pre x W1, J pre W1 → Sp (pre ++ [x]) → YieldAt Fence.wide (n - 1) P l (encs x) W1 fun e W' =>
      (e = .returned (.bool true) ∧ J (pre ++ [x]) W' ∧ BoxAs bs W1 W') ∨ (e = .returned (.bool false) ∧ Jx (pre ++ [x]) W')) →
    J [] W →
    CallsIn Fence.wide n P g (#[.func (.yield l) #[] #[]] ++ lb) W fun e W' => (∃ v, e = .returned v) ∧ ((∃ xs, S xs ∧ J xs W') ∨ (∃ pre, Sp pre ∧ Jx pre W'))
/-- how a round's body is left -/
def bodyEnds {α : Type} (B : Nat) (bs : Nat → Prop) (I Ix : List α → World → Prop) (xs : List α) (W : World) : Exit → Act → World → Prop
  | .normal, _, W' => KeepsFrom B W W' ∧ BoxAs bs W W' ∧ I xs W'
  | .ret, _, W' => KeepsFrom B W W' ∧ Ix xs W'
  | _, _, _ => False

theorem range_box {α : Type} {P : Program} {n : Nat} {g : Operand} {ps : Array Tmp} {assign body : Code} {Q : Exit → Act → World → Prop} {a : Act} {w : World} (h1 : 1 ≤ n) {gf : Nat} {lb : Array Value}
    (hg : a.eval g = .func (.func gf) #[] lb) (eg : ∀ args w, (callFunc gf args).run P w = .ok (.enter gf args) w)
    {encs : α → Array Value} {Bn : Nat} {bs : Nat → Prop} {S Sp : List α → Prop} (hB : ∀ b, bs b → b < w.heap.size) (hBn : bs Bn) (hseq : SeqBox (n - 1) P gf lb encs Bn bs S Sp w) (hps : ∀ x, (encs x).size = ps.size)
    (I Ix : List α → World → Prop) (hI : ∀ s, BoxStays Bn w.heap.size (I s)) (hIx : ∀ s, BoxStays Bn w.heap.size (Ix s)) (h0 : I [] w) (a₁ : α → Act)
    (hassign : ∀ (l : Nat) (x : α) (W : World) (K : Act → World → Prop), K (a₁ x) W → assign.wpIn (Fence.wide.inRound l) (n - 1 - 1) P (Exit.then K (fun _ _ _ => False)) { tmps := (ps.zip (encs x)).foldl (fun t (p, v) => t.setIfInBounds p v) a.tmps, defers := [] } W)
    (hbody : ∀ (l : Nat) (pre : List α) (x : α) (W : World), I pre W → Sp (pre ++ [x]) → body.wpIn (Fence.wide.inRound l) (n - 1 - 1) P (bodyEnds w.heap.size bs I Ix (pre ++ [x]) W) (a₁ x) W)
    (hdone : ∀ (D : Nat) (xs : List α) (W : World), w.heap.size ≤ D → S xs → I xs W → W.heap[D]? = some (.deferred (some [])) → Q .normal { a with defers := { target := .collected D, args := #[] } :: a.defers } W)
    (hstop : ∀ (D : Nat) (pre : List α) (W : World), w.heap.size ≤ D → Sp pre → Ix pre W → W.heap[D]? = some (.deferred (some [])) → Code.ret.wpIn Fence.wide n P Q { a with defers := { target := .collected D, args := #[] } :: a.defers } W) :
    (Code.rangeFunc g ps assign body).wpIn Fence.wide n P Q a w := by
  refine wpIn_rangeFunc fun fn _ => ?_
  let D := w.heap.size
  let R : LoopState → Option Code → Obj := fun st pe => .loop (recOf fn a.tmps ps assign body D st pe)
  have hRc : ∀ st pe, (R st pe).isCells = false := fun _ _ => rfl
  obtain ⟨W1, hW1⟩ : ∃ W1, (w.alloc (.deferred (some []))).alloc (R .ready none) = W1 := ⟨_, rfl⟩
  have hk : Book D (R .ready none) W1 := by
    rw [← hW1]
    refine ⟨(Below.heap_alloc _ _ _ (by simp [D])).trans (World.alloc_heap_new w _), ?_⟩
    have := World.alloc_heap_new (w.alloc (.deferred (some []))) (R .ready none)
    rwa [World.size_alloc] at this
  have hb : Below w.heap.size w W1 := by rw [← hW1]; exact ((Below.refl _ w).alloc (Nat.le_refl _) _).alloc (by simp) _
  have hi : I [] W1 := by rw [← hW1]; exact (hI []).alloc _ ((hI []).alloc _ h0)
  refine ⟨D + 1, [{ target := .collected D, args := #[] }], W1, { target := .fn (.func gf) lb, args := #[.func (.yield (D + 1)) #[] #[]] }, W1, gf, #[.func (.yield (D + 1)) #[] #[]] ++ lb, W1, ?_, ?_, fun _ _ => trivial, ?_, fun _ => h1, ?_⟩
  · rw [← hW1]; exact run_enterLoop_outer _ _ _ _ _
  · simp only [resolve, hg]
    simp [go_sem]
  · simp [invoke, go_sem, eg]
  have row : ∀ {X : World} {row : Option Nat}, (∀ r, row = some r → r = Bn) → (∀ r, row = some r → r < D) ∧ (∀ r, row = some r → r = Bn ∨ (D ≤ r ∧ ∃ o : Obj, X.heap[r]? = some o ∧ o.isCells = false)) :=
    fun hr => ⟨fun r e => by rw [hr r e]; exact hB _ hBn, fun r e => .inl (hr r e)⟩
  refine (hseq (D + 1) (fun pre W => I pre W ∧ Book D (R .ready none) W) (fun pre W => Ix pre W ∧ Book D (R .done (some .ret)) W) W1 hb
    (fun s X Y ro hs hg' hr => ⟨hI s X Y ro hs.1 hg' (row hr).2, hs.2.grown hg' (row (X := X) hr).1⟩)
    (fun s X Y ro hs hg' hr => ⟨hIx s X Y ro hs.1 hg' (row hr).2, hs.2.grown hg' (row (X := X) hr).1⟩) ?_ ⟨hi, hk⟩).mono ?_
  · -- a round
    rintro pre x W ⟨hi, hk⟩ hlen
    refine ⟨fn, _, assign, body, run_yield hk.rec_ (hps x), roundIn_of_wpIn trivial (hassign _ x W _ ⟨_, run_beginRound hk.rec_ rfl, ?_⟩)⟩
    have hk2 := hk.turn (R .busy none)
    have hne : ∀ b, bs b → b ≠ D + 1 := fun b hb' => by have := hB b hb'; omega
    have hw2 : BoxAs bs W (W.putObj (D + 1) (R .busy none)) := ⟨by simp [World.putObj], fun b hb' => World.putObj_heap_other (hne b hb')⟩
    refine wpIn_mono (hbody _ pre x _ ((hI pre).put hi (by omega) hk.rec_ rfl) hlen) ?_
    rintro e a3 W3 hp
    cases e with
    | normal =>
      obtain ⟨h3, hb3, hi3⟩ := hp
      have hk3 := hk2.keeps h3 rfl
      refine ⟨_, _, run_endRound none hk3.rec_, .inl ⟨rfl, ⟨(hI _).put hi3 (by omega) hk3.rec_ rfl, hk3.turn (R .ready none)⟩, ?_, fun b hb' => ?_⟩⟩
      · exact Nat.le_trans hw2.1 (Nat.le_trans hb3.1 (by simp [World.putObj]))
      · exact (World.putObj_heap_other (hne b hb')).trans ((hb3.2 b hb').trans (hw2.2 b hb'))
    | ret =>
      obtain ⟨h3, hi3⟩ := hp
      have hk3 := hk2.keeps h3 rfl
      exact ⟨_, _, run_endRound (some .ret) hk3.rec_, .inr ⟨rfl, (hIx _).put hi3 (by omega) hk3.rec_ rfl, hk3.turn (R .done (some .ret))⟩⟩
    | exit id => exact hp.elim
    | goto t => exact hp.elim
    | panic ch => exact hp.elim
    | outgrown => exact hp.elim
  · -- behind the iterator
    rintro e W2 ⟨⟨v, rfl⟩, ⟨xs, hS, hi, hk⟩ | ⟨pre, hSp, hi, hk⟩⟩
    · exact ⟨none, _, run_endLoop hk.rec_ (by simp [recOf]), hdone D xs _ (Nat.le_refl _) hS ((hI _).put hi (by omega) hk.rec_ rfl) (hk.turn _).blk⟩
    · exact ⟨some .ret, _, run_endLoop hk.rec_ (by simp [recOf]), hstop D pre _ (Nat.le_refl _) hSp ((hIx _).put hi (by omega) hk.rec_ rfl) (hk.turn _).blk⟩
end Go.Proofs.YtgjklpadcmedkaaDoor
