/- A machine of values, part 16: code; weakening; a function's contract. -/
import Derived.Test.YtdomallemkbinaaGreatDoorAm15
namespace Go.Proofs.YtdomallemkbinaaGreatDoor
open Go Go.RowKit
set_option linter.unusedVariables false

section
variable {P : Program} {B : Nat} {w0 : World} {fz0 : Nat → Prop} {ts : List AV} {mem : List Blk} {Q : Exit → Act → World → Prop}
theorem T.seq {a b : Code} (h : T P B w0 fz0 a ts mem (Exit.then (b.wp P Q) Q)) : T P B w0 fz0 (.seq a b) ts mem Q := fun G x w hs => wp_seq (h G x w hs)
theorem X.then {b : Code} (h : T P B w0 fz0 b ts mem Q) : X P B w0 fz0 .normal ts mem (Exit.then (b.wp P Q) Q) := h
theorem X.pass {e : Exit} {K : Act → World → Prop} (he : e ≠ .normal) (h : X P B w0 fz0 e ts mem Q) : X P B w0 fz0 e ts mem (Exit.then K Q) := by
  intro G a w hs
  cases e with
  | normal => exact absurd rfl he
  | _ => exact h G a w hs
theorem X.out {i : Nat} (h : X P B w0 fz0 .normal ts mem Q) : X P B w0 fz0 (.exit i) ts mem (Exit.inBlock i Q) := by
  intro G a w hs
  show (if i = i then Q .normal a w else Q (.exit i) a w)
  rw [if_pos rfl]
  exact h G a w hs
theorem X.through {i j : Nat} (hij : j ≠ i) (h : X P B w0 fz0 (.exit j) ts mem Q) : X P B w0 fz0 (.exit j) ts mem (Exit.inBlock i Q) := by
  intro G a w hs
  show (if j = i then Q .normal a w else Q (.exit j) a w)
  rw [if_neg hij]
  exact h G a w hs
theorem X.blockEnd {i : Nat} (h : X P B w0 fz0 .normal ts mem Q) : X P B w0 fz0 .normal ts mem (Exit.inBlock i Q) := h
theorem X.blockRet {i : Nat} (h : X P B w0 fz0 .ret ts mem Q) : X P B w0 fz0 .ret ts mem (Exit.inBlock i Q) := h
theorem T.skip (h : X P B w0 fz0 .normal ts mem Q) : T P B w0 fz0 .skip ts mem Q := fun G a w hs => wp_skip (h G a w hs)
theorem T.exit {i : Nat} (h : X P B w0 fz0 (.exit i) ts mem Q) : T P B w0 fz0 (.exit i) ts mem Q := fun G a w hs => wp_exit (h G a w hs)
theorem T.ret (h : X P B w0 fz0 .ret ts mem Q) : T P B w0 fz0 .ret ts mem Q := fun G a w hs => wp_ret (h G a w hs)
theorem T.block {i : Nat} {c : Code} (h : T P B w0 fz0 c ts mem (Exit.inBlock i Q)) : T P B w0 fz0 (.block i c) ts mem Q := fun G a w hs => wp_block (h G a w hs)
theorem T.cond {c : Operand} {x y : Code} {b : Bool} (hc : ev ts c = some (.bool b)) (ht : b = true → T P B w0 fz0 x ts mem Q) (hf : b = false → T P B w0 fz0 y ts mem Q) : T P B w0 fz0 (.cond c x y) ts mem Q :=
  fun G a w hs => wp_cond_split (val_bool (ev_ok hs.tmps hc)) (fun h => ht h G a w hs) (fun h => hf h G a w hs)
theorem T.yes {c : Operand} {x y : Code} (hc : ev ts c = some (.bool true)) (h : T P B w0 fz0 x ts mem Q) : T P B w0 fz0 (.cond c x y) ts mem Q := T.cond hc (fun _ => h) (fun h => by cases h)
theorem T.no {c : Operand} {x y : Code} (hc : ev ts c = some (.bool false)) (h : T P B w0 fz0 y ts mem Q) : T P B w0 fz0 (.cond c x y) ts mem Q := T.cond hc (fun h => by cases h) (fun _ => h)
/-- a join, or a name for what stands here: the rest from any state of this form -/
def Any (P : Program) (B : Nat) (w0 : World) (fz0 : Nat → Prop) {D : Type} (tm : D → List AV × List Blk) (I : D → Prop) : Act → World → Prop := fun a w => ∃ D' G, I D' ∧ StR B w0 fz0 (tm D').1 (tm D').2 G a w
theorem T.cut {D : Type} {c : Code} (tm : D → List AV × List Blk) (I : D → Prop) (h1 : ∀ d, I d → X P B w0 fz0 .normal (tm d).1 (tm d).2 Q) (h2 : T P B w0 fz0 c ts mem (Exit.then (Any P B w0 fz0 tm I) Q)) : T P B w0 fz0 c ts mem Q := by
  intro G a w hs
  refine wp_mono (h2 G a w hs) fun e a' w' h => ?_
  cases e with
  | normal => obtain ⟨d, G', hi, hs'⟩ := h; exact h1 d hi G' a' w' hs'
  | _ => exact h
theorem X.any {D : Type} {tm : D → List AV × List Blk} {I : D → Prop} (d : D) (hi : I d) (h1 : ts = (tm d).1) (h2 : mem = (tm d).2) : X P B w0 fz0 .normal ts mem (Exit.then (Any P B w0 fz0 tm I) Q) := by
  intro G a w hs
  subst h1; subst h2
  exact ⟨d, G, hi, hs⟩
theorem wp_loopN {c : Code} (I : Nat → Act → World → Prop) (h0 : ∀ a w, ¬ I 0 a w) (round : ∀ n a w, I (n + 1) a w → c.wp P (Exit.then (I n) Q) a w) {n : Nat} {a : Act} {w : World} (h : I n a w) : (Code.loop c).wp P Q a w := by
  classical
  have least : ∀ n a w, I n a w → ∃ m, I m a w ∧ ∀ k, I k a w → m ≤ k := by
    intro n
    induction n using Nat.strongRecOn with
    | _ n ih =>
      intro a w hn
      by_cases hk : ∃ k, k < n ∧ I k a w
      · obtain ⟨k, hlt, hI⟩ := hk; exact ih k hlt a w hI
      · exact ⟨n, hn, fun k hI => Nat.le_of_not_lt fun hlt => hk ⟨k, hlt, hI⟩⟩
  let μ : Act → World → Nat := fun a w => if hx : ∃ k, I k a w then Classical.choose (least _ a w (Classical.choose_spec hx)) else 0
  have hμ : ∀ a w n, I n a w → I (μ a w) a w ∧ μ a w ≤ n := by
    intro a w n hn
    have hx : ∃ k, I k a w := ⟨n, hn⟩
    have hs := Classical.choose_spec (least _ a w (Classical.choose_spec hx))
    simp only [μ, dif_pos hx]
    exact ⟨hs.1, hs.2 n hn⟩
  refine wp_loop (fun a w => ∃ n, I n a w) μ ⟨n, h⟩ fun a w ⟨n, hn⟩ => ?_
  obtain ⟨h1, h2⟩ := hμ a w n hn
  generalize hm : μ a w = m at h1
  cases m with
  | zero => exact absurd h1 (h0 a w)
  | succ m =>
    refine wp_mono (round m a w h1) fun e a' w' he => ?_
    cases e with
    | normal => exact ⟨⟨m, he⟩, Nat.lt_succ_of_le (hμ a' w' m he).2⟩
    | _ => exact he
theorem T.loop {D : Type} {c : Code} (tm : D → List AV × List Blk) (I : Nat → D → Prop) (h0 : ∀ d, ¬ I 0 d) (round : ∀ n d, I (n + 1) d → T P B w0 fz0 c (tm d).1 (tm d).2 (Exit.then (Any P B w0 fz0 tm (I n)) Q)) (n : Nat) (d : D) (h : I n d) (h1 : ts = (tm d).1) (h2 : mem = (tm d).2) :
    T P B w0 fz0 (.loop c) ts mem Q := by
  subst h1; subst h2
  intro G a w hs
  refine wp_loopN (fun n => Any P B w0 fz0 tm (I n)) (fun a w ⟨d, G, hi, _⟩ => h0 d hi) (fun n a w ⟨d, G, hi, hs⟩ => round n d hi G a w hs) ⟨d, G, h, hs⟩
/-- from a state that says less -/
def Weak (ts : List AV) (mem : List Blk) (ts' : List AV) (mem' : List Blk) : Prop := ∀ (B : Nat) (w0 : World) (fz0 : Nat → Prop) (G : Gh) (a : Act) (w : World), StR B w0 fz0 ts mem G a w → ∃ G', StR B w0 fz0 ts' mem' G' a w
theorem X.weak {e : Exit} {ts' : List AV} {mem' : List Blk} (h : Weak ts mem ts' mem') (hx : X P B w0 fz0 e ts' mem' Q) : X P B w0 fz0 e ts mem Q := by
  intro G a w hs
  obtain ⟨G', hs'⟩ := h B w0 fz0 G a w hs
  exact hx G' a w hs'
theorem T.weak {c : Code} {ts' : List AV} {mem' : List Blk} (h : Weak ts mem ts' mem') (hx : T P B w0 fz0 c ts' mem' Q) : T P B w0 fz0 c ts mem Q := by
  intro G a w hs
  obtain ⟨G', hs'⟩ := h B w0 fz0 G a w hs
  exact hx G' a w hs'
end
/-! fewer blocks, in another order; fewer temporaries -/
def findIx (l : List Nat) (r : Nat) : Option Nat :=
  match l with
  | [] => none
  | x :: l => if x = r then some 0 else (findIx l r).map (· + 1)
def AV.ren (ρ : Nat → Option Nat) : AV → AV
  | .cons a b => .cons (a.ren ρ) (b.ren ρ)
  | .st a => .st (a.ren ρ)
  | .row r => match ρ r with | some r' => .row r' | none => .unk
  | .sub r size lo n => match ρ r with | some r' => .sub r' size lo n | none => .unk
  | .mp r => match ρ r with | some r' => .mp r' | none => .unk
  | .ptr b p => match ρ b with | some b' => .ptr b' p | none => .unk
  | .slf b z => match ρ b with | some b' => .slf b' z | none => .unk
  | .fn f c => .fn f (c.ren ρ)
  | .tup a => .tup (a.ren ρ)
  | .pv c => .pv (c.ren ρ)
  | a => a
def Blk.ren (ρ : Nat → Option Nat) : Blk → Blk
  | .box t c => .box t (c.ren ρ)
  | .sav ts a => .sav (ts.map (AV.ren ρ)) a
  | .rowl t e l (some (z, c)) => .rowl t e l (some (z, c.ren ρ))
  | b => b
theorem Sh.av_ren (ρ : Nat → Option Nat) : ∀ (s : Sh) (x : s.T), (s.av x).ren ρ = s.av x
  | .int _, _ | .bool, _ | .str, _ | .unit, _ | .arr _ _, _ | .sl _, _ => rfl
  | .pair a b, x => by simp [Sh.av, AV.ren, Sh.av_ren ρ a, Sh.av_ren ρ b]
  | .st a, x => by simp [Sh.av, AV.ren, Sh.av_ren ρ a]
structure Rens (ρ : Nat → Option Nat) (G G' : Gh) : Prop where
  addr : ∀ r r', ρ r = some r' → G'.addr r' = G.addr r
  rowv : ∀ r r', ρ r = some r' → G'.rowv r' = G.rowv r
  fz : G'.fz = G.fz
theorem CellsR.ren {w : World} {G G' : Gh} {ρ : Nat → Option Nat} (h : Rens ρ G G') : ∀ (a : AV) (cs : List Value), CellsR w G a cs → CellsR w G' (a.ren ρ) cs
  | .unk, _, hc | .int .., _, hc | .bool .., _, hc | .str .., _, hc | .nil, _, hc | .nilS, _, hc | .nilP, _, hc | .tup _, _, hc | .emp, _, hc | .opq _, _, hc => hc
  | .ifc t e x b, cs, hc => by
    simp only [AV.ren, CellsR, h.fz] at hc ⊢; exact hc
  | .cons a b, cs, hc => by
    obtain ⟨c1, c2, e, h1, h2⟩ := hc
    exact ⟨c1, c2, e, CellsR.ren h a _ h1, CellsR.ren h b _ h2⟩
  | .st a, cs, hc => CellsR.ren h a cs hc
  | .arr n e l, cs, hc => by
    simp only [AV.ren, CellsR, h.fz] at hc ⊢; exact hc
  | .sl e l, cs, hc => by
    simp only [AV.ren, CellsR, h.fz] at hc ⊢; exact hc
  | .row r, cs, hc => by
    simp only [AV.ren]
    cases hr : ρ r with
    | none => obtain ⟨rfl, h1⟩ := hc; exact ⟨_, rfl, h1⟩
    | some r' =>
      show cs = [G'.rowv r'] ∧ _
      rw [h.rowv r r' hr]; exact hc
  | .sub r size lo n, cs, hc => by
    simp only [AV.ren]
    cases hr : ρ r with
    | none => obtain ⟨v, rfl, h1⟩ := hc; exact ⟨_, rfl, h1.one⟩
    | some r' =>
      show ∃ v, cs = [v] ∧ SubR size lo n (G'.rowv r') v
      rw [h.rowv r r' hr]; exact hc
  | .mp r, cs, hc => by
    simp only [AV.ren]
    cases hr : ρ r with
    | none => exact ⟨_, hc, rfl⟩
    | some b' =>
      show cs = [Value.map _]
      rw [h.addr r b' hr]; exact hc
  | .ptr b p, cs, hc => by
    simp only [AV.ren]
    cases hr : ρ b with
    | none => exact ⟨_, hc, rfl⟩
    | some b' =>
      show cs = [Value.pointer _]
      rw [h.addr b b' hr]; exact hc
  | .slf b z, cs, hc => by
    simp only [AV.ren]
    cases hr : ρ b with
    | none => exact ⟨_, hc, rfl⟩
    | some b' =>
      show cs = [Value.pointer _]
      rw [h.addr b b' hr]; exact hc
  | .fn f c, cs, hc => by
    obtain ⟨vs, e, h1⟩ := hc
    exact ⟨vs, e, CellsR.ren h c vs h1⟩
  | .pv c, cs, hc => by
    obtain ⟨b, off, e, hf, hb, cells, h1, hx⟩ := hc
    exact ⟨b, off, e, by rw [h.fz]; exact hf, hb, cells, CellsR.ren h c cells h1, hx⟩
theorem ValR0.ren {w : World} {G G' : Gh} {ρ : Nat → Option Nat} (h : Rens ρ G G') (a : AV) (v : Value) (hv : ValR0 w G a v) : ValR0 w G' (a.ren ρ) v := by
  cases a with
  | st a => obtain ⟨cs, e, h1⟩ := hv; exact ⟨cs, e, CellsR.ren h a _ h1⟩
  | arr n e l =>
    obtain ⟨cs, e', h1⟩ := hv
    exact ⟨cs, e', by rw [h.fz]; exact h1⟩
  | unk => trivial
  | row r =>
    have := CellsR.ren (w := w) h (.row r) [v] hv
    simp only [AV.ren] at this ⊢
    cases hr : ρ r with
    | none => trivial
    | some r' => rw [hr] at this; exact this
  | ptr b p =>
    have := CellsR.ren (w := w) h (.ptr b p) [v] hv
    simp only [AV.ren] at this ⊢
    cases hr : ρ b with
    | none => trivial
    | some r' => rw [hr] at this; exact this
  | slf b z =>
    have := CellsR.ren (w := w) h (.slf b z) [v] hv
    simp only [AV.ren] at this ⊢
    cases hr : ρ b with
    | none => trivial
    | some r' => rw [hr] at this; exact this
  | sub r size lo n =>
    have := CellsR.ren (w := w) h (.sub r size lo n) [v] hv
    simp only [AV.ren] at this ⊢
    cases hr : ρ r with
    | none => trivial
    | some r' => rw [hr] at this; exact this
  | mp r =>
    have := CellsR.ren (w := w) h (.mp r) [v] hv
    simp only [AV.ren] at this ⊢
    cases hr : ρ r with
    | none => trivial
    | some r' => rw [hr] at this; exact this
  | _ => exact CellsR.ren h _ _ hv
theorem ValsR.ren {w : World} {G G' : Gh} {ρ : Nat → Option Nat} (h : Rens ρ G G') : ∀ (a : AV) (vs : List Value), ValsR w G a vs → ValsR w G' (a.ren ρ) vs
  | .nil, vs, hv => hv
  | .cons a b, vs, hv => by
    obtain ⟨v, t, e, h1, h2⟩ := hv
    exact ⟨v, t, e, ValR0.ren h a v h1, ValsR.ren h b t h2⟩
  | .unk, _, h | .int .., _, h | .bool .., _, h | .str .., _, h | .st .., _, h | .arr .., _, h | .sl .., _, h | .nilS, _, h | .row .., _, h | .ptr .., _, h | .slf .., _, h | .nilP, _, h | .fn .., _, h | .tup .., _, h | .emp, _, h | .pv .., _, h | .sub .., _, h | .mp .., _, h | .ifc .., _, h | .opq .., _, h => h.elim
theorem ValR.ren {w : World} {G G' : Gh} {ρ : Nat → Option Nat} (h : Rens ρ G G') (a : AV) (v : Value) (hv : ValR w G a v) : ValR w G' (a.ren ρ) v := by
  cases a with
  | tup a => obtain ⟨vs, e, h1⟩ := hv; exact ⟨vs, e, ValsR.ren h a _ h1⟩
  | row r =>
    have := ValR0.ren (w := w) h (.row r) v hv
    simp only [AV.ren] at this ⊢
    cases hr : ρ r with
    | none => trivial
    | some r' => rw [hr] at this; exact this
  | ptr b p =>
    have := ValR0.ren (w := w) h (.ptr b p) v hv
    simp only [AV.ren] at this ⊢
    cases hr : ρ b with
    | none => trivial
    | some r' => rw [hr] at this; exact this
  | slf b z =>
    have := ValR0.ren (w := w) h (.slf b z) v hv
    simp only [AV.ren] at this ⊢
    cases hr : ρ b with
    | none => trivial
    | some r' => rw [hr] at this; exact this
  | sub r size lo n =>
    have := ValR0.ren (w := w) h (.sub r size lo n) v hv
    simp only [AV.ren] at this ⊢
    cases hr : ρ r with
    | none => trivial
    | some r' => rw [hr] at this; exact this
  | mp r =>
    have := ValR0.ren (w := w) h (.mp r) v hv
    simp only [AV.ren] at this ⊢
    cases hr : ρ r with
    | none => trivial
    | some r' => rw [hr] at this; exact this
  | _ => exact ValR.of0 (ValR0.ren (w := w) h _ v (ValR.to0 hv (by intro b e; cases e))) (by intro b e; cases e)
def reTs (ρ : Nat → Option Nat) : List AV → List Bool → List AV
  | [], _ => []
  | a :: l, m => (if m.headD false then a.ren ρ else .unk) :: reTs ρ l m.tail
def nodupB : List Nat → Bool
  | [] => true
  | x :: l => l.all (· != x) && nodupB l
/-- keep these blocks, in this order, and these temporaries -/
def re (keep : List Nat) (mask : List Bool) (ts : List AV) (mem : List Blk) : Option (List AV × List Blk) :=
  if nodupB keep = true ∧ (keep.map (fun i => (lk mem i).ren (findIx keep))).all (blkLt keep.length) = true ∧ (reTs (findIx keep) ts mask).all (refsLt keep.length) = true then
    some (reTs (findIx keep) ts mask, keep.map (fun i => (lk mem i).ren (findIx keep)))
  else none
theorem reTs_length (ρ : Nat → Option Nat) : ∀ (l : List AV) (m : List Bool), (reTs ρ l m).length = l.length
  | [], _ => rfl
  | a :: l, m => by simp [reTs, reTs_length ρ l]
theorem reTs_get (ρ : Nat → Option Nat) : ∀ (l : List AV) (m : List Bool) (t : Nat), (reTs ρ l m).getD t .unk = (l.getD t .unk).ren ρ ∨ (reTs ρ l m).getD t .unk = .unk
  | [], m, t => .inr rfl
  | a :: l, m, 0 => by
    simp only [reTs, List.getD_cons_zero]
    split
    · exact .inl rfl
    · exact .inr rfl
  | a :: l, m, t + 1 => by simpa [reTs] using reTs_get ρ l m.tail t
theorem findIx_some : ∀ (l : List Nat) (r r' : Nat), findIx l r = some r' → l[r']? = some r
  | [], r, r', h => by cases h
  | x :: l, r, r', h => by
    simp only [findIx] at h
    split at h
    · rename_i e; subst e; simp only [Option.some.injEq] at h; subst h; rfl
    · simp only [Option.map_eq_some_iff] at h
      obtain ⟨k, hk, rfl⟩ := h
      simpa using findIx_some l r k hk
theorem nodupB_ok : ∀ (l : List Nat), nodupB l = true → ∀ (i j x : Nat), l[i]? = some x → l[j]? = some x → i = j
  | [], _, i, j, x, hi, _ => by simp at hi
  | y :: l, h, i, j, x, hi, hj => by
    simp only [nodupB, Bool.and_eq_true, List.all_eq_true] at h
    cases i with
    | zero =>
      cases j with
      | zero => rfl
      | succ j =>
        simp at hi hj
        subst hi
        have := h.1 y (List.mem_of_getElem? hj)
        simp at this
    | succ i =>
      cases j with
      | zero =>
        simp at hi hj
        subst hj
        have := h.1 y (List.mem_of_getElem? hi)
        simp at this
      | succ j => simp at hi hj; rw [nodupB_ok l h.2 i j x hi hj]
theorem blk_ren_live (ρ : Nat → Option Nat) (b : Blk) (G : Gh) (i : Nat) : (b.ren ρ).live G i = b.live G i := by
  cases b with
  | rowl t e l x => rcases x with _ | ⟨z, c⟩ <;> rfl
  | _ => rfl
theorem re_weak' {keep : List Nat} {mask : List Bool} {ts ts' : List AV} {mem mem' : List Blk} (h : re keep mask ts mem = some (ts', mem')) {B : Nat} {w0 : World} {fz0 : Nat → Prop} {G : Gh} {a : Act} {w : World} (hs : StR B w0 fz0 ts mem G a w) :
    ∃ G', StR B w0 fz0 ts' mem' G' a w ∧ Rens (findIx keep) G G' := by
  unfold re at h
  split at h
  · rename_i hc
    obtain ⟨hnd, hbr, htr⟩ := hc
    simp only [Option.some.injEq, Prod.mk.injEq] at h
    obtain ⟨rfl, rfl⟩ := h
    let G' : Gh := ⟨fun i => G.addr (keep.getD i 0), fun i => G.rowv (keep.getD i 0), G.fz⟩
    have hρ : ∀ r r', findIx keep r = some r' → keep.getD r' 0 = r := by
      intro r r' hr
      have := findIx_some keep r r' hr
      simp [List.getD_eq_getElem?_getD, this]
    have hren : Rens (findIx keep) G G' := ⟨fun r r' hr => by simp only [G']; rw [hρ r r' hr], fun r r' hr => by simp only [G']; rw [hρ r r' hr], rfl⟩
    have hlk : ∀ i, lk (keep.map (fun i => (lk mem i).ren (findIx keep))) i = if i < keep.length then (lk mem (keep.getD i 0)).ren (findIx keep) else .dead := by
      intro i
      simp only [lk, List.getD_eq_getElem?_getD, List.getElem?_map]
      split
      · rename_i hi; simp [List.getElem?_eq_getElem hi]
      · rename_i hi; simp [List.getElem?_eq_none (Nat.not_lt.1 hi)]
    have hlive : ∀ i x, (lk (keep.map (fun i => (lk mem i).ren (findIx keep))) i).live G' i = some x → i < keep.length ∧ (lk mem (keep.getD i 0)).live G (keep.getD i 0) = some x := by
      intro i x hx
      rw [hlk] at hx
      split at hx
      · rename_i hi
        rw [blk_ren_live] at hx
        refine ⟨hi, ?_⟩
        revert hx
        cases lk mem (keep.getD i 0) <;> exact id
      · cases hx
    refine ⟨G', ⟨fun t r hr => ?_, ?_, ⟨?_, fun t => ?_⟩, ⟨fun i => ?_, fun i j x hij hi hj => ?_, fun i x hi => ?_, hs.mem.fz, hs.mem.base⟩, hs.below, hs.defers, hs.fz1, hs.fz2⟩, hren⟩
    · rw [List.length_map]
      rw [List.all_eq_true] at htr
      rcases Nat.lt_or_ge t (reTs (findIx keep) ts mask).length with hlt | hge
      · have hmem : (reTs (findIx keep) ts mask).getD t .unk ∈ reTs (findIx keep) ts mask := by
          rw [List.getD_eq_getElem?_getD, List.getElem?_eq_getElem hlt]; exact List.getElem_mem hlt
        exact refsLt_ok (htr _ hmem) r hr
      · rw [List.getD_eq_getElem?_getD, List.getElem?_eq_none hge] at hr; cases hr
    · rw [List.length_map]; exact all_refs hbr
    · rw [reTs_length]; exact hs.tmps.size
    · rcases reTs_get (findIx keep) ts mask t with e | e
      · rw [e]; exact ValR.ren hren _ _ (hs.tmps.val t)
      · rw [e]; trivial
    · rw [hlk]
      split
      · rename_i hi
        have hb := hs.mem.blk (keep.getD i 0)
        revert hb
        cases lk mem (keep.getD i 0) with
        | dead => intro _; trivial
        | box t c => rintro ⟨b1, cs, b2, b3⟩; exact ⟨b1, cs, b2, CellsR.ren hren c cs b3⟩
        | iter s p => exact id
        | map t k e l =>
          rintro ⟨es, clock, b1, b2⟩
          refine ⟨es, clock, b1, AllR.mono (fun x y hxy => ?_) _ _ b2⟩
          have e1 := ValR0.ren hren _ _ hxy.1
          have e2 := ValR0.ren hren _ _ hxy.2
          rw [Sh.av_ren] at e1 e2
          exact ⟨e1, e2⟩
        | sav ts a =>
          rintro ⟨⟨b1, b2⟩, b3⟩
          refine ⟨⟨by rw [List.length_map]; exact b1, fun t => ?_⟩, b3⟩
          have e1 : (ts.map (AV.ren (findIx keep))).getD t .unk = (ts.getD t .unk).ren (findIx keep) := by
            simp only [List.getD_eq_getElem?_getD, List.getElem?_map]
            cases ts[t]? <;> rfl
          rw [e1]
          exact ValR.ren hren _ _ (b2 t)
        | row t e l => rintro ⟨b1, cs, b2, b3⟩; exact ⟨b1, cs, b2, b3⟩
        | bbuf t e l => rintro ⟨⟨b1, cs, b2, b3⟩, b4⟩; exact ⟨⟨b1, cs, b2, b3⟩, b4⟩
        | rowl t e l x =>
          rintro ⟨b1, c1, c2, b2, b3, b4⟩
          rcases x with _ | ⟨z, c⟩
          · exact ⟨b1, c1, c2, b2, b3, b4⟩
          · exact ⟨b1, c1, c2, b2, b3, fun hz => CellsR.ren hren c c2 (b4.1 hz), b4.2⟩
      · trivial
    · obtain ⟨h1, h2⟩ := hlive i x hi
      obtain ⟨h3, h4⟩ := hlive j x hj
      refine hs.mem.apart _ _ x (fun e => hij ?_) h2 h4
      refine nodupB_ok keep hnd i j (keep.getD i 0) ?_ ?_
      · rw [List.getD_eq_getElem?_getD, List.getElem?_eq_getElem h1]; rfl
      · rw [e, List.getD_eq_getElem?_getD, List.getElem?_eq_getElem h3]; rfl
    · exact hs.mem.own _ x (hlive i x hi).2
  · cases h
theorem re_weak {keep : List Nat} {mask : List Bool} {ts ts' : List AV} {mem mem' : List Blk} (h : re keep mask ts mem = some (ts', mem')) : Weak ts mem ts' mem' := by
  intro B w0 fz0 G a w hs
  obtain ⟨G', h1, _⟩ := re_weak' h hs
  exact ⟨G', h1⟩
end Go.Proofs.YtdomallemkbinaaGreatDoor
