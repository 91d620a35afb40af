/- A machine of values, part 1: shapes of data; what a machine's value says of a value of the model, in a world. -/
import Derived.WalkKit
import Derived.Below
import Derived.Laws.AppendOwn
namespace Go.Proofs.YtbpjinefbnlenaaGreatDoor
open Go Go.RowKit
set_option linter.unusedVariables false

/-- shapes of data -/
inductive Sh where
  | int (k : IntKind) | bool | str | unit | pair (a b : Sh) | st (a : Sh) | arr (n : Nat) (a : Sh) | sl (a : Sh)
  deriving DecidableEq
/-- the data of a shape -/
@[reducible] def Sh.T : Sh → Type
  | .int _ => Int
  | .bool => Bool
  | .str => List UInt8
  | .unit => Unit
  | .pair a b => a.T × b.T
  | .st a => a.T
  | .arr _ a => List a.T
  | .sl a => List a.T
def Sh.size : Sh → Nat
  | .unit => 0
  | .pair a b => a.size + b.size
  | .st a => a.size
  | .arr n a => n * a.size
  | _ => 1
def Sh.dflt : (s : Sh) → s.T
  | .int _ => (0 : Int)
  | .bool => false
  | .str => ([] : List UInt8)
  | .unit => ()
  | .pair a b => (a.dflt, b.dflt)
  | .st a => a.dflt
  | .arr n a => List.replicate n a.dflt
  | .sl a => ([] : List a.T)

/-- cells in a row, element by element -/
def CatR {α : Type} (R : α → List Value → Prop) : List α → List Value → Prop
  | [], cs => cs = []
  | x :: l, cs => ∃ c1 c2, cs = c1 ++ c2 ∧ R x c1 ∧ CatR R l c2
theorem CatR.mono {α : Type} {R R' : α → List Value → Prop} (h : ∀ x c, R x c → R' x c) : ∀ (l : List α) (cs : List Value), CatR R l cs → CatR R' l cs
  | [], _, e => e
  | x :: l, cs, ⟨c1, c2, e, h1, h2⟩ => ⟨c1, c2, e, h x c1 h1, CatR.mono h l c2 h2⟩
theorem CatR.append {α : Type} {R : α → List Value → Prop} : ∀ {l m : List α} {a b : List Value}, CatR R l a → CatR R m b → CatR R (l ++ m) (a ++ b)
  | [], m, a, b, ha, hb => by simp only [CatR] at ha; subst ha; simpa using hb
  | x :: l, m, a, b, ⟨c1, c2, e, h1, h2⟩, hb => ⟨c1, c2 ++ b, by rw [e, List.append_assoc], h1, CatR.append h2 hb⟩
theorem CatR.one {α : Type} {R : α → List Value → Prop} {x : α} {c : List Value} (h : R x c) : CatR R [x] c := ⟨c, [], by simp, h, rfl⟩
theorem CatR.split {α : Type} {R : α → List Value → Prop} : ∀ {l m : List α} {cs : List Value}, CatR R (l ++ m) cs → ∃ a b, cs = a ++ b ∧ CatR R l a ∧ CatR R m b
  | [], m, cs, h => ⟨[], cs, rfl, rfl, h⟩
  | x :: l, m, cs, ⟨c1, c2, e, h1, h2⟩ => by
    obtain ⟨a, b, e2, h3, h4⟩ := CatR.split (l := l) h2
    exact ⟨c1 ++ a, b, by rw [e, e2, List.append_assoc], ⟨c1, a, rfl, h1, h3⟩, h4⟩
theorem CatR.length {α : Type} {R : α → List Value → Prop} {k : Nat} (h : ∀ x c, R x c → c.length = k) : ∀ (l : List α) (cs : List Value), CatR R l cs → cs.length = l.length * k
  | [], _, e => by simp only [CatR] at e; subst e; simp
  | x :: l, cs, ⟨c1, c2, e, h1, h2⟩ => by
    have := CatR.length h l c2 h2
    have := h x c1 h1
    subst e
    rw [List.length_append, List.length_cons, Nat.succ_mul]
    omega
/-- the element at a place -/
theorem CatR.at {α : Type} {R : α → List Value → Prop} {k : Nat} (h : ∀ x c, R x c → c.length = k) {l : List α} {cs : List Value} (hl : CatR R l cs) {i : Nat} {x : α} (hi : l[i]? = some x) :
    ∃ a c b, cs = a ++ c ++ b ∧ a.length = i * k ∧ R x c ∧ CatR R (l.take i) a ∧ CatR R (l.drop (i + 1)) b := by
  have hlt : i < l.length := (List.getElem?_eq_some_iff.1 hi).1
  have hx : l[i] = x := (List.getElem?_eq_some_iff.1 hi).2
  have e : l = l.take i ++ (x :: l.drop (i + 1)) := by
    rw [← hx, ← List.drop_eq_getElem_cons hlt, List.take_append_drop]
  rw [e] at hl
  obtain ⟨a, b, e1, h1, c, b', e2, h2, h3⟩ := CatR.split hl
  refine ⟨a, c, b', by rw [e1, e2, List.append_assoc], ?_, h2, h1, h3⟩
  rw [CatR.length h _ _ h1, List.length_take]
  congr 1
  omega
theorem CatR.set {α : Type} {R : α → List Value → Prop} {l : List α} {i : Nat} {x : α} {a c b : List Value} (hi : i < l.length) (h1 : CatR R (l.take i) a) (h2 : R x c) (h3 : CatR R (l.drop (i + 1)) b) : CatR R (l.set i x) (a ++ c ++ b) := by
  have e : l.set i x = l.take i ++ (x :: l.drop (i + 1)) := by
    rw [List.set_eq_take_append_cons_drop, if_pos hi]
  rw [e, List.append_assoc]
  exact CatR.append h1 ⟨c, b, rfl, h2, h3⟩

/-- a datum of a shape, as cells, in a world; 'fz': the blocks that nobody writes any more -/
def ShR (w : World) (fz : Nat → Prop) : (s : Sh) → s.T → List Value → Prop
  | .int k, x, cs => cs = [.int k x]
  | .bool, x, cs => cs = [.bool x]
  | .str, x, cs => cs = [.string ⟨x.toArray⟩]
  | .unit, _, cs => cs = []
  | .pair a b, x, cs => ∃ c1 c2, cs = c1 ++ c2 ∧ ShR w fz a x.1 c1 ∧ ShR w fz b x.2 c2
  | .st a, x, cs => ShR w fz a x cs
  | .arr n a, x, cs => x.length = n ∧ CatR (ShR w fz a) x cs
  | .sl a, x, cs => ∃ ad cap, cs = [.slice ad x.length cap] ∧ x.length ≤ cap ∧ cap ≤ maxLen ∧
      (0 < x.length → ∃ b off cells, ad = some ⟨b, off, none⟩ ∧ fz b ∧ b < w.heap.size ∧ CatR (ShR w fz a) x cells ∧ ∀ i v, cells[i]? = some v → w.cell? ⟨b, off + i, none⟩ = some v)
theorem ShR.length {w : World} {fz : Nat → Prop} : ∀ (s : Sh) (x : s.T) (cs : List Value), ShR w fz s x cs → cs.length = s.size
  | .int k, x, cs, h => by simp only [ShR] at h; subst h; rfl
  | .bool, x, cs, h => by simp only [ShR] at h; subst h; rfl
  | .str, x, cs, h => by simp only [ShR] at h; subst h; rfl
  | .unit, x, cs, h => by simp only [ShR] at h; subst h; rfl
  | .pair a b, x, cs, h => by
    obtain ⟨c1, c2, rfl, h1, h2⟩ := h
    rw [List.length_append, ShR.length a _ _ h1, ShR.length b _ _ h2]; rfl
  | .st a, x, cs, h => ShR.length a x cs h
  | .arr n a, x, cs, h => by
    obtain ⟨h1, h2⟩ := h
    rw [CatR.length (fun y c hy => ShR.length a y c hy) _ _ h2, h1]; rfl
  | .sl a, x, cs, h => by obtain ⟨_, _, rfl, _⟩ := h; rfl
/-- the frozen blocks stay as they are -/
structure Keeps (fz fz' : Nat → Prop) (w w' : World) : Prop where
  size : w.heap.size ≤ w'.heap.size
  block : ∀ b, fz b → b < w.heap.size → w'.heap[b]? = w.heap[b]?
  fz : ∀ b, fz b → fz' b
theorem ShR.keep {w w' : World} {fz fz' : Nat → Prop} (hk : Keeps fz fz' w w') : ∀ (s : Sh) (x : s.T) (cs : List Value), ShR w fz s x cs → ShR w' fz' s x cs
  | .int k, x, cs, h => h
  | .bool, x, cs, h => h
  | .str, x, cs, h => h
  | .unit, x, cs, h => h
  | .pair a b, x, cs, h => by
    obtain ⟨c1, c2, e, h1, h2⟩ := h
    exact ⟨c1, c2, e, ShR.keep hk a _ _ h1, ShR.keep hk b _ _ h2⟩
  | .st a, x, cs, h => ShR.keep hk a x cs h
  | .arr n a, x, cs, h => ⟨h.1, CatR.mono (fun y c hy => ShR.keep hk a y c hy) _ _ h.2⟩
  | .sl a, x, cs, h => by
    obtain ⟨ad, cap, e, h1, h2, h3⟩ := h
    refine ⟨ad, cap, e, h1, h2, fun h0 => ?_⟩
    obtain ⟨b, off, cells, e2, hf, hb, hc, hx⟩ := h3 h0
    refine ⟨b, off, cells, e2, hk.fz b hf, Nat.lt_of_lt_of_le hb hk.size, CatR.mono (fun y c hy => ShR.keep hk a y c hy) _ _ hc, fun i v hi => ?_⟩
    exact (World.cell?_of_block (w := w) (a := ⟨b, off + i, none⟩) (hk.block b hf hb)).trans (hx i v hi)

/-- a step to a part -/
inductive Step where
  | fld (i off : Nat)
  | idx (k size : Nat)
  | lst (o : Nat)
def offs : List Step → Nat
  | [] => 0
  | .fld _ o :: p => o + offs p
  | .idx k s :: p => k * s + offs p
  | .lst o :: p => o + offs p
/-- the machine's values -/
inductive AV where
  | unk
  | int (k : IntKind) (n : Int)
  | bool (b : Bool)
  | str (s : List UInt8)
  | nil
  | cons (a b : AV)
  | st (a : AV)
  | arr (n : Nat) (e : Sh) (l : List e.T)
  | sl (e : Sh) (l : List e.T)
  | nilS
  | row (r : Nat)
  | ptr (b : Nat) (p : List Step)
  | slf (b : Nat) (z : Bool)
  | nilP
  | fn (f : Nat) (caps : AV)
  | tup (a : AV)
  | emp
  | pv (c : AV)
  | sub (r size lo n : Nat)
  | mp (r : Nat)
  | ifc (t : TypeId) (e : Sh) (x : e.T) (b : Bool)
  | opq (b : Bool)
/-- a datum as a machine's value -/
def Sh.av : (s : Sh) → s.T → AV
  | .int k, x => .int k x
  | .bool, x => .bool x
  | .str, x => .str x
  | .unit, _ => .nil
  | .pair a b, x => .cons (a.av x.1) (b.av x.2)
  | .st a, x => .st (a.av x)
  | .arr n a, x => .arr n a x
  | .sl a, x => .sl a x
def AV.size : AV → Nat
  | .nil => 0
  | .cons a b => a.size + b.size
  | .st a => a.size
  | .arr n e _ => n * e.size
  | _ => 1
theorem Sh.av_size : ∀ (s : Sh) (x : s.T), (s.av x).size = s.size
  | .int _, _ | .bool, _ | .str, _ | .unit, _ | .arr _ _, _ | .sl _, _ => rfl
  | .pair a b, x => by simp only [Sh.av, AV.size, Sh.size, Sh.av_size a, Sh.av_size b]
  | .st a, x => by simp only [Sh.av, AV.size, Sh.size, Sh.av_size a]

/-- where the machine's blocks lie -/
structure Gh where
  addr : Nat → Addr
  rowv : Nat → Value
  fz : Nat → Prop

/-- a part of a slice -/
def SubR (size lo n : Nat) (rv v : Value) : Prop :=
  ∃ ad N cap a', rv = .slice ad N cap ∧ N ≤ cap ∧ cap ≤ maxLen ∧ v = .slice a' n (cap - lo) ∧ lo + n ≤ N ∧ (lo < cap → a' = ad.map (·.add (lo * size)))
theorem SubR.one {size lo n : Nat} {rv v : Value} (h : SubR size lo n rv v) : v.oneCell' = true := by
  obtain ⟨ad, N, cap, a', _, _, _, rfl, _⟩ := h; rfl
/-- a machine's value, as cells -/
def CellsR (w : World) (G : Gh) : AV → List Value → Prop
  | .unk, cs => ∃ v, cs = [v] ∧ v.oneCell' = true
  | .int k n, cs => cs = [.int k n]
  | .bool b, cs => cs = [.bool b]
  | .str s, cs => cs = [.string ⟨s.toArray⟩]
  | .nil, cs => cs = []
  | .cons a b, cs => ∃ c1 c2, cs = c1 ++ c2 ∧ CellsR w G a c1 ∧ CellsR w G b c2
  | .st a, cs => CellsR w G a cs
  | .arr n e l, cs => ShR w G.fz (.arr n e) l cs
  | .sl e l, cs => ShR w G.fz (.sl e) l cs
  | .nilS, cs => cs = [.slice none 0 0]
  | .row r, cs => cs = [G.rowv r] ∧ (G.rowv r).oneCell' = true
  | .ptr b p, cs => cs = [.pointer (some ⟨(G.addr b).block, (G.addr b).off + offs p, none⟩)]
  | .slf b z, cs => cs = [.pointer (if z = true then none else some ⟨(G.addr b).block, (G.addr b).off, none⟩)]
  | .nilP, cs => cs = [.pointer none]
  | .fn f caps, cs => ∃ vs : List Value, cs = [.func (.func f) #[] vs.toArray] ∧ CellsR w G caps vs
  | .tup _, _ => False
  | .emp, cs => ∃ a, cs = [.slice a 0 0]
  | .sub r size lo n, cs => ∃ v, cs = [v] ∧ SubR size lo n (G.rowv r) v
  | .mp r, cs => cs = [.map (some (G.addr r).block)]
  | .ifc t e x b, cs => (b = true → ∃ v, cs = [.iface t v] ∧ v.oneCell' = true ∧ ShR w G.fz e x [v]) ∧ (b = false → cs = [.nilIface])
  | .opq b, cs => (b = true → ∃ t v, cs = [.iface t v]) ∧ (b = false → cs = [.nilIface])
  | .pv c, cs => ∃ b off, cs = [.pointer (some ⟨b, off, none⟩)] ∧ G.fz b ∧ b < w.heap.size ∧ ∃ cells, CellsR w G c cells ∧ ∀ i v, cells[i]? = some v → w.cell? ⟨b, off + i, none⟩ = some v
theorem CellsR.length {w : World} {G : Gh} : ∀ (a : AV) (cs : List Value), CellsR w G a cs → cs.length = a.size
  | .unk, cs, h => by obtain ⟨v, rfl, _⟩ := h; rfl
  | .int k n, cs, h => by simp only [CellsR] at h; subst h; rfl
  | .bool k, cs, h => by simp only [CellsR] at h; subst h; rfl
  | .str k, cs, h => by simp only [CellsR] at h; subst h; rfl
  | .nil, cs, h => by simp only [CellsR] at h; subst h; rfl
  | .cons a b, cs, h => by
    obtain ⟨c1, c2, rfl, h1, h2⟩ := h
    rw [List.length_append, CellsR.length a _ h1, CellsR.length b _ h2]; rfl
  | .st a, cs, h => CellsR.length a cs h
  | .arr n e l, cs, h => ShR.length (.arr n e) l cs h
  | .sl e l, cs, h => ShR.length (.sl e) l cs h
  | .nilS, cs, h => by simp only [CellsR] at h; subst h; rfl
  | .row r, cs, h => by obtain ⟨rfl, _⟩ := h; rfl
  | .ptr b p, cs, h => by simp only [CellsR] at h; subst h; rfl
  | .slf b z, cs, h => by simp only [CellsR] at h; subst h; rfl
  | .nilP, cs, h => by simp only [CellsR] at h; subst h; rfl
  | .fn f caps, cs, h => by obtain ⟨vs, rfl, _⟩ := h; rfl
  | .tup _, _, h => h.elim
  | .emp, cs, h => by obtain ⟨a, rfl⟩ := h; rfl
  | .sub .., cs, h => by obtain ⟨v, rfl, _⟩ := h; rfl
  | .mp _, cs, h => by simp only [CellsR] at h; subst h; rfl
  | .ifc t e x b, cs, h => by
    cases b with
    | true => obtain ⟨v, rfl, _⟩ := h.1 rfl; rfl
    | false => rw [h.2 rfl]; rfl
  | .opq b, cs, h => by
    cases b with
    | true => obtain ⟨t, v, rfl⟩ := h.1 rfl; rfl
    | false => rw [h.2 rfl]; rfl
  | .pv c, cs, h => by obtain ⟨b, off, rfl, _⟩ := h; rfl
/-- a datum's cells, both ways -/
theorem CellsR.av {w : World} {G : Gh} : ∀ (s : Sh) (x : s.T) (cs : List Value), CellsR w G (s.av x) cs ↔ ShR w G.fz s x cs
  | .int _, _, _ | .bool, _, _ | .str, _, _ | .unit, _, _ | .arr _ _, _, _ | .sl _, _, _ => Iff.rfl
  | .pair a b, x, cs => by
    simp only [Sh.av, CellsR, ShR]
    constructor
    · rintro ⟨c1, c2, e, h1, h2⟩; exact ⟨c1, c2, e, (CellsR.av a _ _).1 h1, (CellsR.av b _ _).1 h2⟩
    · rintro ⟨c1, c2, e, h1, h2⟩; exact ⟨c1, c2, e, (CellsR.av a _ _).2 h1, (CellsR.av b _ _).2 h2⟩
  | .st a, x, cs => CellsR.av a x cs
/-- the ghosts agree on the machine's blocks that a value names -/
def AV.refs : AV → List Nat
  | .cons a b => a.refs ++ b.refs
  | .st a => a.refs
  | .row r => [r]
  | .sub r _ _ _ => [r]
  | .mp r => [r]
  | .ptr b _ => [b]
  | .slf b _ => [b]
  | .fn _ c => c.refs
  | .tup a => a.refs
  | .pv c => c.refs
  | _ => []
theorem Sh.av_refs : ∀ (s : Sh) (x : s.T), (s.av x).refs = []
  | .int _, _ | .bool, _ | .str, _ | .unit, _ | .arr _ _, _ | .sl _, _ => rfl
  | .pair a b, x => by simp [Sh.av, AV.refs, Sh.av_refs a, Sh.av_refs b]
  | .st a, x => by simp [Sh.av, AV.refs, Sh.av_refs a]
structure Agree (G G' : Gh) (b : Nat) : Prop where
  addr : G'.addr b = G.addr b
  rowv : G'.rowv b = G.rowv b
theorem CellsR.keep {w w' : World} {G G' : Gh} (hk : Keeps G.fz G'.fz w w') : ∀ (a : AV) (cs : List Value), (∀ b ∈ a.refs, Agree G G' b) → CellsR w G a cs → CellsR w' G' a cs
  | .unk, cs, _, h => h
  | .int k n, cs, _, h => h
  | .bool k, cs, _, h => h
  | .str k, cs, _, h => h
  | .nil, cs, _, h => h
  | .cons a b, cs, hr, h => by
    obtain ⟨c1, c2, e, h1, h2⟩ := h
    exact ⟨c1, c2, e, CellsR.keep hk a _ (fun x hx => hr x (by simp [AV.refs, hx])) h1, CellsR.keep hk b _ (fun x hx => hr x (by simp [AV.refs, hx])) h2⟩
  | .st a, cs, hr, h => CellsR.keep hk a cs hr h
  | .arr n e l, cs, _, h => ShR.keep hk (.arr n e) l cs h
  | .sl e l, cs, _, h => ShR.keep hk (.sl e) l cs h
  | .nilS, cs, _, h => h
  | .row r, cs, hr, h => by
    simp only [CellsR] at h ⊢
    rw [(hr r (by simp [AV.refs])).rowv]; exact h
  | .ptr b p, cs, hr, h => by
    simp only [CellsR] at h ⊢
    rw [(hr b (by simp [AV.refs])).addr]; exact h
  | .slf b z, cs, hr, h => by
    simp only [CellsR] at h ⊢
    rw [(hr b (by simp [AV.refs])).addr]; exact h
  | .nilP, cs, _, h => h
  | .fn f caps, cs, hr, h => by
    obtain ⟨vs, e, h1⟩ := h
    exact ⟨vs, e, CellsR.keep hk caps vs hr h1⟩
  | .tup _, _, _, h => h
  | .emp, _, _, h => h
  | .sub r size lo n, cs, hr, h => by
    simp only [CellsR] at h ⊢
    rw [(hr r (by simp [AV.refs])).rowv]; exact h
  | .mp r, cs, hr, h => by
    simp only [CellsR] at h ⊢
    rw [(hr r (by simp [AV.refs])).addr]; exact h
  | .ifc t e x b, cs, _, h => ⟨fun hb => by obtain ⟨v, e1, h1, h2⟩ := h.1 hb; exact ⟨v, e1, h1, ShR.keep hk e x _ h2⟩, h.2⟩
  | .opq _, _, _, h => h
  | .pv c, cs, hr, h => by
    obtain ⟨b, off, e, hf, hb, cells, hc, hx⟩ := h
    exact ⟨b, off, e, hk.fz b hf, Nat.lt_of_lt_of_le hb hk.size, cells, CellsR.keep hk c cells hr hc, fun i v hi => (World.cell?_of_block (w := w) (a := ⟨b, off + i, none⟩) (hk.block b hf hb)).trans (hx i v hi)⟩
/-- a machine's value, as a value -/
def ValR0 (w : World) (G : Gh) : AV → Value → Prop
  | .st a, v => ∃ cs, v = .agg cs ∧ CellsR w G a cs.toList
  | .arr n e l, v => ∃ cs, v = .agg cs ∧ ShR w G.fz (.arr n e) l cs.toList
  | .unk, _ => True
  | a, v => CellsR w G a [v]
def ValsR (w : World) (G : Gh) : AV → List Value → Prop
  | .nil, vs => vs = []
  | .cons a b, vs => ∃ v t, vs = v :: t ∧ ValR0 w G a v ∧ ValsR w G b t
  | _, _ => False
def ValR (w : World) (G : Gh) : AV → Value → Prop
  | .tup a, v => ∃ vs, v = .tuple vs ∧ ValsR w G a vs.toList
  | a, v => ValR0 w G a v
theorem ValR0.keep {w w' : World} {G G' : Gh} (hk : Keeps G.fz G'.fz w w') (a : AV) (v : Value) (hr : ∀ b ∈ a.refs, Agree G G' b) (h : ValR0 w G a v) : ValR0 w' G' a v := by
  cases a with
  | st a => obtain ⟨cs, e, h1⟩ := h; exact ⟨cs, e, CellsR.keep hk a _ hr h1⟩
  | arr n e l => obtain ⟨cs, e, h1⟩ := h; exact ⟨cs, e, ShR.keep hk _ _ _ h1⟩
  | unk => trivial
  | _ => exact CellsR.keep hk _ _ hr h
theorem ValsR.keep {w w' : World} {G G' : Gh} (hk : Keeps G.fz G'.fz w w') : ∀ (a : AV) (vs : List Value), (∀ b ∈ a.refs, Agree G G' b) → ValsR w G a vs → ValsR w' G' a vs
  | .nil, vs, _, h => h
  | .cons a b, vs, hr, h => by
    obtain ⟨v, t, e, h1, h2⟩ := h
    exact ⟨v, t, e, ValR0.keep hk a v (fun x hx => hr x (by simp [AV.refs, hx])) h1, ValsR.keep hk b t (fun x hx => hr x (by simp [AV.refs, hx])) h2⟩
  | .unk, _, _, h | .int .., _, _, h | .bool .., _, _, h | .str .., _, _, h | .st .., _, _, h | .arr .., _, _, h | .sl .., _, _, h | .nilS, _, _, h | .row .., _, _, h | .ptr .., _, _, h | .slf .., _, _, h | .nilP, _, _, h | .fn .., _, _, h | .tup .., _, _, h | .emp, _, _, h | .pv .., _, _, h | .sub .., _, _, h | .mp .., _, _, h | .ifc .., _, _, h | .opq .., _, _, h => h.elim
theorem ValR.keep {w w' : World} {G G' : Gh} (hk : Keeps G.fz G'.fz w w') (a : AV) (v : Value) (hr : ∀ b ∈ a.refs, Agree G G' b) (h : ValR w G a v) : ValR w' G' a v := by
  cases a with
  | tup a => obtain ⟨vs, e, h1⟩ := h; exact ⟨vs, e, ValsR.keep hk a _ hr h1⟩
  | _ => exact ValR0.keep hk _ v hr h

/-- the machine's temporaries and the model's -/
structure TmpsR (w : World) (G : Gh) (ts : List AV) (a : Act) : Prop where
  size : a.tmps.size = ts.length
  val : ∀ t, ValR w G (ts.getD t .unk) (a.tmps.getD t undef)
theorem TmpsR.keep {w w' : World} {G G' : Gh} {ts : List AV} {a : Act} (h : TmpsR w G ts a) (hk : Keeps G.fz G'.fz w w') (hr : ∀ t r, r ∈ (ts.getD t .unk).refs → Agree G G' r) : TmpsR w' G' ts a :=
  ⟨h.size, fun t => ValR.keep hk _ _ (fun r hr' => hr t r hr') (h.val t)⟩
/-- the machine's blocks; 'sav': no block, but what a caller keeps while a call runs -/
inductive Blk where
  | dead
  | box (t : TypeId) (c : AV)
  | row (t : TypeId) (e : Sh) (l : List e.T)
  | sav (ts : List AV) (a : Act)
  | iter (s : List UInt8) (pos : Nat)
  | map (t : TypeId) (k e : Sh) (l : List (k.T × e.T))
  | bbuf (t : TypeId) (e : Sh) (l : List e.T)
  | rowl (t : TypeId) (e : Sh) (l : List e.T) (x : Option (Bool × AV))
/-- the block that a slice of the call's own may write -/
def rowBlk : Value → Option Nat
  | .slice _ _ 0 => none
  | .slice (some a) _ _ => some a.block
  | _ => none
/-- these cells stand at the head of an own block; what is barred in it, if anything, lies behind its cells -/
def OwnAt (w : World) (g : Nat) (t : TypeId) (cs rest : List Value) : Prop :=
  ∃ fr : Nat × Nat, w.heap[g]? = some (.cells (cs ++ rest).toArray t fr) ∧ (fr = (0, 0) ∨ (t = 5 ∧ (cs ++ rest).length ≤ fr.1))
/-- a slice value that owns its row -/
def RowV (B : Nat) (w : World) (t : TypeId) (size : Nat) (v : Value) (n : Nat) (cs : List Value) : Prop :=
  (n = 0 ∧ cs = [] ∧ ∃ a, v = .slice a 0 0) ∨
  ∃ g cap rest, v = .slice (some ⟨g, 0, none⟩) n cap ∧ 0 < cap ∧ B ≤ g ∧ OwnAt w g t cs rest ∧ n ≤ cap ∧ cap ≤ maxLen ∧ cs.length = n * size ∧ (cs ++ rest).length = cap * size
/-- a slice value that owns a row, from some place of its block on -/
def RowO (B : Nat) (w : World) (t : TypeId) (size : Nat) (v : Value) (n : Nat) (cs : List Value) : Prop :=
  (n = 0 ∧ cs = [] ∧ ∃ a, v = .slice a 0 0) ∨
  ∃ g pre cap rest, v = .slice (some ⟨g, pre.length, none⟩) n cap ∧ 0 < cap ∧ B ≤ g ∧ OwnAt w g t (pre ++ cs) rest ∧ n ≤ cap ∧ cap ≤ maxLen ∧ cs.length = n * size ∧ (cs ++ rest).length = cap * size
theorem RowV.toO {B : Nat} {w : World} {t : TypeId} {size : Nat} {v : Value} {n : Nat} {cs : List Value} (h : RowV B w t size v n cs) : RowO B w t size v n cs := by
  rcases h with h | ⟨g, cap, rest, h1, h2, h3, h4, h5⟩
  · exact .inl h
  · exact .inr ⟨g, [], cap, rest, h1, h2, h3, h4, h5⟩
/-- a row's last element, if it has one that is no datum -/
def lstN : Option (Bool × AV) → Nat
  | none => 0
  | some (z, _) => cond z 1 0
def LstR (w : World) (G : Gh) : Option (Bool × AV) → List Value → Prop
  | none, cs => cs = []
  | some (z, c), cs => (z = true → CellsR w G c cs) ∧ (z = false → cs = [])
def lstRefs : Option (Bool × AV) → List Nat
  | none => []
  | some (_, c) => c.refs
theorem LstR.keep {w w' : World} {G G' : Gh} (hk : Keeps G.fz G'.fz w w') (x : Option (Bool × AV)) (cs : List Value) (hr : ∀ b ∈ lstRefs x, Agree G G' b) (h : LstR w G x cs) : LstR w' G' x cs := by
  cases x with
  | none => exact h
  | some y => obtain ⟨z, c⟩ := y; exact ⟨fun hz => CellsR.keep hk c cs hr (h.1 hz), h.2⟩
/-- where a slice's row begins -/
def RowAt (v : Value) (a : Addr) : Prop := ∀ g o n cap, v = .slice (some ⟨g, o, none⟩) n cap → 0 < cap → a = ⟨g, o, none⟩
def AllR {α β : Type} (R : α → β → Prop) : List α → List β → Prop
  | [], m => m = []
  | x :: l, m => ∃ y t, m = y :: t ∧ R x y ∧ AllR R l t
theorem AllR.mono {α β : Type} {R R' : α → β → Prop} (h : ∀ x y, R x y → R' x y) : ∀ (l : List α) (m : List β), AllR R l m → AllR R' l m
  | [], _, e => e
  | x :: l, _, ⟨y, t, e, h1, h2⟩ => ⟨y, t, e, h x y h1, AllR.mono h l t h2⟩
/-- a map's entries -/
def EntR (w : World) (G : Gh) (k e : Sh) (x : k.T × e.T) (y : MapEntry) : Prop := ValR0 w G (k.av x.1) y.key ∧ ValR0 w G (e.av x.2) y.val
theorem EntR.keep {w w' : World} {G G' : Gh} (hk : Keeps G.fz G'.fz w w') {k e : Sh} {x : k.T × e.T} {y : MapEntry} (h : EntR w G k e x y) : EntR w' G' k e x y :=
  ⟨ValR0.keep hk _ _ (by rw [Sh.av_refs]; simp) h.1, ValR0.keep hk _ _ (by rw [Sh.av_refs]; simp) h.2⟩
/-- a slice that is nil or has room -/
def Tight (v : Value) : Prop := ∀ a n, v ≠ .slice (some a) n 0
def BlkR (B : Nat) (w : World) (G : Gh) (i : Nat) : Blk → Prop
  | .dead => True
  | .box t c => (G.addr i).off = 0 ∧ ∃ cs : List Value, OwnAt w (G.addr i).block t cs [] ∧ CellsR w G c cs
  | .row t e l => (∀ g, rowBlk (G.rowv i) = some g → G.addr i = ⟨g, 0, none⟩) ∧ ∃ cs, RowV B w t e.size (G.rowv i) l.length cs ∧ CatR (ShR w G.fz e) l cs
  | .sav ts a => TmpsR w G ts a ∧ a.defers = []
  | .iter s pos => (G.addr i).off = 0 ∧ w.heap[(G.addr i).block]? = some (.stringIter ⟨s.toArray⟩ pos)
  | .map _ k e l => ∃ es clock, w.heap[(G.addr i).block]? = some (.map es clock) ∧ AllR (EntR w G k e) l es.toList
  | .bbuf t e l => ((∀ g, rowBlk (G.rowv i) = some g → G.addr i = ⟨g, 0, none⟩) ∧ ∃ cs, RowV B w t e.size (G.rowv i) l.length cs ∧ CatR (ShR w G.fz e) l cs) ∧ Tight (G.rowv i)
  | .rowl t e l x => RowAt (G.rowv i) (G.addr i) ∧ ∃ c1 c2, RowO B w t e.size (G.rowv i) (l.length + lstN x) (c1 ++ c2) ∧ CatR (ShR w G.fz e) l c1 ∧ LstR w G x c2
def Blk.live (G : Gh) (i : Nat) : Blk → Option Nat
  | .box _ _ => some (G.addr i).block
  | .row _ _ _ => rowBlk (G.rowv i)
  | .iter _ _ => some (G.addr i).block
  | .map _ _ _ _ => some (G.addr i).block
  | .bbuf _ _ _ => rowBlk (G.rowv i)
  | .rowl _ _ _ _ => rowBlk (G.rowv i)
  | _ => none
def Blk.refs : Blk → List Nat
  | .box _ c => c.refs
  | .sav ts _ => ts.flatMap AV.refs
  | .rowl _ _ _ x => lstRefs x
  | _ => []
theorem sav_refs {ts : List AV} {t r : Nat} (h : r ∈ (ts.getD t .unk).refs) : r ∈ ts.flatMap AV.refs := by
  rw [List.getD_eq_getElem?_getD] at h
  rcases Nat.lt_or_ge t ts.length with h1 | h1
  · rw [List.getElem?_eq_getElem h1] at h
    exact List.mem_flatMap.2 ⟨ts[t], List.getElem_mem h1, h⟩
  · rw [List.getElem?_eq_none h1] at h; simp [AV.refs] at h
abbrev lk (mem : List Blk) (i : Nat) : Blk := mem.getD i .dead
/-- does this program's library read a variable of its own (internal/bytealg.MaxLen)? -/
def GI : Bool := true
/-- does it read tables of its own (unicode/utf8's)? -/
def GT : Bool := false
def TabsAt (w : World) : Prop := True
theorem TabsAt.keep {w w' : World} (h : TabsAt w) (h1 : w'.heap[0]? = w.heap[0]?) (h2 : w'.heap[0]? = w.heap[0]?) : TabsAt w' := trivial
def TabB (B : Nat) (w : World) : Prop := GT = true → 0 < B ∧ 0 < B ∧ TabsAt w
/-- what stands below: if it is read, that variable -/
def Bs (B : Nat) (w : World) : Prop := B ≤ w.heap.size ∧ (GI = true → (0 < B ∧ TabB B w) ∧ ∃ m, w.cell? ⟨0, 0, none⟩ = some (.int .i64 m))
theorem Bs.keep {B : Nat} {w w' : World} (h : Bs B w) (hs : w.heap.size ≤ w'.heap.size) (h0 : ∀ k, k < B → w'.heap[k]? = w.heap[k]?) : Bs B w' := by
  refine ⟨Nat.le_trans h.1 hs, fun hg => ?_⟩
  obtain ⟨⟨h1, h2⟩, m, hm⟩ := h.2 hg
  exact ⟨⟨h1, fun ht => ⟨(h2 ht).1, (h2 ht).2.1, (h2 ht).2.2.keep (h0 _ (h2 ht).1) (h0 _ (h2 ht).2.1)⟩⟩, m, (World.cell?_of_block (w := w) (a := ⟨0, 0, none⟩) (h0 _ h1)).trans hm⟩
theorem Bs.below {B : Nat} {w w' : World} (h : Bs B w) (hb : Below B w w') : Bs B w' := h.keep hb.size fun k hk => hb.block k hk
theorem Bs.whole {B : Nat} {w : World} (h : Bs B w) : Bs w.heap.size w := ⟨Nat.le_refl _, fun hg => ⟨⟨Nat.lt_of_lt_of_le (h.2 hg).1.1 h.1, fun ht => ⟨Nat.lt_of_lt_of_le ((h.2 hg).1.2 ht).1 h.1, Nat.lt_of_lt_of_le ((h.2 hg).1.2 ht).2.1 h.1, ((h.2 hg).1.2 ht).2.2⟩⟩, (h.2 hg).2⟩⟩
structure MemR (B : Nat) (w : World) (G : Gh) (mem : List Blk) : Prop where
  blk : ∀ i, BlkR B w G i (lk mem i)
  apart : ∀ (i j x : Nat), i ≠ j → (lk mem i).live G i = some x → (lk mem j).live G j ≠ some x
  own : ∀ (i x : Nat), (lk mem i).live G i = some x → B ≤ x ∧ x < w.heap.size ∧ ¬ G.fz x
  fz : ∀ b, G.fz b → b < w.heap.size
  base : Bs B w
end Go.Proofs.YtbpjinefbnlenaaGreatDoor
