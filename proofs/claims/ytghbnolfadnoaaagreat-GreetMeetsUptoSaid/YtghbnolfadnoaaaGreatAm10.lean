/- A machine of values, part 1: shapes of data; what a machine's value says of a value of the model, in a world. -/
import Derived.WalkKit
import Derived.Below
import Derived.Laws.AppendOwn
import Derived.Laws.OwnMore
import Derived.Outline
import Derived.Orders
import Derived.Laws.BytesArg
import Derived.Laws.BytesString
import Derived.ChangeKeysEq
import Derived.Laws.StructEq
import Derived.LaidEqlPtr
import Derived.Lib.Builder
import Derived.Laws.MakeOwn
namespace Go.Proofs.YtghbnolfadnoaaaGreat
open Go Go.RowKit
set_option linter.unusedVariables false
inductive Sh where
 | int (k : IntKind) | bool | str | unit | pair (a b : Sh) | st (a : Sh) | arr (n : Nat) (a : Sh) | sl (a : Sh)
 deriving DecidableEq
@[reducible] def Sh.T : Sh → Type
 | .int _ => Int
 | .bool => Bool
 | .str => List UInt8
 | .unit => Unit
 | .pair a b => a.T × b.T
 | .st a => a.T
 | .arr _ a => List a.T
 | .sl a => List a.T
def Sh.size : Sh → Nat
 | .unit => 0
 | .pair a b => a.size + b.size
 | .st a => a.size
 | .arr n a => n * a.size
 | _ => 1
def Sh.dflt : (s : Sh) → s.T
 | .int _ => (0 : Int)
 | .bool => false
 | .str => ([] : List UInt8)
 | .unit => ()
 | .pair a b => (a.dflt, b.dflt)
 | .st a => a.dflt
 | .arr n a => List.replicate n a.dflt
 | .sl a => ([] : List a.T)
def CatR {α : Type} (R : α → List Value → Prop) : List α → List Value → Prop
 | [], cs => cs = []
 | x :: l, cs => ∃ c1 c2, cs = c1 ++ c2 ∧ R x c1 ∧ CatR R l c2
theorem CatR.mono {α : Type} {R R' : α → List Value → Prop} (h : ∀ x c, R x c → R' x c) : ∀ (l : List α) (cs : List Value), CatR R l cs → CatR R' l cs
 | [], _, e => e
 | x :: l, cs, ⟨c1, c2, e, h1, h2⟩ => ⟨c1, c2, e, h x c1 h1, CatR.mono h l c2 h2⟩
theorem CatR.append {α : Type} {R : α → List Value → Prop} : ∀ {l m : List α} {a b : List Value}, CatR R l a → CatR R m b → CatR R (l ++ m) (a ++ b)
 | [], m, a, b, ha, hb => by simp only [CatR] at ha; subst ha; simpa using hb
 | x :: l, m, a, b, ⟨c1, c2, e, h1, h2⟩, hb => ⟨c1, c2 ++ b, by rw [e, List.append_assoc], h1, CatR.append h2 hb⟩
theorem CatR.one {α : Type} {R : α → List Value → Prop} {x : α} {c : List Value} (h : R x c) : CatR R [x] c := ⟨c, [], by simp, h, rfl⟩
theorem CatR.split {α : Type} {R : α → List Value → Prop} : ∀ {l m : List α} {cs : List Value}, CatR R (l ++ m) cs → ∃ a b, cs = a ++ b ∧ CatR R l a ∧ CatR R m b
 | [], m, cs, h => ⟨[], cs, rfl, rfl, h⟩
 | x :: l, m, cs, ⟨c1, c2, e, h1, h2⟩ => by
  obtain ⟨a, b, e2, h3, h4⟩ := CatR.split (l := l) h2
  exact ⟨c1 ++ a, b, by rw [e, e2, List.append_assoc], ⟨c1, a, rfl, h1, h3⟩, h4⟩
theorem CatR.length {α : Type} {R : α → List Value → Prop} {k : Nat} (h : ∀ x c, R x c → c.length = k) : ∀ (l : List α) (cs : List Value), CatR R l cs → cs.length = l.length * k
 | [], _, e => by simp only [CatR] at e; subst e; simp
 | x :: l, cs, ⟨c1, c2, e, h1, h2⟩ => by
  have := CatR.length h l c2 h2
  have := h x c1 h1
  subst e
  rw [List.length_append, List.length_cons, Nat.succ_mul]
  omega
theorem CatR.at {α : Type} {R : α → List Value → Prop} {k : Nat} (h : ∀ x c, R x c → c.length = k) {l : List α} {cs : List Value} (hl : CatR R l cs) {i : Nat} {x : α} (hi : l[i]? = some x) :
  ∃ a c b, cs = a ++ c ++ b ∧ a.length = i * k ∧ R x c ∧ CatR R (l.take i) a ∧ CatR R (l.drop (i + 1)) b := by
 have hlt : i < l.length := (List.getElem?_eq_some_iff.1 hi).1
 have hx : l[i] = x := (List.getElem?_eq_some_iff.1 hi).2
 have e : l = l.take i ++ (x :: l.drop (i + 1)) := by
  rw [← hx, ← List.drop_eq_getElem_cons hlt, List.take_append_drop]
 rw [e] at hl
 obtain ⟨a, b, e1, h1, c, b', e2, h2, h3⟩ := CatR.split hl
 refine ⟨a, c, b', by rw [e1, e2, List.append_assoc], ?_, h2, h1, h3⟩
 rw [CatR.length h _ _ h1, List.length_take]
 congr 1
 omega
theorem CatR.set {α : Type} {R : α → List Value → Prop} {l : List α} {i : Nat} {x : α} {a c b : List Value} (hi : i < l.length) (h1 : CatR R (l.take i) a) (h2 : R x c) (h3 : CatR R (l.drop (i + 1)) b) : CatR R (l.set i x) (a ++ c ++ b) := by
 have e : l.set i x = l.take i ++ (x :: l.drop (i + 1)) := by
  rw [List.set_eq_take_append_cons_drop, if_pos hi]
 rw [e, List.append_assoc]
 exact CatR.append h1 ⟨c, b, rfl, h2, h3⟩
def ShR (w : World) (fz : Nat → Prop) : (s : Sh) → s.T → List Value → Prop
 | .int k, x, cs => cs = [.int k x]
 | .bool, x, cs => cs = [.bool x]
 | .str, x, cs => cs = [.string ⟨x.toArray⟩]
 | .unit, _, cs => cs = []
 | .pair a b, x, cs => ∃ c1 c2, cs = c1 ++ c2 ∧ ShR w fz a x.1 c1 ∧ ShR w fz b x.2 c2
 | .st a, x, cs => ShR w fz a x cs
 | .arr n a, x, cs => x.length = n ∧ CatR (ShR w fz a) x cs
 | .sl a, x, cs => ∃ ad cap, cs = [.slice ad x.length cap] ∧ x.length ≤ cap ∧ cap ≤ maxLen ∧
   (0 < x.length → ∃ b off cells, ad = some ⟨b, off, none⟩ ∧ fz b ∧ b < w.heap.size ∧ CatR (ShR w fz a) x cells ∧ ∀ i v, cells[i]? = some v → w.cell? ⟨b, off + i, none⟩ = some v)
theorem ShR.length {w : World} {fz : Nat → Prop} : ∀ (s : Sh) (x : s.T) (cs : List Value), ShR w fz s x cs → cs.length = s.size
 | .int k, x, cs, h => by simp only [ShR] at h; subst h; rfl
 | .bool, x, cs, h => by simp only [ShR] at h; subst h; rfl
 | .str, x, cs, h => by simp only [ShR] at h; subst h; rfl
 | .unit, x, cs, h => by simp only [ShR] at h; subst h; rfl
 | .pair a b, x, cs, h => by
  obtain ⟨c1, c2, rfl, h1, h2⟩ := h
  rw [List.length_append, ShR.length a _ _ h1, ShR.length b _ _ h2]; rfl
 | .st a, x, cs, h => ShR.length a x cs h
 | .arr n a, x, cs, h => by
  obtain ⟨h1, h2⟩ := h
  rw [CatR.length (fun y c hy => ShR.length a y c hy) _ _ h2, h1]; rfl
 | .sl a, x, cs, h => by obtain ⟨_, _, rfl, _⟩ := h; rfl
structure Keeps (fz fz' : Nat → Prop) (w w' : World) : Prop where
 size : w.heap.size ≤ w'.heap.size
 block : ∀ b, fz b → b < w.heap.size → w'.heap[b]? = w.heap[b]?
 fz : ∀ b, fz b → fz' b
theorem ShR.keep {w w' : World} {fz fz' : Nat → Prop} (hk : Keeps fz fz' w w') : ∀ (s : Sh) (x : s.T) (cs : List Value), ShR w fz s x cs → ShR w' fz' s x cs
 | .int k, x, cs, h => h
 | .bool, x, cs, h => h
 | .str, x, cs, h => h
 | .unit, x, cs, h => h
 | .pair a b, x, cs, h => by
  obtain ⟨c1, c2, e, h1, h2⟩ := h
  exact ⟨c1, c2, e, ShR.keep hk a _ _ h1, ShR.keep hk b _ _ h2⟩
 | .st a, x, cs, h => ShR.keep hk a x cs h
 | .arr n a, x, cs, h => ⟨h.1, CatR.mono (fun y c hy => ShR.keep hk a y c hy) _ _ h.2⟩
 | .sl a, x, cs, h => by
  obtain ⟨ad, cap, e, h1, h2, h3⟩ := h
  refine ⟨ad, cap, e, h1, h2, fun h0 => ?_⟩
  obtain ⟨b, off, cells, e2, hf, hb, hc, hx⟩ := h3 h0
  refine ⟨b, off, cells, e2, hk.fz b hf, Nat.lt_of_lt_of_le hb hk.size, CatR.mono (fun y c hy => ShR.keep hk a y c hy) _ _ hc, fun i v hi => ?_⟩
  exact (World.cell?_of_block (w := w) (a := ⟨b, off + i, none⟩) (hk.block b hf hb)).trans (hx i v hi)
inductive Step where
 | fld (i off : Nat)
 | idx (k size : Nat)
 | lst (o : Nat)
def offs : List Step → Nat
 | [] => 0
 | .fld _ o :: p => o + offs p
 | .idx k s :: p => k * s + offs p
 | .lst o :: p => o + offs p
inductive AV where
 | unk
 | int (k : IntKind) (n : Int)
 | bool (b : Bool)
 | str (s : List UInt8)
 | nil
 | cons (a b : AV)
 | st (a : AV)
 | arr (n : Nat) (e : Sh) (l : List e.T)
 | sl (e : Sh) (l : List e.T)
 | nilS
 | row (r : Nat)
 | ptr (b : Nat) (p : List Step)
 | slf (b : Nat) (z : Bool)
 | nilP
 | fn (f : Nat) (caps : AV)
 | tup (a : AV)
 | emp
 | pv (c : AV)
 | sub (r size lo n : Nat)
 | mp (r : Nat)
 | ifc (t : TypeId) (e : Sh) (x : e.T) (b : Bool)
 | opq (b : Bool)
def Sh.av : (s : Sh) → s.T → AV
 | .int k, x => .int k x
 | .bool, x => .bool x
 | .str, x => .str x
 | .unit, _ => .nil
 | .pair a b, x => .cons (a.av x.1) (b.av x.2)
 | .st a, x => .st (a.av x)
 | .arr n a, x => .arr n a x
 | .sl a, x => .sl a x
def AV.size : AV → Nat
 | .nil => 0
 | .cons a b => a.size + b.size
 | .st a => a.size
 | .arr n e _ => n * e.size
 | _ => 1
theorem Sh.av_size : ∀ (s : Sh) (x : s.T), (s.av x).size = s.size
 | .int _, _ | .bool, _ | .str, _ | .unit, _ | .arr _ _, _ | .sl _, _ => rfl
 | .pair a b, x => by simp only [Sh.av, AV.size, Sh.size, Sh.av_size a, Sh.av_size b]
 | .st a, x => by simp only [Sh.av, AV.size, Sh.size, Sh.av_size a]
structure Gh where
 addr : Nat → Addr
 rowv : Nat → Value
 fz : Nat → Prop
def SubR (size lo n : Nat) (rv v : Value) : Prop :=
 ∃ ad N cap a', rv = .slice ad N cap ∧ N ≤ cap ∧ cap ≤ maxLen ∧ v = .slice a' n (cap - lo) ∧ lo + n ≤ N ∧ (lo < cap → a' = ad.map (·.add (lo * size)))
theorem SubR.one {size lo n : Nat} {rv v : Value} (h : SubR size lo n rv v) : v.oneCell' = true := by
 obtain ⟨ad, N, cap, a', _, _, _, rfl, _⟩ := h; rfl
def CellsR (w : World) (G : Gh) : AV → List Value → Prop
 | .unk, cs => ∃ v, cs = [v] ∧ v.oneCell' = true
 | .int k n, cs => cs = [.int k n]
 | .bool b, cs => cs = [.bool b]
 | .str s, cs => cs = [.string ⟨s.toArray⟩]
 | .nil, cs => cs = []
 | .cons a b, cs => ∃ c1 c2, cs = c1 ++ c2 ∧ CellsR w G a c1 ∧ CellsR w G b c2
 | .st a, cs => CellsR w G a cs
 | .arr n e l, cs => ShR w G.fz (.arr n e) l cs
 | .sl e l, cs => ShR w G.fz (.sl e) l cs
 | .nilS, cs => cs = [.slice none 0 0]
 | .row r, cs => cs = [G.rowv r] ∧ (G.rowv r).oneCell' = true
 | .ptr b p, cs => cs = [.pointer (some ⟨(G.addr b).block, (G.addr b).off + offs p, none⟩)]
 | .slf b z, cs => cs = [.pointer (if z = true then none else some ⟨(G.addr b).block, (G.addr b).off, none⟩)]
 | .nilP, cs => cs = [.pointer none]
 | .fn f caps, cs => ∃ vs : List Value, cs = [.func (.func f) #[] vs.toArray] ∧ CellsR w G caps vs
 | .tup _, _ => False
 | .emp, cs => ∃ a, cs = [.slice a 0 0]
 | .sub r size lo n, cs => ∃ v, cs = [v] ∧ SubR size lo n (G.rowv r) v
 | .mp r, cs => cs = [.map (some (G.addr r).block)]
 | .ifc t e x b, cs => (b = true → ∃ v, cs = [.iface t v] ∧ v.oneCell' = true ∧ ShR w G.fz e x [v]) ∧ (b = false → cs = [.nilIface])
 | .opq b, cs => (b = true → ∃ t v, cs = [.iface t v]) ∧ (b = false → cs = [.nilIface])
 | .pv c, cs => ∃ b off, cs = [.pointer (some ⟨b, off, none⟩)] ∧ G.fz b ∧ b < w.heap.size ∧ ∃ cells, CellsR w G c cells ∧ ∀ i v, cells[i]? = some v → w.cell? ⟨b, off + i, none⟩ = some v
theorem CellsR.length {w : World} {G : Gh} : ∀ (a : AV) (cs : List Value), CellsR w G a cs → cs.length = a.size
 | .unk, cs, h => by obtain ⟨v, rfl, _⟩ := h; rfl
 | .int k n, cs, h => by simp only [CellsR] at h; subst h; rfl
 | .bool k, cs, h => by simp only [CellsR] at h; subst h; rfl
 | .str k, cs, h => by simp only [CellsR] at h; subst h; rfl
 | .nil, cs, h => by simp only [CellsR] at h; subst h; rfl
 | .cons a b, cs, h => by
  obtain ⟨c1, c2, rfl, h1, h2⟩ := h
  rw [List.length_append, CellsR.length a _ h1, CellsR.length b _ h2]; rfl
 | .st a, cs, h => CellsR.length a cs h
 | .arr n e l, cs, h => ShR.length (.arr n e) l cs h
 | .sl e l, cs, h => ShR.length (.sl e) l cs h
 | .nilS, cs, h => by simp only [CellsR] at h; subst h; rfl
 | .row r, cs, h => by obtain ⟨rfl, _⟩ := h; rfl
 | .ptr b p, cs, h => by simp only [CellsR] at h; subst h; rfl
 | .slf b z, cs, h => by simp only [CellsR] at h; subst h; rfl
 | .nilP, cs, h => by simp only [CellsR] at h; subst h; rfl
 | .fn f caps, cs, h => by obtain ⟨vs, rfl, _⟩ := h; rfl
 | .tup _, _, h => h.elim
 | .emp, cs, h => by obtain ⟨a, rfl⟩ := h; rfl
 | .sub .., cs, h => by obtain ⟨v, rfl, _⟩ := h; rfl
 | .mp _, cs, h => by simp only [CellsR] at h; subst h; rfl
 | .ifc t e x b, cs, h => by
  cases b with
  | true => obtain ⟨v, rfl, _⟩ := h.1 rfl; rfl
  | false => rw [h.2 rfl]; rfl
 | .opq b, cs, h => by
  cases b with
  | true => obtain ⟨t, v, rfl⟩ := h.1 rfl; rfl
  | false => rw [h.2 rfl]; rfl
 | .pv c, cs, h => by obtain ⟨b, off, rfl, _⟩ := h; rfl
theorem CellsR.av {w : World} {G : Gh} : ∀ (s : Sh) (x : s.T) (cs : List Value), CellsR w G (s.av x) cs ↔ ShR w G.fz s x cs
 | .int _, _, _ | .bool, _, _ | .str, _, _ | .unit, _, _ | .arr _ _, _, _ | .sl _, _, _ => Iff.rfl
 | .pair a b, x, cs => by
  simp only [Sh.av, CellsR, ShR]
  constructor
  ·rintro ⟨c1, c2, e, h1, h2⟩; exact ⟨c1, c2, e, (CellsR.av a _ _).1 h1, (CellsR.av b _ _).1 h2⟩
  ·rintro ⟨c1, c2, e, h1, h2⟩; exact ⟨c1, c2, e, (CellsR.av a _ _).2 h1, (CellsR.av b _ _).2 h2⟩
 | .st a, x, cs => CellsR.av a x cs
def AV.refs : AV → List Nat
 | .cons a b => a.refs ++ b.refs
 | .st a => a.refs
 | .row r => [r]
 | .sub r _ _ _ => [r]
 | .mp r => [r]
 | .ptr b _ => [b]
 | .slf b _ => [b]
 | .fn _ c => c.refs
 | .tup a => a.refs
 | .pv c => c.refs
 | _ => []
theorem Sh.av_refs : ∀ (s : Sh) (x : s.T), (s.av x).refs = []
 | .int _, _ | .bool, _ | .str, _ | .unit, _ | .arr _ _, _ | .sl _, _ => rfl
 | .pair a b, x => by simp [Sh.av, AV.refs, Sh.av_refs a, Sh.av_refs b]
 | .st a, x => by simp [Sh.av, AV.refs, Sh.av_refs a]
structure Agree (G G' : Gh) (b : Nat) : Prop where
 addr : G'.addr b = G.addr b
 rowv : G'.rowv b = G.rowv b
theorem CellsR.keep {w w' : World} {G G' : Gh} (hk : Keeps G.fz G'.fz w w') : ∀ (a : AV) (cs : List Value), (∀ b ∈ a.refs, Agree G G' b) → CellsR w G a cs → CellsR w' G' a cs
 | .unk, cs, _, h => h
 | .int k n, cs, _, h => h
 | .bool k, cs, _, h => h
 | .str k, cs, _, h => h
 | .nil, cs, _, h => h
 | .cons a b, cs, hr, h => by
  obtain ⟨c1, c2, e, h1, h2⟩ := h
  exact ⟨c1, c2, e, CellsR.keep hk a _ (fun x hx => hr x (by simp [AV.refs, hx])) h1, CellsR.keep hk b _ (fun x hx => hr x (by simp [AV.refs, hx])) h2⟩
 | .st a, cs, hr, h => CellsR.keep hk a cs hr h
 | .arr n e l, cs, _, h => ShR.keep hk (.arr n e) l cs h
 | .sl e l, cs, _, h => ShR.keep hk (.sl e) l cs h
 | .nilS, cs, _, h => h
 | .row r, cs, hr, h => by
  simp only [CellsR] at h ⊢
  rw [(hr r (by simp [AV.refs])).rowv]; exact h
 | .ptr b p, cs, hr, h => by
  simp only [CellsR] at h ⊢
  rw [(hr b (by simp [AV.refs])).addr]; exact h
 | .slf b z, cs, hr, h => by
  simp only [CellsR] at h ⊢
  rw [(hr b (by simp [AV.refs])).addr]; exact h
 | .nilP, cs, _, h => h
 | .fn f caps, cs, hr, h => by
  obtain ⟨vs, e, h1⟩ := h
  exact ⟨vs, e, CellsR.keep hk caps vs hr h1⟩
 | .tup _, _, _, h => h
 | .emp, _, _, h => h
 | .sub r size lo n, cs, hr, h => by
  simp only [CellsR] at h ⊢
  rw [(hr r (by simp [AV.refs])).rowv]; exact h
 | .mp r, cs, hr, h => by
  simp only [CellsR] at h ⊢
  rw [(hr r (by simp [AV.refs])).addr]; exact h
 | .ifc t e x b, cs, _, h => ⟨fun hb => by obtain ⟨v, e1, h1, h2⟩ := h.1 hb; exact ⟨v, e1, h1, ShR.keep hk e x _ h2⟩, h.2⟩
 | .opq _, _, _, h => h
 | .pv c, cs, hr, h => by
  obtain ⟨b, off, e, hf, hb, cells, hc, hx⟩ := h
  exact ⟨b, off, e, hk.fz b hf, Nat.lt_of_lt_of_le hb hk.size, cells, CellsR.keep hk c cells hr hc, fun i v hi => (World.cell?_of_block (w := w) (a := ⟨b, off + i, none⟩) (hk.block b hf hb)).trans (hx i v hi)⟩
def ValR0 (w : World) (G : Gh) : AV → Value → Prop
 | .st a, v => ∃ cs, v = .agg cs ∧ CellsR w G a cs.toList
 | .arr n e l, v => ∃ cs, v = .agg cs ∧ ShR w G.fz (.arr n e) l cs.toList
 | .unk, _ => True
 | a, v => CellsR w G a [v]
def ValsR (w : World) (G : Gh) : AV → List Value → Prop
 | .nil, vs => vs = []
 | .cons a b, vs => ∃ v t, vs = v :: t ∧ ValR0 w G a v ∧ ValsR w G b t
 | _, _ => False
def ValR (w : World) (G : Gh) : AV → Value → Prop
 | .tup a, v => ∃ vs, v = .tuple vs ∧ ValsR w G a vs.toList
 | a, v => ValR0 w G a v
theorem ValR0.keep {w w' : World} {G G' : Gh} (hk : Keeps G.fz G'.fz w w') (a : AV) (v : Value) (hr : ∀ b ∈ a.refs, Agree G G' b) (h : ValR0 w G a v) : ValR0 w' G' a v := by
 cases a with
 | st a => obtain ⟨cs, e, h1⟩ := h; exact ⟨cs, e, CellsR.keep hk a _ hr h1⟩
 | arr n e l => obtain ⟨cs, e, h1⟩ := h; exact ⟨cs, e, ShR.keep hk _ _ _ h1⟩
 | unk => trivial
 | _ => exact CellsR.keep hk _ _ hr h
theorem ValsR.keep {w w' : World} {G G' : Gh} (hk : Keeps G.fz G'.fz w w') : ∀ (a : AV) (vs : List Value), (∀ b ∈ a.refs, Agree G G' b) → ValsR w G a vs → ValsR w' G' a vs
 | .nil, vs, _, h => h
 | .cons a b, vs, hr, h => by
  obtain ⟨v, t, e, h1, h2⟩ := h
  exact ⟨v, t, e, ValR0.keep hk a v (fun x hx => hr x (by simp [AV.refs, hx])) h1, ValsR.keep hk b t (fun x hx => hr x (by simp [AV.refs, hx])) h2⟩
 | .unk, _, _, h | .int .., _, _, h | .bool .., _, _, h | .str .., _, _, h | .st .., _, _, h | .arr .., _, _, h | .sl .., _, _, h | .nilS, _, _, h | .row .., _, _, h | .ptr .., _, _, h | .slf .., _, _, h | .nilP, _, _, h | .fn .., _, _, h | .tup .., _, _, h | .emp, _, _, h | .pv .., _, _, h | .sub .., _, _, h | .mp .., _, _, h | .ifc .., _, _, h | .opq .., _, _, h => h.elim
theorem ValR.keep {w w' : World} {G G' : Gh} (hk : Keeps G.fz G'.fz w w') (a : AV) (v : Value) (hr : ∀ b ∈ a.refs, Agree G G' b) (h : ValR w G a v) : ValR w' G' a v := by
 cases a with
 | tup a => obtain ⟨vs, e, h1⟩ := h; exact ⟨vs, e, ValsR.keep hk a _ hr h1⟩
 | _ => exact ValR0.keep hk _ v hr h
structure TmpsR (w : World) (G : Gh) (ts : List AV) (a : Act) : Prop where
 size : a.tmps.size = ts.length
 val : ∀ t, ValR w G (ts.getD t .unk) (a.tmps.getD t undef)
theorem TmpsR.keep {w w' : World} {G G' : Gh} {ts : List AV} {a : Act} (h : TmpsR w G ts a) (hk : Keeps G.fz G'.fz w w') (hr : ∀ t r, r ∈ (ts.getD t .unk).refs → Agree G G' r) : TmpsR w' G' ts a :=
 ⟨h.size, fun t => ValR.keep hk _ _ (fun r hr' => hr t r hr') (h.val t)⟩
inductive Blk where
 | dead
 | box (t : TypeId) (c : AV)
 | row (t : TypeId) (e : Sh) (l : List e.T)
 | sav (ts : List AV) (a : Act)
 | iter (s : List UInt8) (pos : Nat)
 | map (t : TypeId) (k e : Sh) (l : List (k.T × e.T))
 | bbuf (t : TypeId) (e : Sh) (l : List e.T)
 | rowl (t : TypeId) (e : Sh) (l : List e.T) (x : Option (Bool × AV))
def rowBlk : Value → Option Nat
 | .slice _ _ 0 => none
 | .slice (some a) _ _ => some a.block
 | _ => none
def OwnAt (w : World) (g : Nat) (t : TypeId) (cs rest : List Value) : Prop :=
 ∃ fr : Nat × Nat, w.heap[g]? = some (.cells (cs ++ rest).toArray t fr) ∧ (fr = (0, 0) ∨ (t = 5 ∧ (cs ++ rest).length ≤ fr.1))
def RowV (B : Nat) (w : World) (t : TypeId) (size : Nat) (v : Value) (n : Nat) (cs : List Value) : Prop :=
 (n = 0 ∧ cs = [] ∧ ∃ a, v = .slice a 0 0) ∨
 ∃ g cap rest, v = .slice (some ⟨g, 0, none⟩) n cap ∧ 0 < cap ∧ B ≤ g ∧ OwnAt w g t cs rest ∧ n ≤ cap ∧ cap ≤ maxLen ∧ cs.length = n * size ∧ (cs ++ rest).length = cap * size
def RowO (B : Nat) (w : World) (t : TypeId) (size : Nat) (v : Value) (n : Nat) (cs : List Value) : Prop :=
 (n = 0 ∧ cs = [] ∧ ∃ a, v = .slice a 0 0) ∨
 ∃ g pre cap rest, v = .slice (some ⟨g, pre.length, none⟩) n cap ∧ 0 < cap ∧ B ≤ g ∧ OwnAt w g t (pre ++ cs) rest ∧ n ≤ cap ∧ cap ≤ maxLen ∧ cs.length = n * size ∧ (cs ++ rest).length = cap * size
theorem RowV.toO {B : Nat} {w : World} {t : TypeId} {size : Nat} {v : Value} {n : Nat} {cs : List Value} (h : RowV B w t size v n cs) : RowO B w t size v n cs := by
 rcases h with h | ⟨g, cap, rest, h1, h2, h3, h4, h5⟩
 ·exact .inl h
 ·exact .inr ⟨g, [], cap, rest, h1, h2, h3, h4, h5⟩
def lstN : Option (Bool × AV) → Nat
 | none => 0
 | some (z, _) => cond z 1 0
def LstR (w : World) (G : Gh) : Option (Bool × AV) → List Value → Prop
 | none, cs => cs = []
 | some (z, c), cs => (z = true → CellsR w G c cs) ∧ (z = false → cs = [])
def lstRefs : Option (Bool × AV) → List Nat
 | none => []
 | some (_, c) => c.refs
theorem LstR.keep {w w' : World} {G G' : Gh} (hk : Keeps G.fz G'.fz w w') (x : Option (Bool × AV)) (cs : List Value) (hr : ∀ b ∈ lstRefs x, Agree G G' b) (h : LstR w G x cs) : LstR w' G' x cs := by
 cases x with
 | none => exact h
 | some y => obtain ⟨z, c⟩ := y; exact ⟨fun hz => CellsR.keep hk c cs hr (h.1 hz), h.2⟩
def RowAt (v : Value) (a : Addr) : Prop := ∀ g o n cap, v = .slice (some ⟨g, o, none⟩) n cap → 0 < cap → a = ⟨g, o, none⟩
def AllR {α β : Type} (R : α → β → Prop) : List α → List β → Prop
 | [], m => m = []
 | x :: l, m => ∃ y t, m = y :: t ∧ R x y ∧ AllR R l t
theorem AllR.mono {α β : Type} {R R' : α → β → Prop} (h : ∀ x y, R x y → R' x y) : ∀ (l : List α) (m : List β), AllR R l m → AllR R' l m
 | [], _, e => e
 | x :: l, _, ⟨y, t, e, h1, h2⟩ => ⟨y, t, e, h x y h1, AllR.mono h l t h2⟩
def EntR (w : World) (G : Gh) (k e : Sh) (x : k.T × e.T) (y : MapEntry) : Prop := ValR0 w G (k.av x.1) y.key ∧ ValR0 w G (e.av x.2) y.val
theorem EntR.keep {w w' : World} {G G' : Gh} (hk : Keeps G.fz G'.fz w w') {k e : Sh} {x : k.T × e.T} {y : MapEntry} (h : EntR w G k e x y) : EntR w' G' k e x y :=
 ⟨ValR0.keep hk _ _ (by rw [Sh.av_refs]; simp) h.1, ValR0.keep hk _ _ (by rw [Sh.av_refs]; simp) h.2⟩
def Tight (v : Value) : Prop := ∀ a n, v ≠ .slice (some a) n 0
def BlkR (B : Nat) (w : World) (G : Gh) (i : Nat) : Blk → Prop
 | .dead => True
 | .box t c => (G.addr i).off = 0 ∧ ∃ cs : List Value, OwnAt w (G.addr i).block t cs [] ∧ CellsR w G c cs
 | .row t e l => (∀ g, rowBlk (G.rowv i) = some g → G.addr i = ⟨g, 0, none⟩) ∧ ∃ cs, RowV B w t e.size (G.rowv i) l.length cs ∧ CatR (ShR w G.fz e) l cs
 | .sav ts a => TmpsR w G ts a ∧ a.defers = []
 | .iter s pos => (G.addr i).off = 0 ∧ w.heap[(G.addr i).block]? = some (.stringIter ⟨s.toArray⟩ pos)
 | .map _ k e l => ∃ es clock, w.heap[(G.addr i).block]? = some (.map es clock) ∧ AllR (EntR w G k e) l es.toList
 | .bbuf t e l => ((∀ g, rowBlk (G.rowv i) = some g → G.addr i = ⟨g, 0, none⟩) ∧ ∃ cs, RowV B w t e.size (G.rowv i) l.length cs ∧ CatR (ShR w G.fz e) l cs) ∧ Tight (G.rowv i)
 | .rowl t e l x => RowAt (G.rowv i) (G.addr i) ∧ ∃ c1 c2, RowO B w t e.size (G.rowv i) (l.length + lstN x) (c1 ++ c2) ∧ CatR (ShR w G.fz e) l c1 ∧ LstR w G x c2
def Blk.live (G : Gh) (i : Nat) : Blk → Option Nat
 | .box _ _ => some (G.addr i).block
 | .row _ _ _ => rowBlk (G.rowv i)
 | .iter _ _ => some (G.addr i).block
 | .map _ _ _ _ => some (G.addr i).block
 | .bbuf _ _ _ => rowBlk (G.rowv i)
 | .rowl _ _ _ _ => rowBlk (G.rowv i)
 | _ => none
def Blk.refs : Blk → List Nat
 | .box _ c => c.refs
 | .sav ts _ => ts.flatMap AV.refs
 | .rowl _ _ _ x => lstRefs x
 | _ => []
theorem sav_refs {ts : List AV} {t r : Nat} (h : r ∈ (ts.getD t .unk).refs) : r ∈ ts.flatMap AV.refs := by
 rw [List.getD_eq_getElem?_getD] at h
 rcases Nat.lt_or_ge t ts.length with h1 | h1
 ·rw [List.getElem?_eq_getElem h1] at h
  exact List.mem_flatMap.2 ⟨ts[t], List.getElem_mem h1, h⟩
 ·rw [List.getElem?_eq_none h1] at h; simp [AV.refs] at h
abbrev lk (mem : List Blk) (i : Nat) : Blk := mem.getD i .dead
def GI : Bool := false
def GT : Bool := false
def TabsAt (w : World) : Prop := True
theorem TabsAt.keep {w w' : World} (h : TabsAt w) (h1 : w'.heap[0]? = w.heap[0]?) (h2 : w'.heap[0]? = w.heap[0]?) : TabsAt w' := trivial
def TabB (B : Nat) (w : World) : Prop := GT = true → 0 < B ∧ 0 < B ∧ TabsAt w
def Bs (B : Nat) (w : World) : Prop := B ≤ w.heap.size ∧ (GI = true → (0 < B ∧ TabB B w) ∧ ∃ m, w.cell? ⟨0, 0, none⟩ = some (.int .i64 m))
theorem Bs.keep {B : Nat} {w w' : World} (h : Bs B w) (hs : w.heap.size ≤ w'.heap.size) (h0 : ∀ k, k < B → w'.heap[k]? = w.heap[k]?) : Bs B w' := by
 refine ⟨Nat.le_trans h.1 hs, fun hg => ?_⟩
 obtain ⟨⟨h1, h2⟩, m, hm⟩ := h.2 hg
 exact ⟨⟨h1, fun ht => ⟨(h2 ht).1, (h2 ht).2.1, (h2 ht).2.2.keep (h0 _ (h2 ht).1) (h0 _ (h2 ht).2.1)⟩⟩, m, (World.cell?_of_block (w := w) (a := ⟨0, 0, none⟩) (h0 _ h1)).trans hm⟩
theorem Bs.below {B : Nat} {w w' : World} (h : Bs B w) (hb : Below B w w') : Bs B w' := h.keep hb.size fun k hk => hb.block k hk
theorem Bs.whole {B : Nat} {w : World} (h : Bs B w) : Bs w.heap.size w := ⟨Nat.le_refl _, fun hg => ⟨⟨Nat.lt_of_lt_of_le (h.2 hg).1.1 h.1, fun ht => ⟨Nat.lt_of_lt_of_le ((h.2 hg).1.2 ht).1 h.1, Nat.lt_of_lt_of_le ((h.2 hg).1.2 ht).2.1 h.1, ((h.2 hg).1.2 ht).2.2⟩⟩, (h.2 hg).2⟩⟩
structure MemR (B : Nat) (w : World) (G : Gh) (mem : List Blk) : Prop where
 blk : ∀ i, BlkR B w G i (lk mem i)
 apart : ∀ (i j x : Nat), i ≠ j → (lk mem i).live G i = some x → (lk mem j).live G j ≠ some x
 own : ∀ (i x : Nat), (lk mem i).live G i = some x → B ≤ x ∧ x < w.heap.size ∧ ¬ G.fz x
 fz : ∀ b, G.fz b → b < w.heap.size
 base : Bs B w
def AV.toSh : (s : Sh) → AV → Option s.T
 | .int k, .int k' n => if k = k' then some n else none
 | .bool, .bool b => some b
 | .str, .str s => some s
 | .unit, .nil => some ()
 | .pair a b, .cons x y =>
  match AV.toSh a x, AV.toSh b y with
  | some u, some v => some (u, v)
  | _, _ => none
 | .st a, .st x => AV.toSh a x
 | .arr n a, .arr n' e l => if h : e = a then (if n = n' then some (h ▸ l) else none) else none
 | .sl a, .sl e l => if h : e = a then some (h ▸ l) else none
 | .sl a, .nilS => some []
 | .sl a, .emp => some []
 | _, _ => none
theorem maxLen_zero : 0 ≤ maxLen := Nat.zero_le _
theorem AV.toSh_ok {w : World} {G : Gh} : ∀ (s : Sh) (a : AV) (x : s.T) (cs : List Value), AV.toSh s a = some x → CellsR w G a cs → ShR w G.fz s x cs
 | .int k, .int k' n, x, cs, h, hc => by
  simp only [AV.toSh] at h
  split at h
  ·rename_i e; subst e; simp only [Option.some.injEq] at h; subst h; exact hc
  ·cases h
 | .bool, .bool b, x, cs, h, hc => by simp only [AV.toSh, Option.some.injEq] at h; subst h; exact hc
 | .str, .str b, x, cs, h, hc => by simp only [AV.toSh, Option.some.injEq] at h; subst h; exact hc
 | .unit, .nil, x, cs, h, hc => hc
 | .pair a b, .cons u v, x, cs, h, hc => by
  simp only [AV.toSh] at h
  split at h
  ·rename_i p q hp hq
   simp only [Option.some.injEq] at h; subst h
   obtain ⟨c1, c2, e, h1, h2⟩ := hc
   exact ⟨c1, c2, e, AV.toSh_ok a u p c1 hp h1, AV.toSh_ok b v q c2 hq h2⟩
  ·cases h
 | .st a, .st u, x, cs, h, hc => AV.toSh_ok a u x cs h hc
 | .arr n a, .arr n' e l, x, cs, h, hc => by
  simp only [AV.toSh] at h
  split at h
  ·rename_i e1
   subst e1
   split at h
   ·rename_i e2
    subst e2
    simp only [Option.some.injEq] at h; subst h
    exact hc
   ·cases h
  ·cases h
 | .sl a, .sl e l, x, cs, h, hc => by
  simp only [AV.toSh] at h
  split at h
  ·rename_i e1
   subst e1
   simp only [Option.some.injEq] at h; subst h
   exact hc
  ·cases h
 | .sl a, .nilS, x, cs, h, hc => by
  simp only [AV.toSh, Option.some.injEq] at h; subst h
  exact ⟨none, 0, hc, Nat.le_refl _, maxLen_zero, fun h0 => absurd h0 (by simp)⟩
 | .sl a, .emp, x, cs, h, hc => by
  simp only [AV.toSh, Option.some.injEq] at h; subst h
  obtain ⟨ad, hc⟩ := hc
  exact ⟨ad, 0, hc, Nat.le_refl _, maxLen_zero, fun h0 => absurd h0 (by simp)⟩
def AV.fldGet : Nat → Nat → AV → Option AV
 | 0, off, .cons a _ => if off = 0 then some a else none
 | 0, off, a => if off = 0 then some a else none
 | i + 1, off, .cons a b => if a.size ≤ off then AV.fldGet i (off - a.size) b else none
 | _, _, _ => none
def AV.fldSet : Nat → AV → AV → Option AV
 | 0, x, .cons _ b => some (.cons x b)
 | 0, x, _ => some x
 | i + 1, x, .cons a b => (AV.fldSet i x b).map (.cons a ·)
 | _, _, _ => none
theorem fld_ok {w : World} {G : Gh} : ∀ (i off : Nat) (a c : AV) (cs : List Value), AV.fldGet i off a = some c → CellsR w G a cs →
  ∃ c1 c2 c3, cs = c1 ++ c2 ++ c3 ∧ c1.length = off ∧ CellsR w G c c2 ∧ ∀ x a' c2', AV.fldSet i x a = some a' → CellsR w G x c2' → CellsR w G a' (c1 ++ c2' ++ c3) := by
 intro i
 have last : ∀ (off : Nat) (a c : AV) (cs : List Value), (if off = 0 then some a else none) = some c → CellsR w G a cs → (∀ x, AV.fldSet 0 x a = some x) →
  ∃ c1 c2 c3, cs = c1 ++ c2 ++ c3 ∧ c1.length = off ∧ CellsR w G c c2 ∧ ∀ x a' c2', AV.fldSet 0 x a = some a' → CellsR w G x c2' → CellsR w G a' (c1 ++ c2' ++ c3) := by
  intro off a c cs h hc hs
  split at h
  ·rename_i e
   subst e
   simp only [Option.some.injEq] at h; subst h
   refine ⟨[], cs, [], by simp, rfl, hc, fun x a' c2' hset hx => ?_⟩
   rw [hs x] at hset
   simp only [Option.some.injEq] at hset; subst hset
   simpa using hx
  ·cases h
 induction i with
 | zero =>
  intro off a c cs h hc
  cases a with
  | cons a b =>
   simp only [AV.fldGet] at h
   split at h
   ·rename_i e
    subst e
    simp only [Option.some.injEq] at h; subst h
    obtain ⟨c1, c2, rfl, h1, h2⟩ := hc
    refine ⟨[], c1, c2, by simp, rfl, h1, fun x a' c2' hset hx => ?_⟩
    simp only [AV.fldSet, Option.some.injEq] at hset; subst hset
    exact ⟨c2', c2, by simp, hx, h2⟩
   ·cases h
  | _ => exact last off _ c cs h hc (fun x => rfl)
 | succ i ih =>
  intro off a c cs h hc
  cases a with
  | cons a b =>
   simp only [AV.fldGet] at h
   split at h
   ·rename_i hle
    obtain ⟨c1, c2, rfl, h1, h2⟩ := hc
    obtain ⟨d1, d2, d3, rfl, hl, hd, hset⟩ := ih _ b c c2 h h2
    have hz := CellsR.length a c1 h1
    refine ⟨c1 ++ d1, d2, d3, by simp, by rw [List.length_append]; omega, hd, fun x a' c2' hs hx => ?_⟩
    simp only [AV.fldSet, Option.map_eq_some_iff] at hs
    obtain ⟨b', hb', rfl⟩ := hs
    exact ⟨c1, d1 ++ c2' ++ d3, by simp, h1, hset x b' c2' hb' hx⟩
   ·cases h
  | _ => simp [AV.fldGet] at h
def AV.get : List Step → AV → Option (AV × Prop)
 | [], a => some (a, True)
 | .fld i off :: p, .st a =>
  match AV.fldGet i off a with
  | some c => AV.get p c
  | none => none
 | .idx k s :: p, .arr n e l =>
  if s = e.size then
   match AV.get p (e.av (l.getD k e.dflt)) with
   | some (c, C) => some (c, k < n ∧ C)
   | none => none
  else none
 | _, _ => none
def AV.set : List Step → AV → AV → Option (AV × Prop)
 | [], v, a => if v.size = a.size then some (v, True) else none
 | .fld i off :: p, v, .st a =>
  match AV.fldGet i off a with
  | some c =>
   match AV.set p v c with
   | some (c', C) =>
    match AV.fldSet i c' a with
    | some a' => some (.st a', C)
    | none => none
   | none => none
  | none => none
 | .idx k s :: p, v, .arr n e l =>
  if s = e.size then
   match AV.set p v (e.av (l.getD k e.dflt)) with
   | some (c', C) =>
    match AV.toSh e c' with
    | some x => some (.arr n e (l.set k x), k < n ∧ C)
    | none => none
   | none => none
  else none
 | _, _, _ => none
theorem getD_some {α : Type} {l : List α} {k : Nat} {d : α} (h : k < l.length) : l[k]? = some (l.getD k d) := by
 rw [List.getD_eq_getElem?_getD, List.getElem?_eq_getElem h]; rfl
theorem AV.get_ok {w : World} {G : Gh} : ∀ (p : List Step) (a c : AV) (C : Prop) (cs : List Value), AV.get p a = some (c, C) → C → CellsR w G a cs →
  ∃ c1 c2 c3, cs = c1 ++ c2 ++ c3 ∧ c1.length = offs p ∧ CellsR w G c c2 := by
 intro p
 induction p with
 | nil =>
  intro a c C cs h _ hc
  simp only [AV.get, Option.some.injEq, Prod.mk.injEq] at h
  obtain ⟨rfl, _⟩ := h
  exact ⟨[], cs, [], by simp, rfl, hc⟩
 | cons s p ih =>
  intro a c C cs h hC hc
  cases s with
  | fld i off =>
   cases a with
   | st a =>
    simp only [AV.get] at h
    split at h
    ·rename_i d hd
     obtain ⟨c1, c2, c3, rfl, hl, h2, _⟩ := fld_ok i off a d cs hd hc
     obtain ⟨d1, d2, d3, rfl, hl2, h3⟩ := ih d c C c2 h hC h2
     exact ⟨c1 ++ d1, d2, d3 ++ c3, by simp, by rw [List.length_append, hl, hl2]; rfl, h3⟩
    ·cases h
   | _ => simp [AV.get] at h
  | idx k sz =>
   cases a with
   | arr n e l =>
    simp only [AV.get] at h
    split at h
    ·rename_i hs
     subst hs
     split at h
     ·rename_i d D hd
      simp only [Option.some.injEq, Prod.mk.injEq] at h
      obtain ⟨rfl, rfl⟩ := h
      obtain ⟨hk, hD⟩ := hC
      obtain ⟨hn, hcat⟩ := hc
      obtain ⟨c1, c2, c3, rfl, hl, h2, _⟩ := CatR.at (fun x c hx => ShR.length e x c hx) hcat (getD_some (d := e.dflt) (by omega : k < l.length))
      obtain ⟨d1, d2, d3, rfl, hl2, h3⟩ := ih _ d D c2 hd hD ((CellsR.av e _ _).2 h2)
      exact ⟨c1 ++ d1, d2, d3 ++ c3, by simp, by rw [List.length_append, hl, hl2]; rfl, h3⟩
     ·cases h
    ·cases h
   | _ => simp [AV.get] at h
  | lst o => cases a <;> simp [AV.get] at h
theorem AV.set_ok {w : World} {G : Gh} : ∀ (p : List Step) (v a a' : AV) (C : Prop) (cs : List Value), AV.set p v a = some (a', C) → C → CellsR w G a cs →
  ∃ c1 c2 c3, cs = c1 ++ c2 ++ c3 ∧ c1.length = offs p ∧ c2.length = v.size ∧ ∀ c2', CellsR w G v c2' → CellsR w G a' (c1 ++ c2' ++ c3) := by
 intro p
 induction p with
 | nil =>
  intro v a a' C cs h _ hc
  simp only [AV.set] at h
  split at h
  ·rename_i hz
   simp only [Option.some.injEq, Prod.mk.injEq] at h
   obtain ⟨rfl, _⟩ := h
   exact ⟨[], cs, [], by simp, rfl, by rw [CellsR.length a cs hc, hz], fun c2' h2 => by simpa using h2⟩
  ·cases h
 | cons s p ih =>
  intro v a a' C cs h hC hc
  cases s with
  | fld i off =>
   cases a with
   | st a =>
    simp only [AV.set] at h
    split at h
    ·rename_i d hd
     split at h
     ·rename_i d' D hd'
      split at h
      ·rename_i a1 ha1
       simp only [Option.some.injEq, Prod.mk.injEq] at h
       obtain ⟨rfl, rfl⟩ := h
       obtain ⟨c1, c2, c3, rfl, hl, h2, hset⟩ := fld_ok i off a d cs hd hc
       obtain ⟨d1, d2, d3, rfl, hl2, hz, h3⟩ := ih v d d' D c2 hd' hC h2
       refine ⟨c1 ++ d1, d2, d3 ++ c3, by simp, by rw [List.length_append, hl, hl2]; rfl, hz, fun c2' hc2 => ?_⟩
       have := hset d' a1 _ ha1 (h3 c2' hc2)
       simpa [CellsR] using this
      ·cases h
     ·cases h
    ·cases h
   | _ => simp [AV.set] at h
  | idx k sz =>
   cases a with
   | arr n e l =>
    simp only [AV.set] at h
    split at h
    ·rename_i hs
     subst hs
     split at h
     ·rename_i d D hd
      split at h
      ·rename_i x hx
       simp only [Option.some.injEq, Prod.mk.injEq] at h
       obtain ⟨rfl, rfl⟩ := h
       obtain ⟨hk, hD⟩ := hC
       obtain ⟨hn, hcat⟩ := hc
       have hkl : k < l.length := by omega
       obtain ⟨c1, c2, c3, rfl, hl, h2, ht, hdr⟩ := CatR.at (fun x c hx => ShR.length e x c hx) hcat (getD_some (d := e.dflt) hkl)
       obtain ⟨d1, d2, d3, rfl, hl2, hz, h3⟩ := ih v _ d D c2 hd hD ((CellsR.av e _ _).2 h2)
       refine ⟨c1 ++ d1, d2, d3 ++ c3, by simp, by rw [List.length_append, hl, hl2]; rfl, hz, fun c2' hc2 => ?_⟩
       refine ⟨by rw [List.length_set]; exact hn, ?_⟩
       have hd2 := AV.toSh_ok e d x _ hx (h3 c2' hc2)
       have := CatR.set hkl ht hd2 hdr
       simpa using this
      ·cases h
     ·cases h
    ·cases h
   | _ => simp [AV.set] at h
  | lst o => cases a <;> simp [AV.set] at h
theorem offs_append (p q : List Step) : offs (p ++ q) = offs p + offs q := by
 induction p with
 | nil => simp [offs]
 | cons s p ih => cases s <;> simp [offs, ih, Nat.add_assoc]
theorem list_one {α : Type} {c : List α} (h : c.length = 1) : ∃ v, c = [v] := by
 match c, h with
 | [v], _ => exact ⟨v, rfl⟩
theorem CatR.all {α : Type} {R : α → List Value → Prop} {p : Value → Prop} (h : ∀ x c, R x c → ∀ v ∈ c, p v) : ∀ (l : List α) (cs : List Value), CatR R l cs → ∀ v ∈ cs, p v
 | [], _, e, v, hv => by simp only [CatR] at e; subst e; simp at hv
 | x :: l, _, ⟨c1, c2, e, h1, h2⟩, v, hv => by
  subst e
  rcases List.mem_append.1 hv with hv | hv
  ·exact h x c1 h1 v hv
  ·exact CatR.all h l c2 h2 v hv
theorem ShR.one {w : World} {fz : Nat → Prop} : ∀ (s : Sh) (x : s.T) (cs : List Value), ShR w fz s x cs → ∀ v ∈ cs, v.oneCell' = true
 | .int k, x, cs, h => by simp only [ShR] at h; subst h; intro v hv; simp at hv; subst hv; rfl
 | .bool, x, cs, h => by simp only [ShR] at h; subst h; intro v hv; simp at hv; subst hv; rfl
 | .str, x, cs, h => by simp only [ShR] at h; subst h; intro v hv; simp at hv; subst hv; rfl
 | .unit, x, cs, h => by simp only [ShR] at h; subst h; intro v hv; simp at hv
 | .pair a b, x, cs, h => by
  obtain ⟨c1, c2, rfl, h1, h2⟩ := h
  intro v hv
  rcases List.mem_append.1 hv with hv | hv
  ·exact ShR.one a _ _ h1 v hv
  ·exact ShR.one b _ _ h2 v hv
 | .st a, x, cs, h => ShR.one a x cs h
 | .arr n a, x, cs, h => CatR.all (fun y c hy => ShR.one a y c hy) x cs h.2
 | .sl a, x, cs, h => by obtain ⟨_, _, rfl, _⟩ := h; intro v hv; simp at hv; subst hv; rfl
theorem CatR.one' {w : World} {fz : Nat → Prop} (e : Sh) : ∀ (l : List e.T) (cs : List Value), CatR (ShR w fz e) l cs → ∀ v ∈ cs, v.oneCell' = true
 | l, cs, h => ShR.one (.arr l.length e) l cs ⟨rfl, h⟩
theorem CellsR.one {w : World} {G : Gh} : ∀ (a : AV) (cs : List Value), CellsR w G a cs → ∀ v ∈ cs, v.oneCell' = true
 | .unk, cs, h => by obtain ⟨v, rfl, hv⟩ := h; intro u hu; simp at hu; subst hu; exact hv
 | .int k n, cs, h => by simp only [CellsR] at h; subst h; intro v hv; simp at hv; subst hv; rfl
 | .bool k, cs, h => by simp only [CellsR] at h; subst h; intro v hv; simp at hv; subst hv; rfl
 | .str k, cs, h => by simp only [CellsR] at h; subst h; intro v hv; simp at hv; subst hv; rfl
 | .nil, cs, h => by simp only [CellsR] at h; subst h; intro v hv; simp at hv
 | .cons a b, cs, h => by
  obtain ⟨c1, c2, rfl, h1, h2⟩ := h
  intro v hv
  rcases List.mem_append.1 hv with hv | hv
  ·exact CellsR.one a _ h1 v hv
  ·exact CellsR.one b _ h2 v hv
 | .st a, cs, h => CellsR.one a cs h
 | .arr n e l, cs, h => ShR.one (.arr n e) l cs h
 | .sl e l, cs, h => ShR.one (.sl e) l cs h
 | .nilS, cs, h => by simp only [CellsR] at h; subst h; intro v hv; simp at hv; subst hv; rfl
 | .row r, cs, h => by obtain ⟨rfl, h1⟩ := h; intro v hv; simp at hv; subst hv; exact h1
 | .ptr b p, cs, h => by simp only [CellsR] at h; subst h; intro v hv; simp at hv; subst hv; rfl
 | .slf b z, cs, h => by simp only [CellsR] at h; subst h; intro v hv; rw [List.mem_singleton] at hv; subst hv; rfl
 | .nilP, cs, h => by simp only [CellsR] at h; subst h; intro v hv; simp at hv; subst hv; rfl
 | .fn f caps, cs, h => by obtain ⟨vs, rfl, _⟩ := h; intro v hv; simp at hv; subst hv; rfl
 | .tup _, _, h => h.elim
 | .emp, cs, h => by obtain ⟨a, rfl⟩ := h; intro v hv; simp at hv; subst hv; rfl
 | .sub r size lo n, cs, h => by obtain ⟨u, rfl, h1⟩ := h; intro v hv; simp at hv; subst hv; exact h1.one
 | .mp r, cs, h => by simp only [CellsR] at h; subst h; intro v hv; simp at hv; subst hv; rfl
 | .ifc t e x b, cs, h => by
  cases b with
  | true => obtain ⟨v, rfl, _⟩ := h.1 rfl; intro v hv; simp at hv; subst hv; rfl
  | false => rw [h.2 rfl]; intro v hv; simp at hv; subst hv; rfl
 | .opq b, cs, h => by
  cases b with
  | true => obtain ⟨t, v, rfl⟩ := h.1 rfl; intro v hv; simp at hv; subst hv; rfl
  | false => rw [h.2 rfl]; intro v hv; simp at hv; subst hv; rfl
 | .pv c, cs, h => by obtain ⟨b, off, rfl, _⟩ := h; intro v hv; simp at hv; subst hv; rfl
def AV.agg : AV → Bool
 | .st _ | .arr _ _ _ => true
 | _ => false
def AV.flat : AV → Bool
 | .int .. | .bool .. | .str .. | .sl .. | .nilS | .row .. | .ptr .. | .slf .. | .nilP | .fn .. | .emp | .pv .. | .sub .. | .mp .. | .ifc .. | .opq .. => true
 | _ => false
theorem ValR0.flat {w : World} {G : Gh} {a : AV} (h : a.flat = true) {v : Value} : ValR0 w G a v ↔ CellsR w G a [v] := by
 cases a <;> first | exact Iff.rfl | cases h
theorem ValR.of0 {w : World} {G : Gh} {a : AV} {v : Value} (h : ValR0 w G a v) (ht : ∀ b, a ≠ .tup b) : ValR w G a v := by
 cases a <;> first | exact h | exact absurd rfl (ht _)
theorem ValR.to0 {w : World} {G : Gh} {a : AV} {v : Value} (h : ValR w G a v) (ht : ∀ b, a ≠ .tup b) : ValR0 w G a v := by
 cases a <;> first | exact h | exact absurd rfl (ht _)
theorem ValR0.cells {w : World} {G : Gh} {a : AV} {v : Value} (h : ValR0 w G a v) (hf : a.flat || a.agg) : CellsR w G a v.cells.toList := by
 have one : ∀ a : AV, a.flat = true → CellsR w G a [v] → CellsR w G a v.cells.toList := by
  intro a _ hc
  have := CellsR.one a [v] hc v (by simp)
  have e : v.cells = #[v] := by cases v <;> first | rfl | simp [Value.oneCell'] at this
  rw [e]; exact hc
 cases a with
 | st a => obtain ⟨cs, rfl, h1⟩ := h; exact h1
 | arr n e l => obtain ⟨cs, rfl, h1⟩ := h; exact h1
 | unk | nil | cons | tup => cases hf
 | _ => exact one _ rfl h
def putOver : List Blk → List Blk → List Blk
 | [], n => n
 | x :: m, [] => x :: m
 | _ :: m, b :: n => b :: putOver m n
def memPutB : Nat → List Blk → List Blk → List Blk
 | 0, mem, n => putOver mem n
 | b + 1, mem, n => mem.headD .dead :: memPutB b mem.tail n
def memPut (mem : List Blk) (base : Nat) (new : List Blk) : List Blk := memPutB base mem new
theorem lk_putOver : ∀ (m n : List Blk) (i : Nat), lk (putOver m n) i = if i < n.length then lk n i else lk m i
 | [], n, i => by
  simp only [putOver]
  split
  ·rfl
  ·rename_i h
   simp only [lk, List.getD_eq_getElem?_getD]
   rw [List.getElem?_eq_none (by omega), List.getElem?_nil]
 | x :: m, [], i => by simp [putOver]
 | x :: m, b :: n, 0 => by simp [putOver, lk]
 | x :: m, b :: n, i + 1 => by
  have := lk_putOver m n i
  simpa [putOver, lk] using this
theorem lk_memPut : ∀ (base : Nat) (mem new : List Blk) (i : Nat), lk (memPut mem base new) i = if base ≤ i ∧ i < base + new.length then lk new (i - base) else lk mem i
 | 0, m, n, i => by
  have := lk_putOver m n i
  simp only [memPut, memPutB, Nat.zero_le, true_and, Nat.zero_add, Nat.sub_zero]
  exact this
 | base + 1, m, n, 0 => by cases m <;> simp [memPut, memPutB, lk]
 | base + 1, m, n, i + 1 => by
  have h := lk_memPut base m.tail n i
  have e1 : (base + 1 ≤ i + 1 ∧ i + 1 < base + 1 + n.length) = (base ≤ i ∧ i < base + n.length) := by apply propext; omega
  have e2 : i + 1 - (base + 1) = i - base := by omega
  have e3 : lk m (i + 1) = lk m.tail i := by cases m <;> simp [lk]
  simp only [e1, e2, e3]
  simpa [memPut, memPutB, lk] using h
theorem OwnAt.keep {w w' : World} {g : Nat} {t : TypeId} {cs rest : List Value} (h : OwnAt w g t cs rest) (hk : w'.heap[g]? = w.heap[g]?) : OwnAt w' g t cs rest := by
 obtain ⟨fr, h1, h2⟩ := h
 exact ⟨fr, hk.trans h1, h2⟩
theorem OwnAt.lt {w : World} {g : Nat} {t : TypeId} {cs rest : List Value} (h : OwnAt w g t cs rest) : g < w.heap.size := by
 obtain ⟨fr, h1, _⟩ := h
 exact (Array.getElem?_eq_some_iff.1 h1).1
theorem OwnAt.cell {w : World} {g : Nat} {t : TypeId} {cs rest : List Value} (h : OwnAt w g t cs rest) {i : Nat} {v : Value} (hi : cs[i]? = some v) : w.cell? ⟨g, i, none⟩ = some v := by
 have hlt : i < cs.length := (List.getElem?_eq_some_iff.1 hi).1
 obtain ⟨fr, h, _⟩ := h
 simp only [World.cell?, h]
 simp [List.getElem?_append_left hlt, hi]
theorem RowV.blk {B : Nat} {w : World} {t : TypeId} {size : Nat} {v : Value} {n : Nat} {cs : List Value} (h : RowV B w t size v n cs) {g : Nat} (hg : rowBlk v = some g) : B ≤ g ∧ g < w.heap.size := by
 rcases h with ⟨_, _, a, rfl⟩ | ⟨g', cap, rest, rfl, hc, hB, ho, _⟩
 ·simp [rowBlk] at hg
 ·cases cap with
  | zero => omega
  | succ c => simp [rowBlk] at hg; subst hg; exact ⟨hB, ho.lt⟩
theorem RowV.keep {B : Nat} {w w' : World} {t : TypeId} {size : Nat} {v : Value} {n : Nat} {cs : List Value} (h : RowV B w t size v n cs) (hk : ∀ g, rowBlk v = some g → w'.heap[g]? = w.heap[g]?) : RowV B w' t size v n cs := by
 rcases h with h | ⟨g, cap, rest, rfl, hc, hB, ho, h1⟩
 ·exact .inl h
 ·refine .inr ⟨g, cap, rest, rfl, hc, hB, ho.keep (hk g ?_), h1⟩
  cases cap with
  | zero => omega
  | succ c => rfl
theorem RowV.mono {B B' : Nat} {w : World} {t : TypeId} {size : Nat} {v : Value} {n : Nat} {cs : List Value} (h : RowV B w t size v n cs) (hB : B' ≤ B) : RowV B' w t size v n cs := by
 rcases h with h | ⟨g, cap, rest, e, hc, hB', h1⟩
 ·exact .inl h
 ·exact .inr ⟨g, cap, rest, e, hc, by omega, h1⟩
theorem RowV.slice {B : Nat} {w : World} {t : TypeId} {size : Nat} {v : Value} {n : Nat} {cs : List Value} (h : RowV B w t size v n cs) : ∃ a cap, v = .slice a n cap ∧ n ≤ cap ∧ cap ≤ maxLen ∧ cs.length = n * size := by
 rcases h with ⟨rfl, rfl, a, rfl⟩ | ⟨g, cap, rest, rfl, hc, hB', ho, h1, h2, h3, _⟩
 ·exact ⟨a, 0, rfl, Nat.le_refl _, Nat.zero_le _, by simp⟩
 ·exact ⟨_, cap, rfl, h1, h2, h3⟩
theorem RowV.one {B : Nat} {w : World} {t : TypeId} {size : Nat} {v : Value} {n : Nat} {cs : List Value} (h : RowV B w t size v n cs) : v.oneCell' = true := by
 obtain ⟨a, cap, rfl, _⟩ := h.slice
 rfl
theorem RowO.blk {B : Nat} {w : World} {t : TypeId} {size : Nat} {v : Value} {n : Nat} {cs : List Value} (h : RowO B w t size v n cs) {g : Nat} (hg : rowBlk v = some g) : B ≤ g ∧ g < w.heap.size := by
 rcases h with ⟨_, _, a, rfl⟩ | ⟨g', pre, cap, rest, rfl, hc, hB, ho, _⟩
 ·simp [rowBlk] at hg
 ·cases cap with
  | zero => omega
  | succ c => simp [rowBlk] at hg; subst hg; exact ⟨hB, ho.lt⟩
theorem RowO.keep {B : Nat} {w w' : World} {t : TypeId} {size : Nat} {v : Value} {n : Nat} {cs : List Value} (h : RowO B w t size v n cs) (hk : ∀ g, rowBlk v = some g → w'.heap[g]? = w.heap[g]?) : RowO B w' t size v n cs := by
 rcases h with h | ⟨g, pre, cap, rest, rfl, hc, hB, ho, h1⟩
 ·exact .inl h
 ·refine .inr ⟨g, pre, cap, rest, rfl, hc, hB, ho.keep (hk g ?_), h1⟩
  cases cap with
  | zero => omega
  | succ c => rfl
theorem RowO.mono {B B' : Nat} {w : World} {t : TypeId} {size : Nat} {v : Value} {n : Nat} {cs : List Value} (h : RowO B w t size v n cs) (hB : B' ≤ B) : RowO B' w t size v n cs := by
 rcases h with h | ⟨g, pre, cap, rest, e, hc, hB', h1⟩
 ·exact .inl h
 ·exact .inr ⟨g, pre, cap, rest, e, hc, by omega, h1⟩
theorem RowO.slice {B : Nat} {w : World} {t : TypeId} {size : Nat} {v : Value} {n : Nat} {cs : List Value} (h : RowO B w t size v n cs) : ∃ a cap, v = .slice a n cap ∧ n ≤ cap ∧ cap ≤ maxLen ∧ cs.length = n * size := by
 rcases h with ⟨rfl, rfl, a, rfl⟩ | ⟨g, pre, cap, rest, rfl, hc, hB', ho, h1, h2, h3, _⟩
 ·exact ⟨a, 0, rfl, Nat.le_refl _, Nat.zero_le _, by simp⟩
 ·exact ⟨_, cap, rfl, h1, h2, h3⟩
theorem RowO.one {B : Nat} {w : World} {t : TypeId} {size : Nat} {v : Value} {n : Nat} {cs : List Value} (h : RowO B w t size v n cs) : v.oneCell' = true := by
 obtain ⟨a, cap, rfl, _⟩ := h.slice
 rfl
theorem RowO.at {B : Nat} {w : World} {t : TypeId} {size : Nat} {v : Value} {n : Nat} {cs : List Value} (h : RowO B w t size v n cs) {a : Addr} (ha : RowAt v a) {j : Nat} {u : Value} (hj : cs[j]? = some u) : w.cell? ⟨a.block, a.off + j, none⟩ = some u := by
 rcases h with ⟨_, rfl, _⟩ | ⟨g, pre, cap, rest, hv, hc, hB, ho, _⟩
 ·simp at hj
 ·rw [ha g _ n cap hv hc]
  show w.cell? ⟨g, pre.length + j, none⟩ = some u
  exact ho.cell (by rw [List.getElem?_append_right (by omega), Nat.add_sub_cancel_left]; exact hj)
theorem BlkR.keep {B B' : Nat} {w w' : World} {G G' : Gh} {i : Nat} {b : Blk} (h : BlkR B w G i b) (hk : Keeps G.fz G'.fz w w') (ha : Agree G G' i) (hr : ∀ r ∈ b.refs, Agree G G' r) (hB : B' ≤ B)
  (hl : ∀ x, b.live G i = some x → w'.heap[x]? = w.heap[x]?) : BlkR B' w' G' i b := by
 cases b with
 | dead => trivial
 | box t c =>
  obtain ⟨h1, cs, h2, h3⟩ := h
  refine ⟨by rw [ha.addr]; exact h1, cs, ?_, CellsR.keep hk c cs hr h3⟩
  rw [ha.addr]
  exact h2.keep (hl _ rfl)
 | row t e l =>
  obtain ⟨h1, cs, h2, h3⟩ := h
  refine ⟨fun g hg => by rw [ha.addr]; exact h1 g (by rw [← ha.rowv]; exact hg), cs, ?_, CatR.mono (fun x c hx => ShR.keep hk e x c hx) _ _ h3⟩
  rw [ha.rowv]
  exact (h2.keep (fun g hg => hl g hg)).mono hB
 | bbuf t e l =>
  obtain ⟨⟨h1, cs, h2, h3⟩, h4⟩ := h
  refine ⟨⟨fun g hg => by rw [ha.addr]; exact h1 g (by rw [← ha.rowv]; exact hg), cs, ?_, CatR.mono (fun x c hx => ShR.keep hk e x c hx) _ _ h3⟩, by rw [ha.rowv]; exact h4⟩
  rw [ha.rowv]
  exact (h2.keep (fun g hg => hl g hg)).mono hB
 | rowl t e l x =>
  obtain ⟨h1, c1, c2, h2, h3, h4⟩ := h
  refine ⟨by rw [ha.addr, ha.rowv]; exact h1, c1, c2, ?_, CatR.mono (fun x c hx => ShR.keep hk e x c hx) _ _ h3, LstR.keep hk x c2 hr h4⟩
  rw [ha.rowv]
  exact (h2.keep (fun g hg => hl g hg)).mono hB
 | sav ts a => exact ⟨h.1.keep hk (fun t r hr' => hr r (sav_refs hr')), h.2⟩
 | iter s pos =>
  simp only [BlkR] at h ⊢
  rw [ha.addr]
  exact ⟨h.1, (hl _ rfl).trans h.2⟩
 | map t k e l =>
  obtain ⟨es, clock, h1, h2⟩ := h
  refine ⟨es, clock, ?_, AllR.mono (fun x y hxy => hxy.keep hk) _ _ h2⟩
  rw [ha.addr]
  exact (hl _ rfl).trans h1
theorem live_agree {G G' : Gh} {i : Nat} (b : Blk) (ha : Agree G G' i) : b.live G' i = b.live G i := by
 cases b <;> simp [Blk.live, ha.addr, ha.rowv]
structure NewR (w w' : World) (G G' : Gh) (base : Nat) (new : List Blk) : Prop where
 below : Below w.heap.size w w'
 agree : ∀ i, i < base ∨ base + new.length ≤ i → Agree G G' i
 fz1 : ∀ b, G.fz b → G'.fz b
 fz2 : ∀ b, G'.fz b → G.fz b ∨ (w.heap.size ≤ b ∧ b < w'.heap.size)
 blk : ∀ j, BlkR w.heap.size w' G' (base + j) (lk new j)
 apart : ∀ (j k x : Nat), j ≠ k → (lk new j).live G' (base + j) = some x → (lk new k).live G' (base + k) ≠ some x
 own : ∀ (j x : Nat), (lk new j).live G' (base + j) = some x → w.heap.size ≤ x ∧ x < w'.heap.size ∧ ¬ G'.fz x
theorem NewR.keeps {w w' : World} {G G' : Gh} {base : Nat} {new : List Blk} (h : NewR w w' G G' base new) : Keeps G.fz G'.fz w w' :=
 ⟨h.below.size, fun b _ hb => h.below.block b hb, h.fz1⟩
theorem NewR.none {w w' : World} {G : Gh} {base : Nat} (h : Below w.heap.size w w') : NewR w w' G G base [] :=
 ⟨h, fun _ _ => ⟨rfl, rfl⟩, fun _ h => h, fun _ h => .inl h, fun _ => trivial, fun j k x _ h => by simp [lk, Blk.live] at h, fun j x h => by simp [lk, Blk.live] at h⟩
theorem MemR.more {B : Nat} {w w' : World} {G G' : Gh} {mem new : List Blk} {base : Nat} (hm : MemR B w G mem) (hn : NewR w w' G G' base new)
  (hdead : ∀ i, base ≤ i → i < base + new.length → lk mem i = .dead) (hrefs : ∀ i r, r ∈ (lk mem i).refs → r < base ∨ base + new.length ≤ r) : MemR B w' G' (memPut mem base new) := by
 have hk := hn.keeps
 have hold : ∀ i, ¬ (base ≤ i ∧ i < base + new.length) → Agree G G' i := fun i hi => hn.agree i (by omega)
 have hblk : ∀ i x, ¬ (base ≤ i ∧ i < base + new.length) → (lk mem i).live G' i = some x → (lk mem i).live G i = some x := fun i x hi h => by rw [← live_agree (lk mem i) (hold i hi)]; exact h
 refine ⟨fun i => ?_, fun i j x hij hi hj => ?_, fun i x hi => ?_, fun b hb => ?_, hm.base.keep hn.below.size (fun k h0 => hn.below.block k (Nat.lt_of_lt_of_le h0 hm.base.1))⟩
 ·rw [lk_memPut]
  split
  ·rename_i h
   have := hn.blk (i - base)
   rw [show base + (i - base) = i by omega] at this
   revert this
   cases lk new (i - base) with
   | dead => intro _; trivial
   | box t c => intro h; exact h
   | sav ts a => intro h; exact h
   | iter s pos => intro h; exact h
   | map t k e l => intro h; exact h
   | row t e l => intro h; exact ⟨h.1, h.2.imp fun cs h2 => ⟨h2.1.mono hm.base.1, h2.2⟩⟩
   | bbuf t e l => intro h; exact ⟨⟨h.1.1, h.1.2.imp fun cs h2 => ⟨h2.1.mono hm.base.1, h2.2⟩⟩, h.2⟩
   | rowl t e l x => intro h; obtain ⟨h1, c1, c2, h2, h3⟩ := h; exact ⟨h1, c1, c2, h2.mono hm.base.1, h3⟩
  ·rename_i h
   refine (hm.blk i).keep hk (hold i h) (fun r hr => hn.agree r (hrefs i r hr)) (Nat.le_refl _) (fun x hx => ?_)
   exact hn.below.block x (hm.own i x hx).2.1
 ·rw [lk_memPut] at hi hj
  split at hi <;> split at hj
  ·rename_i h1 h2
   have := hn.apart (i - base) (j - base) x (by omega)
   rw [show base + (i - base) = i by omega, show base + (j - base) = j by omega] at this
   exact this hi hj
  ·rename_i h1 h2
   have a := hn.own (i - base) x
   rw [show base + (i - base) = i by omega] at a
   have b := hm.own j x (hblk j x h2 hj)
   have := a hi
   omega
  ·rename_i h1 h2
   have a := hn.own (j - base) x
   rw [show base + (j - base) = j by omega] at a
   have b := hm.own i x (hblk i x h1 hi)
   have := a hj
   omega
  ·rename_i h1 h2
   exact hm.apart i j x hij (hblk i x h1 hi) (hblk j x h2 hj)
 ·rw [lk_memPut] at hi
  split at hi
  ·rename_i h1
   have a := hn.own (i - base) x
   rw [show base + (i - base) = i by omega] at a
   have := a hi
   exact ⟨Nat.le_trans hm.base.1 this.1, this.2⟩
  ·rename_i h1
   have b := hm.own i x (hblk i x h1 hi)
   refine ⟨b.1, Nat.lt_of_lt_of_le b.2.1 hn.below.size, fun hf => ?_⟩
   rcases hn.fz2 x hf with h | h
   ·exact b.2.2 h
   ·omega
 ·rcases hn.fz2 b hb with h | h
  ·exact Nat.lt_of_lt_of_le (hm.fz b h) hn.below.size
  ·exact h.2
def tput (ts : List AV) (d : Option Tmp) (v : AV) : List AV :=
 match d with
 | some t => ts.set t v
 | none => ts
theorem TmpsR.put {w : World} {G : Gh} {ts : List AV} {a : Act} (h : TmpsR w G ts a) (d : Option Tmp) {av : AV} {v : Value} (hv : ValR w G av v) : TmpsR w G (tput ts d av) (a.put d v) := by
 cases d with
 | none => exact h
 | some t =>
  refine ⟨by simp [tput, Act.put, h.size], fun i => ?_⟩
  have := h.val i
  simp only [tput, Act.put, List.getD_eq_getElem?_getD, List.getElem?_set]
  by_cases e : t = i
  ·subst e
   by_cases hlt : t < ts.length
   ·have hlt' : t < a.tmps.size := by rw [h.size]; exact hlt
    simp [hlt, hlt', Array.getD]
    exact hv
   ·have hlt' : ¬ t < a.tmps.size := by rw [h.size]; exact hlt
    simp [hlt]
    trivial
  ·rw [if_neg e]
   have e2 : (a.tmps.setIfInBounds t v).getD i undef = a.tmps.getD i undef := by
    simp only [Array.getD_eq_getD_getElem?, Array.getElem?_setIfInBounds, if_neg e]
   rw [e2]
   simpa [List.getD_eq_getElem?_getD] using this
def cav : Value → Option AV
 | .int k n => some (.int k n)
 | .bool b => some (.bool b)
 | .string s => some (.str s.data.toList)
 | .slice none 0 0 => some .nilS
 | .pointer none => some .nilP
 | .nilIface => some (.opq false)
 | .func (.func f) first captured => if first.size = 0 ∧ captured.size = 0 then some (.fn f .nil) else none
 | _ => none
theorem cav_ok {w : World} {G : Gh} {v : Value} {a : AV} (h : cav v = some a) : ValR w G a v := by
 unfold cav at h
 split at h <;> try simp only [Option.some.injEq] at h
 ·subst h; rfl
 ·subst h; rfl
 ·subst h; rfl
 ·subst h; rfl
 ·subst h; rfl
 ·subst h; exact ⟨fun h => (by cases h), fun _ => rfl⟩
 ·rename_i f first captured
  split at h
  ·rename_i hz
   simp only [Option.some.injEq] at h
   subst h
   obtain ⟨h1, h2⟩ := hz
   have e1 : first = #[] := Array.eq_empty_of_size_eq_zero h1
   have e2 : captured = #[] := Array.eq_empty_of_size_eq_zero h2
   subst e1; subst e2
   exact ⟨[], rfl, rfl⟩
  ·cases h
 ·cases h
def ev (ts : List AV) : Operand → Option AV
 | .tmp t => some (ts.getD t .unk)
 | .const v => cav v
 | .func f => some (.fn f .nil)
 | .global _ => none
theorem ev_ok {w : World} {G : Gh} {ts : List AV} {a : Act} (h : TmpsR w G ts a) {x : Operand} {av : AV} (he : ev ts x = some av) : ValR w G av (a.eval x) := by
 cases x with
 | tmp t => simp only [ev, Option.some.injEq] at he; subst he; exact h.val t
 | const v => exact cav_ok he
 | func f => simp only [ev, Option.some.injEq] at he; subst he; exact ⟨[], rfl, rfl⟩
 | global g => cases he
theorem ev_refs {ts : List AV} {x : Operand} {av : AV} (he : ev ts x = some av) {r : Nat} (hr : r ∈ av.refs) : ∃ t, r ∈ (ts.getD t .unk).refs := by
 cases x with
 | tmp t => simp only [ev, Option.some.injEq] at he; subst he; exact ⟨t, hr⟩
 | const v =>
  exfalso
  simp only [ev] at he
  unfold cav at he
  split at he <;> try simp only [Option.some.injEq] at he
  ·subst he; simp [AV.refs] at hr
  ·subst he; simp [AV.refs] at hr
  ·subst he; simp [AV.refs] at hr
  ·subst he; simp [AV.refs] at hr
  ·subst he; simp [AV.refs] at hr
  ·subst he; simp [AV.refs] at hr
  ·split at he
   ·simp only [Option.some.injEq] at he; subst he; simp [AV.refs] at hr
   ·cases he
  ·cases he
 | func f => simp only [ev, Option.some.injEq] at he; subst he; simp [AV.refs] at hr
 | global g => cases he
def PureOp (P : Program) (o : Oper) (ts : List AV) (mem : List Blk) (base : Nat) (av : AV) (new : List Blk) (C : Prop) : Prop :=
 ∀ (B : Nat) (w : World) (G : Gh) (a : Act), C → MemR B w G mem → TmpsR w G ts a → (∀ t r, r ∈ (ts.getD t .unk).refs → r < base) → (∀ i r, r ∈ (lk mem i).refs → r < base) →
  ∀ (next : Act → World → Prop) (Q : Exit → Act → World → Prop), (∀ v w' G', NewR w w' G G' base new → ValR w' G' av v → next (a.put o.dst v) w') → o.wp P a w next Q
theorem pure_val {P : Program} {o : Oper} {ts : List AV} {mem : List Blk} {base : Nat} {av : AV} {C : Prop}
  (h : ∀ (B : Nat) (w : World) (G : Gh) (a : Act), C → MemR B w G mem → TmpsR w G ts a → ∃ v, (execOp a.eval o).run P w = .ok (.value v) w ∧ ValR w G av v) : PureOp P o ts mem base av [] C := by
 intro B w G a hC hm ht _ _ next Q hn
 obtain ⟨v, hr, hv⟩ := h B w G a hC hm ht
 unfold Oper.wp
 rw [hr]
 exact hn v w G (NewR.none (Below.refl _ _)) hv
theorem flat_tup {a : AV} (h : a.flat = true) : ∀ b, a ≠ .tup b := by intro b e; subst e; cases h
theorem val_int {w : World} {G : Gh} {k : IntKind} {n : Int} {v : Value} (h : ValR w G (.int k n) v) : v = .int k n := by
 have h' : [v] = [Value.int k n] := h
 simpa using h'
theorem val_bool {w : World} {G : Gh} {b : Bool} {v : Value} (h : ValR w G (.bool b) v) : v = .bool b := by
 have h' : [v] = [Value.bool b] := h
 simpa using h'
theorem val_str {w : World} {G : Gh} {s : List UInt8} {v : Value} (h : ValR w G (.str s) v) : v = .string ⟨s.toArray⟩ := by
 have h' : [v] = [Value.string ⟨s.toArray⟩] := h
 simpa using h'
def bitsI (op : BinOp) (k : IntKind) (x y : Int) : Int := Go.bits op k x y
def shlI (k : IntKind) (x y : Int) : Int := k.wrap (x * 2 ^ (min y.toNat k.bits))
def shrI (k : IntKind) (x y : Int) : Int := x.fdiv (2 ^ (min y.toNat k.bits))
def binI (op : BinOp) (k : IntKind) (x y : Int) : Option (AV × Prop) :=
 match op with
 | .add => some (.int k (k.wrap (x + y)), True)
 | .sub => some (.int k (k.wrap (x - y)), True)
 | .mul => some (.int k (k.wrap (x * y)), True)
 | .quo => some (.int k (k.wrap (x.tdiv y)), y ≠ 0)
 | .rem => some (.int k (x.tmod y), y ≠ 0)
 | .and => some (.int k (bitsI .and k x y), True)
 | .or => some (.int k (bitsI .or k x y), True)
 | .xor => some (.int k (bitsI .xor k x y), True)
 | .andNot => some (.int k (bitsI .andNot k x y), True)
 | .eql => some (.bool (x == y), True)
 | .neq => some (.bool (x != y), True)
 | .lss => some (.bool (decide (x < y)), True)
 | .leq => some (.bool (decide (x ≤ y)), True)
 | .gtr => some (.bool (decide (x > y)), True)
 | .geq => some (.bool (decide (x ≥ y)), True)
 | .shl => some (.int k (shlI k x y), 0 ≤ y)
 | .shr => some (.int k (shrI k x y), 0 ≤ y)
theorem str_toList (s : List UInt8) : (⟨s.toArray⟩ : ByteArray).toList = s := by
 rw [ByteArray.toList_eq]
theorem str_cat (l m : List UInt8) : (⟨l.toArray⟩ : ByteArray) ++ ⟨m.toArray⟩ = ⟨(l ++ m).toArray⟩ := by
 apply ByteArray.ext
 simp [ByteArray.data_append]
theorem str_size (s : List UInt8) : (⟨s.toArray⟩ : ByteArray).size = s.length := by simp [ByteArray.size]
def binS (op : BinOp) (x y : List UInt8) : Option (AV × Prop) :=
 match op with
 | .add => some (.str (x ++ y), x.length + y.length ≤ 9223372036854775807)
 | .eql => some (.bool (x == y), True)
 | .neq => some (.bool (!(x == y)), True)
 | .lss => some (.bool (Op.bytesLess x y), True)
 | .leq => some (.bool (Op.bytesLess x y || x == y), True)
 | .gtr => some (.bool (!(Op.bytesLess x y || x == y)), True)
 | .geq => some (.bool (!Op.bytesLess x y), True)
 | _ => none
theorem run_binI {P : Program} {w : World} {op : BinOp} {k k' : IntKind} {x y : Int} {av : AV} {C : Prop} (hk : k = k' ∨ op = .shl ∨ op = .shr) (h : binI op k x y = some (av, C)) (hC : C) (t : TypeId) :
  ∃ v, (binOp op t (.int k x) (.int k' y)).run P w = .ok v w ∧ ∀ G, ValR w G av v := by
 cases op <;> simp only [binI, Option.some.injEq, Prod.mk.injEq] at h <;> obtain ⟨rfl, rfl⟩ := h
 case shl => exact ⟨_, by simp [binOp, Op.shift, shlI, Int.not_lt.2 hC], fun G => rfl⟩
 case shr => exact ⟨_, by simp [binOp, Op.shift, shrI, Int.not_lt.2 hC], fun G => rfl⟩
 all_goals
  have hk' : k = k' := by rcases hk with h | h | h <;> first | exact h | cases h
  subst hk'
  first
   | exact ⟨_, by simp [binOp, Op.intArith]; rfl, fun G => rfl⟩
   | exact ⟨_, by simp [binOp]; simp only [Op.intDiv, if_neg hC]; rfl, fun G => rfl⟩
   | exact ⟨_, by simp [binOp]; rfl, fun G => rfl⟩
   | exact ⟨_, by simp [binOp, Op.intCmp]; rfl, fun G => rfl⟩
theorem run_binS {P : Program} {w : World} {op : BinOp} {x y : List UInt8} {av : AV} {C : Prop} (h : binS op x y = some (av, C)) (hC : C) (t : TypeId) :
  ∃ v, (binOp op t (.string ⟨x.toArray⟩) (.string ⟨y.toArray⟩)).run P w = .ok v w ∧ ∀ G, ValR w G av v := by
 cases op <;> simp only [binS, Option.some.injEq, Prod.mk.injEq, reduceCtorEq] at h <;> obtain ⟨rfl, rfl⟩ := h
 case add =>
  refine ⟨_, ?_, fun G => rfl⟩
  have e : ¬ ((x.length + y.length : Nat) : Int) > IntKind.i64.max := by
   have : IntKind.i64.max = 9223372036854775807 := by decide
   omega
  simp only [binOp, Op.stringOp, str_size, if_neg e, str_cat]
  rfl
 all_goals exact ⟨_, by simp only [binOp, Op.stringOp, str_toList]; rfl, fun G => rfl⟩
theorem run_eqB {P : Program} {w : World} {x y : Bool} (d : Nat) (t : TypeId) (ht : P.underlying t = some .bool) : (Op.equalIn (d + 1) t (.bool x) (.bool y)).run P w = .ok (x == y) w := by
 simp only [Op.equalIn, Sem.run_bind, run_underlying ht, Result.andThen_ok]
 rfl
theorem run_binB {P : Program} {w : World} {x y : Bool} (t : TypeId) (ht : P.underlying t = some .bool) :
  (binOp .eql t (.bool x) (.bool y)).run P w = .ok (.bool (x == y)) w ∧ (binOp .neq t (.bool x) (.bool y)).run P w = .ok (.bool (!(x == y))) w := by
 have h := run_eqB (w := w) (x := x) (y := y) 9999 t ht
 constructor
 ·show (do let r ← Op.equalIn (9999 + 1) t (.bool x) (.bool y); pure (.bool r) : Sem Value).run P w = _
  simp only [Sem.run_bind, h, Result.andThen_ok]
  rfl
 ·show (do let r ← Op.equalIn (9999 + 1) t (.bool x) (.bool y); pure (.bool !r) : Sem Value).run P w = _
  simp only [Sem.run_bind, h, Result.andThen_ok]
  rfl
def evBin (P : Program) (op : BinOp) (t : TypeId) (a b : AV) : Option (AV × Prop) :=
 match a, b with
 | .int k x, .int k' y => if k = k' ∨ op = .shl ∨ op = .shr then binI op k x y else none
 | .str x, .str y => binS op x y
 | .bool x, .bool y =>
  match P.underlying t with
  | some .bool =>
   match op with
   | .eql => some (.bool (x == y), True)
   | .neq => some (.bool (!(x == y)), True)
   | _ => none
  | _ => none
 | _, _ => none
theorem evBin_ok {P : Program} {w : World} {G : Gh} {op : BinOp} {t : TypeId} {a b av : AV} {C : Prop} {u v : Value} (x y : Operand) (h : evBin P op t a b = some (av, C)) (hC : C) (ha : ValR w G a u) (hb : ValR w G b v) :
  ∃ r, (do eqGuard op t x y u v; binOp op t u v : Sem Value).run P w = .ok r w ∧ ValR w G av r := by
 unfold evBin at h
 split at h
 ·rename_i k p k' q
  split at h
  ·rename_i hk
   rw [val_int ha, val_int hb]
   obtain ⟨r, hr, hv⟩ := run_binI (P := P) (w := w) (k' := k') hk h hC t
   refine ⟨r, ?_, hv G⟩
   have e : (eqGuard op t x y (.int k p) (.int k' q)).run P w = .ok () w := by unfold eqGuard; split <;> rfl
   simp only [Sem.run_bind, e, Result.andThen_ok, hr]
  ·cases h
 ·rename_i p q
  rw [val_str ha, val_str hb]
  obtain ⟨r, hr, hv⟩ := run_binS (P := P) (w := w) h hC t
  refine ⟨r, ?_, hv G⟩
  have e : (eqGuard op t x y (.string ⟨p.toArray⟩) (.string ⟨q.toArray⟩)).run P w = .ok () w := by unfold eqGuard; split <;> rfl
  simp only [Sem.run_bind, e, Result.andThen_ok, hr]
 ·rename_i p q
  rw [val_bool ha, val_bool hb]
  split at h
  ·rename_i ht
   have e : (eqGuard op t x y (.bool p) (.bool q)).run P w = .ok () w := by unfold eqGuard; split <;> rfl
   split at h <;> simp only [Option.some.injEq, Prod.mk.injEq, reduceCtorEq] at h <;> obtain ⟨rfl, rfl⟩ := h
   ·exact ⟨_, by simp only [Sem.run_bind, e, Result.andThen_ok, (run_binB (w := w) t ht).1], rfl⟩
   ·exact ⟨_, by simp only [Sem.run_bind, e, Result.andThen_ok, (run_binB (w := w) t ht).2], rfl⟩
  ·cases h
 ·cases h
def evUn (op : UnOp) (a : AV) : Option AV :=
 match op, a with
 | .neg, .int k n => some (.int k (k.wrap (0 - n)))
 | .xor, .int k n => some (.int k (bitsI .xor k (if k.signed then -1 else k.max) n))
 | .not, .bool b => some (.bool !b)
 | _, _ => none
theorem evUn_ok {P : Program} {w : World} {G : Gh} {op : UnOp} {a av : AV} {u : Value} (h : evUn op a = some av) (ha : ValR w G a u) : ∃ r, (Op.unary op u).run P w = .ok r w ∧ ValR w G av r := by
 unfold evUn at h
 split at h <;> simp only [Option.some.injEq, reduceCtorEq] at h
 ·subst h; rw [val_int ha]; exact ⟨_, rfl, rfl⟩
 ·subst h; rw [val_int ha]; exact ⟨_, rfl, rfl⟩
 ·subst h; rw [val_bool ha]; exact ⟨_, rfl, rfl⟩
theorem CatR.ints {w : World} {fz : Nat → Prop} {k : IntKind} : ∀ {l : List Int} {cs : List Value}, CatR (ShR w fz (.int k)) l cs → cs = l.map (Value.int k)
 | [], cs, h => h
 | x :: l, cs, ⟨c1, c2, e, h1, h2⟩ => by
  have e1 : c1 = [Value.int k x] := h1
  have e2 := CatR.ints h2
  rw [e, e1, e2]; rfl
theorem run_convBytes {P : Program} {w : World} {fz : Nat → Prop} (src e : TypeId) (hs : P.underlying src = some (.slice e)) (he : P.underlying e = some (.int .u8)) (dst : TypeId) (hd : P.underlying dst = some .string)
  {v : Value} {xs : List Int} (h : ShR w fz (.sl (.int .u8)) xs [v]) : (convert src dst v).run P w = .ok (.string (strOfNums xs)) w := by
 obtain ⟨a, cap, e1, hc, hm, hx⟩ := h
 obtain rfl : v = .slice a xs.length cap := by simpa using e1
 by_cases h0 : xs.length = 0
 ·obtain rfl : xs = [] := List.length_eq_zero_iff.1 h0
  cases a with
  | none => rw [List.length_nil, run_convert_bytes_nil w src e hs he 0 cap dst hd]; rfl
  | some a =>
   rw [List.length_nil, run_convert_bytes_string w src dst e _ 0 cap hs he hd, run_bytesToString w _ 0 cap [] (by simpa using run_loadCells_list (P := P) w a [] (fun j v hj => by simp at hj))]
   rfl
 ·obtain ⟨b, off, cells, rfl, _, _, hcat, hcell⟩ := hx (by omega)
  have hcs := CatR.ints hcat
  subst hcs
  refine run_convert_bytes_arg w src e hs he b off xs.length cap xs rfl (fun i hi => ?_) dst hd
  rw [hcell i (.int .u8 (xs.getD i 0))]
  rw [List.getElem?_map, getD_some (d := 0) hi]; rfl
def strOf (l : List Int) : List UInt8 := l.map fun n => UInt8.ofNat n.toNat
def evConv (P : Program) (src dst : TypeId) (a : AV) : Option AV :=
 match P.underlying src, P.underlying dst, a with
 | some _, some (.int k), .int _ n => some (.int k (k.wrap n))
 | some _, some .string, .str s => some (.str s)
 | some (.slice e), some .string, .sl (.int .u8) l =>
  match P.underlying e with
  | some (.int .u8) => some (.str (strOf l))
  | _ => none
 | _, _, _ => none
theorem evConv_ok {P : Program} {w : World} {G : Gh} {src dst : TypeId} {a av : AV} {u : Value} (h : evConv P src dst a = some av) (ha : ValR w G a u) : ∃ r, (convert src dst u).run P w = .ok r w ∧ ValR w G av r := by
 unfold evConv at h
 split at h
 ·rename_i d k k' n h1 h2
  simp only [Option.some.injEq] at h
  subst h
  rw [val_int ha]
  refine ⟨_, ?_, rfl⟩
  simp only [convert, Sem.run_bind, run_underlying h1, run_underlying h2, Result.andThen_ok]
  rfl
 ·rename_i d s h1 h2
  simp only [Option.some.injEq] at h
  subst h
  rw [val_str ha]
  refine ⟨_, ?_, rfl⟩
  simp only [convert, Sem.run_bind, run_underlying h1, run_underlying h2, Result.andThen_ok]
  rfl
 ·rename_i e l h1 h2
  split at h
  ·rename_i h3
   simp only [Option.some.injEq] at h
   subst h
   refine ⟨_, run_convBytes src e h1 h3 dst h2 (show ShR w G.fz (.sl (.int .u8)) l [u] from ha), ?_⟩
   show [Value.string (strOfNums l)] = [Value.string ⟨(strOf l).toArray⟩]
   rfl
  ·cases h
 ·cases h
theorem run_sz {P : Program} {w : World} {t : TypeId} {i : TypeInfo} (h : P.info? t = some i) : (sizeOf t).run P w = .ok i.size w := by
 have h1 : (typeInfo t).run P w = .ok i w := by
  unfold typeInfo program
  simp only [Sem.run_bind]
  simp only [Sem.run, h, Result.andThen]
  rfl
 unfold sizeOf
 simp only [Sem.run_bind, h1, Result.andThen_ok]
 rfl
theorem addr_add' (b off j : Nat) : (⟨b, off, none⟩ : Addr).add j = ⟨b, off + j, none⟩ := by
 unfold Addr.add
 split <;> simp_all
def At (w : World) (ad : Addr) (cs : List Value) : Prop := ad.spot = none ∧ ∀ j v, cs[j]? = some v → w.cell? ⟨ad.block, ad.off + j, none⟩ = some v
theorem At.sub {w : World} {b off : Nat} {c1 c2 c3 : List Value} (h : At w ⟨b, off, none⟩ (c1 ++ c2 ++ c3)) : At w ⟨b, off + c1.length, none⟩ c2 := by
 refine ⟨rfl, fun j v hj => ?_⟩
 have := h.2 (c1.length + j) v (by
  have hlt : j < c2.length := (List.getElem?_eq_some_iff.1 hj).1
  rw [List.append_assoc, List.getElem?_append_right (by omega), Nat.add_sub_cancel_left, List.getElem?_append_left hlt]; exact hj)
 show w.cell? ⟨b, off + c1.length + j, none⟩ = some v
 rw [Nat.add_assoc]
 exact this
def ldOk (P : Program) (t : TypeId) (c : AV) : Bool :=
 match P.underlying t with
 | none => false
 | some (.struct _) => c.agg && (match P.info? t with | some i => i.size == c.size | none => false)
 | some (.array _ _) => c.agg && (match P.info? t with | some i => i.size == c.size | none => false)
 | some _ => c.flat || (match c with | .unk => true | _ => false)
theorem ValR_agg {w : World} {G : Gh} {c : AV} (h : c.agg = true) {cs : List Value} (hc : CellsR w G c cs) : ValR w G c (.agg cs.toArray) := by
 cases c with
 | st a => exact ⟨_, rfl, hc⟩
 | arr n e l => exact ⟨_, rfl, hc⟩
 | _ => cases h
theorem ValR_flat {w : World} {G : Gh} {c : AV} (h : c.flat = true) {v : Value} (hc : CellsR w G c [v]) : ValR w G c v :=
 ValR.of0 ((ValR0.flat h).2 hc) (flat_tup h)
theorem flat_size {c : AV} (h : c.flat = true) : c.size = 1 := by cases c <;> first | rfl | cases h
theorem load_ok {P : Program} {w : World} {G : Gh} {t : TypeId} {c : AV} {ad : Addr} {cs : List Value} (hl : ldOk P t c = true) (hat : At w ad cs) (hc : CellsR w G c cs) :
  ∃ v, (Instr.loadAt t (.pointer (some ad))).run P w = .ok v w ∧ ValR w G c v := by
 obtain ⟨b, off, spot⟩ := ad
 obtain ⟨hs, hat⟩ := hat
 simp only at hs; subst hs
 have aggcase : ∀ i, (isAgg t).run P w = .ok true w → P.info? t = some i → i.size = c.size → c.agg = true → ∃ v, (Instr.loadAt t (.pointer (some ⟨b, off, none⟩))).run P w = .ok v w ∧ ValR w G c v := by
  intro i ha hi hz hg
  have hlen := CellsR.length c cs hc
  have hld := run_loadCells_list (P := P) w ⟨b, off, none⟩ cs (fun j v hj => by rw [addr_add']; exact hat j v hj)
  refine ⟨.agg cs.toArray, ?_, ValR_agg hg hc⟩
  simp only [Instr.loadAt, Instr.sureAddr, loadVar, Sem.run_bind, Sem.run_pure, Result.andThen_ok, ha, if_true, run_sz hi]
  rw [hz, ← hlen, hld]
  rfl
 have flatcase : (isAgg t).run P w = .ok false w → (c.flat = true ∨ c = .unk) → ∃ v, (Instr.loadAt t (.pointer (some ⟨b, off, none⟩))).run P w = .ok v w ∧ ValR w G c v := by
  intro ha hf
  have hlen := CellsR.length c cs hc
  have h1 : cs.length = 1 := by
   rcases hf with hf | hf
   ·rw [hlen, flat_size hf]
   ·subst hf; exact hlen
  obtain ⟨v, rfl⟩ := list_one h1
  have hv := hat 0 v rfl
  refine ⟨v, ?_, ?_⟩
  ·simp only [Instr.loadAt, Instr.sureAddr, loadVar, Sem.run_bind, Sem.run_pure, Result.andThen_ok, ha, Bool.false_eq_true, if_false]
   simp only [load, Sem.run, Nat.add_zero] at hv ⊢
   simp only [hv]
  ·rcases hf with hf | hf
   ·exact ValR_flat hf hc
   ·subst hf; trivial
 unfold ldOk at hl
 cases hu : P.underlying t with
 | none => rw [hu] at hl; cases hl
 | some d =>
  rw [hu] at hl
  cases d with
  | struct fs =>
   simp only [Bool.and_eq_true] at hl
   obtain ⟨hg, hi⟩ := hl
   cases hin : P.info? t with
   | none => rw [hin] at hi; cases hi
   | some i =>
    rw [hin] at hi
    exact aggcase i (by unfold isAgg; simp only [Sem.run_bind, run_underlying hu, Result.andThen_ok]; rfl) hin (by simpa using hi) hg
  | array n e =>
   simp only [Bool.and_eq_true] at hl
   obtain ⟨hg, hi⟩ := hl
   cases hin : P.info? t with
   | none => rw [hin] at hi; cases hi
   | some i =>
    rw [hin] at hi
    exact aggcase i (by unfold isAgg; simp only [Sem.run_bind, run_underlying hu, Result.andThen_ok]; rfl) hin (by simpa using hi) hg
  | _ =>
   refine flatcase (by unfold isAgg; simp only [Sem.run_bind, run_underlying hu, Result.andThen_ok]; rfl) ?_
   simp only [Bool.or_eq_true] at hl
   rcases hl with hl | hl
   ·exact .inl hl
   ·right; cases c <;> first | rfl | cases hl
def blkAV : Blk → Option AV
 | .box _ c => some c
 | .row _ e l => some (.arr l.length e l)
 | .rowl _ e l none => some (.arr l.length e l)
 | _ => none
theorem blk_at {B : Nat} {w : World} {G : Gh} {i : Nat} {b : Blk} {c : AV} (h : BlkR B w G i b) (hc : blkAV b = some c) : ∃ cs, CellsR w G c cs ∧ ∀ j v, cs[j]? = some v → w.cell? ⟨(G.addr i).block, (G.addr i).off + j, none⟩ = some v := by
 cases b with
 | dead => cases hc
 | sav ts a => cases hc
 | bbuf t e l => cases hc
 | rowl t e l x =>
  cases x with
  | some y => cases hc
  | none =>
   simp only [blkAV, Option.some.injEq] at hc; subst hc
   obtain ⟨ha, c1, c2, hrow, hcat, hx⟩ := h
   obtain rfl : c2 = [] := hx
   exact ⟨c1, ⟨rfl, hcat⟩, fun j v hj => hrow.at ha (by rw [List.append_nil]; exact hj)⟩
 | iter s p => cases hc
 | map t k e l => cases hc
 | box t c' =>
  simp only [blkAV, Option.some.injEq] at hc; subst hc
  obtain ⟨h0, cs, h1, h2⟩ := h
  exact ⟨cs, h2, fun j v hj => by rw [h0, Nat.zero_add]; exact h1.cell hj⟩
 | row t e l =>
  simp only [blkAV, Option.some.injEq] at hc; subst hc
  obtain ⟨h0, cs, h1, h2⟩ := h
  refine ⟨cs, ⟨rfl, h2⟩, fun j v hj => ?_⟩
  rcases h1 with ⟨_, rfl, _⟩ | ⟨g, cap, rest, hv, hcap, _, ho, _⟩
  ·simp at hj
  ·have := h0 g (by rw [hv]; cases cap with | zero => omega | succ n => rfl)
   rw [this, Nat.zero_add]
   exact ho.cell hj
def evLoad (P : Program) (mem : List Blk) (t : TypeId) (p : AV) : Option (AV × Prop) :=
 match p with
 | .ptr b q =>
  match blkAV (lk mem b) with
  | some c =>
   match AV.get q c with
   | some (c', C) => if ldOk P t c' then some (c', C) else none
   | none => none
  | none =>
   match lk mem b, q with
   | .rowl _ e l (some (z, c)), .lst o :: q' =>
    match AV.get q' c with
    | some (c', C) => if ldOk P t c' then some (c', (z = true ∧ o = l.length * e.size) ∧ C) else none
    | none => none
   | _, _ => none
 | .pv c => if ldOk P t c then some (c, True) else none
 | _ => none
theorem val_ptr {w : World} {G : Gh} {b : Nat} {p : List Step} {v : Value} (h : ValR w G (.ptr b p) v) : v = .pointer (some ⟨(G.addr b).block, (G.addr b).off + offs p, none⟩) := by
 have h' : [v] = [Value.pointer (some ⟨(G.addr b).block, (G.addr b).off + offs p, none⟩)] := h
 simpa using h'
theorem val_pv {w : World} {G : Gh} {c : AV} {v : Value} (h : ValR w G (.pv c) v) : ∃ b off cells, v = .pointer (some ⟨b, off, none⟩) ∧ G.fz b ∧ b < w.heap.size ∧ CellsR w G c cells ∧ At w ⟨b, off, none⟩ cells := by
 obtain ⟨b, off, e, hf, hb, cells, hc, hx⟩ := (show CellsR w G (.pv c) [v] from h)
 exact ⟨b, off, cells, by simpa using e, hf, hb, hc, rfl, hx⟩
theorem mk_pv {w : World} {G : Gh} {c : AV} {b off : Nat} {cells : List Value} (hf : G.fz b) (hb : b < w.heap.size) (hc : CellsR w G c cells) (hat : At w ⟨b, off, none⟩ cells) : ValR w G (.pv c) (.pointer (some ⟨b, off, none⟩)) :=
 show CellsR w G (.pv c) [_] from ⟨b, off, rfl, hf, hb, cells, hc, hat.2⟩
theorem evLoad_ok {P : Program} {B : Nat} {w : World} {G : Gh} {mem : List Blk} {t : TypeId} {p c : AV} {C : Prop} {v : Value} (h : evLoad P mem t p = some (c, C)) (hC : C) (hm : MemR B w G mem) (hv : ValR w G p v) :
  ∃ r, (Instr.loadAt t v).run P w = .ok r w ∧ ValR w G c r := by
 unfold evLoad at h
 split at h
 ·rename_i b q
  split at h
  ·rename_i c0 hc0
   split at h
   ·rename_i c' C' hget
    split at h
    ·rename_i hl
     simp only [Option.some.injEq, Prod.mk.injEq] at h
     obtain ⟨rfl, rfl⟩ := h
     obtain ⟨cs, h1, h2⟩ := blk_at (hm.blk b) hc0
     obtain ⟨c1, c2, c3, rfl, hlen, h3⟩ := AV.get_ok q c0 c' C' cs hget hC h1
     rw [val_ptr hv]
     have hat := At.sub (w := w) (b := (G.addr b).block) (off := (G.addr b).off) (c1 := c1) (c2 := c2) (c3 := c3) ⟨rfl, h2⟩
     rw [hlen] at hat
     exact load_ok hl hat h3
    ·cases h
   ·cases h
  ·split at h
   ·rename_i T e l z c0 o q' hlk
    split at h
    ·rename_i c' C' hget
     split at h
     ·rename_i hl
      simp only [Option.some.injEq, Prod.mk.injEq] at h
      obtain ⟨rfl, rfl⟩ := h
      obtain ⟨⟨hz, ho⟩, hC⟩ := hC
      have hb := hm.blk b
      rw [hlk] at hb
      obtain ⟨ha, d1, d2, hrow, hcat, hx⟩ := hb
      obtain ⟨c1, c2, c3, rfl, hlen, h3⟩ := AV.get_ok q' c0 c' C' d2 hget hC (hx.1 hz)
      rw [val_ptr hv]
      have hd1 : d1.length = o := by rw [CatR.length (fun y c hy => ShR.length e y c hy) _ _ hcat, ho]
      have hat := At.sub (w := w) (b := (G.addr b).block) (off := (G.addr b).off) (c1 := d1 ++ c1) (c2 := c2) (c3 := c3) ⟨rfl, fun j v hj => hrow.at ha (by simpa [List.append_assoc] using hj)⟩
      rw [List.length_append, hd1, hlen] at hat
      exact load_ok hl hat h3
     ·cases h
    ·cases h
   ·cases h
 ·rename_i c0
  split at h
  ·rename_i hl
   simp only [Option.some.injEq, Prod.mk.injEq] at h
   obtain ⟨rfl, rfl⟩ := h
   obtain ⟨b, off, cells, rfl, _, _, hc, hat⟩ := val_pv hv
   exact load_ok hl hat hc
  ·cases h
 ·cases h
def fldOf (P : Program) (s : TypeId) (f : Nat) : Option Field :=
 match P.underlying s with
 | some (.struct fs) => fs[f]?
 | _ => none
def evFieldAddr (P : Program) (s : TypeId) (p : AV) (f : Nat) : Option AV :=
 match fldOf P s f with
 | some fd =>
  match P.info? fd.type with
  | some i =>
   if i.size = 0 then none else
   match p with
   | .ptr b q => some (.ptr b (q ++ [.fld f fd.offset]))
   | .pv (.st c) => (AV.fldGet f fd.offset c).map .pv
   | _ => none
  | none => none
 | none => none
theorem evFieldAddr_ok {P : Program} {w : World} {G : Gh} {s : TypeId} {p c : AV} {f : Nat} {v : Value} (h : evFieldAddr P s p f = some c) (hv : ValR w G p v) : ∃ r, (Instr.fieldAt s v f).run P w = .ok r w ∧ ValR w G c r := by
 unfold evFieldAddr at h
 split at h
 ·rename_i fd hfd
  unfold fldOf at hfd
  split at hfd
  ·rename_i fs hu
   split at h
   ·rename_i i hi
    split at h
    ·cases h
    ·rename_i hz
     have hrun : ∀ b off, (Instr.fieldAt s (.pointer (some ⟨b, off, none⟩)) f).run P w = .ok (.pointer (some ⟨b, off + fd.offset, none⟩)) w := by
      intro b off
      simp only [Instr.fieldAt, Sem.run_bind, run_underlying hu, Result.andThen_ok, hfd, Instr.sureAddr, Sem.run_pure, fieldPlace, run_sz hi]
      rw [if_neg hz, addr_add']
      rfl
     split at h
     ·rename_i b q
      simp only [Option.some.injEq] at h
      subst h
      rw [val_ptr hv]
      refine ⟨_, hrun _ _, ?_⟩
      show [Value.pointer _] = [Value.pointer _]
      rw [offs_append, Nat.add_assoc]
      rfl
     ·rename_i c0
      simp only [Option.map_eq_some_iff] at h
      obtain ⟨c', hg, rfl⟩ := h
      obtain ⟨b, off, cells, rfl, hf, hb, hc, hat⟩ := val_pv hv
      obtain ⟨c1, c2, c3, rfl, hl, h2, _⟩ := fld_ok f fd.offset c0 c' cells hg hc
      refine ⟨_, hrun _ _, mk_pv hf hb h2 ?_⟩
      rw [← hl]
      exact hat.sub
     ·cases h
   ·cases h
  ·cases hfd
 ·cases h
def inR (i : Int) (n : Nat) : Prop := 0 ≤ i ∧ i < n
def evIndexAddr (P : Program) (mem : List Blk) (t : TypeId) (x ix : AV) : Option (AV × Prop) :=
 match ix with
 | .int k i =>
  match P.underlying t with
  | some (.slice el) =>
   match P.info? el with
   | some inf =>
    match x with
    | .sl e l => if inf.size = e.size then some (.pv (e.av (l.getD i.toNat e.dflt)), inR i l.length) else none
    | .row r =>
     match lk mem r with
     | .row _ e l => if inf.size = e.size then some (.ptr r [.idx i.toNat e.size], inR i l.length) else none
     | .rowl _ e l none => if inf.size = e.size then some (.ptr r [.idx i.toNat e.size], inR i l.length) else none
     | .rowl _ e l (some (z, _)) => if inf.size = e.size then some (.ptr r [.lst (i.toNat * e.size)], z = true ∧ i = l.length) else none
     | _ => none
    | _ => none
   | none => none
  | some (.array n el) =>
   match P.info? el with
   | some inf =>
    match x with
    | .ptr b q => some (.ptr b (q ++ [.idx i.toNat inf.size]), inR i n)
    | .pv (.arr m e l) => if inf.size = e.size ∧ m = n then some (.pv (e.av (l.getD i.toNat e.dflt)), inR i n) else none
    | _ => none
   | none => none
  | _ => none
 | _ => none
theorem cat_at {w : World} {fz : Nat → Prop} {e : Sh} {l : List e.T} {cells : List Value} {b off k : Nat} (h : CatR (ShR w fz e) l cells) (hk : k < l.length) (hat : At w ⟨b, off, none⟩ cells) :
  ∃ c2, ShR w fz e (l.getD k e.dflt) c2 ∧ At w ⟨b, off + k * e.size, none⟩ c2 := by
 obtain ⟨c1, c2, c3, rfl, hl, h2, _⟩ := CatR.at (fun x c hx => ShR.length e x c hx) h (getD_some (d := e.dflt) hk)
 refine ⟨c2, h2, ?_⟩
 rw [← hl]
 exact hat.sub
theorem evIndexAddr_ok {P : Program} {B : Nat} {w : World} {G : Gh} {mem : List Blk} {t : TypeId} {x ix c : AV} {C : Prop} {u v : Value} (h : evIndexAddr P mem t x ix = some (c, C)) (hC : C) (hm : MemR B w G mem) (hu : ValR w G x u) (hv : ValR w G ix v) :
  ∃ r, (Instr.indexAt t u v).run P w = .ok r w ∧ ValR w G c r := by
 unfold evIndexAddr at h
 split at h
 ·rename_i k i
  rw [val_int hv]
  split at h
  ·rename_i el hut
   split at h
   ·rename_i inf hinf
    have hrun : ∀ (ad : Addr) (n cap : Nat), 0 ≤ i → i < (n : Int) → (Instr.indexAt t (.slice (some ad) n cap) (.int k i)).run P w = .ok (.pointer (some (ad.add (i.toNat * inf.size)))) w := by
     intro ad n cap h0 h1
     simp only [Instr.indexAt, asIntOf, Sem.run_bind, Sem.run_pure, Result.andThen_ok, run_underlying hut]
     rw [if_pos ⟨h0, h1⟩]
     simp only [Sem.run_bind, Sem.run_pure, Result.andThen_ok, run_sz hinf]
    split at h
    ·rename_i e l
     split at h
     ·rename_i hz
      simp only [Option.some.injEq, Prod.mk.injEq] at h
      obtain ⟨rfl, rfl⟩ := h
      obtain ⟨h0, h1⟩ := hC
      obtain ⟨ad, cap, e1, hlc, hcm, hx⟩ := (show ShR w G.fz (.sl e) l [u] from hu)
      obtain rfl : u = .slice ad l.length cap := by simpa using e1
      obtain ⟨b, off, cells, rfl, hf, hb, hcat, hcell⟩ := hx (by omega)
      obtain ⟨c2, h2, h3⟩ := cat_at (k := i.toNat) hcat (by omega) (⟨rfl, hcell⟩ : At w ⟨b, off, none⟩ cells)
      refine ⟨_, hrun _ _ _ h0 h1, ?_⟩
      rw [addr_add', hz]
      exact mk_pv hf hb ((CellsR.av e _ _).2 h2) h3
     ·cases h
    ·rename_i r
     split at h
     ·rename_i tt e l hlk
      split at h
      ·rename_i hz
       simp only [Option.some.injEq, Prod.mk.injEq] at h
       obtain ⟨rfl, rfl⟩ := h
       obtain ⟨h0, h1⟩ := hC
       obtain ⟨e1, _⟩ := (show [u] = [G.rowv r] ∧ _ from hu)
       obtain rfl : u = G.rowv r := by simpa using e1
       have hb := hm.blk r
       rw [hlk] at hb
       obtain ⟨ha, cs, hrow, _⟩ := hb
       rcases hrow with ⟨hn, _, _⟩ | ⟨g, cap, rest, hval, hcap, _, ho, _⟩
       ·omega
       ·have hg := ha g (by rw [hval]; cases cap with | zero => omega | succ n => rfl)
        rw [hval]
        refine ⟨_, hrun _ _ _ h0 h1, ?_⟩
        show [Value.pointer _] = [Value.pointer _]
        rw [addr_add', hg, hz]
        simp [offs]
      ·cases h
     ·rename_i tt e l hlk
      split at h
      ·rename_i hz
       simp only [Option.some.injEq, Prod.mk.injEq] at h
       obtain ⟨rfl, rfl⟩ := h
       obtain ⟨h0, h1⟩ := hC
       obtain ⟨e1, _⟩ := (show [u] = [G.rowv r] ∧ _ from hu)
       obtain rfl : u = G.rowv r := by simpa using e1
       have hb := hm.blk r
       rw [hlk] at hb
       obtain ⟨ha, c1, c2, hrow, _⟩ := hb
       rcases hrow with ⟨hn, _, _⟩ | ⟨g, pre, cap, rest, hval, hcap, _, ho, _⟩
       ·simp only [lstN] at hn; omega
       ·have hg := ha g _ _ cap hval hcap
        rw [hval]
        refine ⟨_, hrun _ _ _ h0 (by simpa [lstN] using h1), ?_⟩
        show [Value.pointer _] = [Value.pointer _]
        rw [addr_add', hg, hz]
        simp [offs]
      ·cases h
     ·rename_i tt e l z c0 hlk
      split at h
      ·rename_i hz
       simp only [Option.some.injEq, Prod.mk.injEq] at h
       obtain ⟨rfl, rfl⟩ := h
       obtain ⟨h0, h1⟩ := hC
       obtain ⟨e1, _⟩ := (show [u] = [G.rowv r] ∧ _ from hu)
       obtain rfl : u = G.rowv r := by simpa using e1
       have hb := hm.blk r
       rw [hlk] at hb
       obtain ⟨ha, c1, c2, hrow, _⟩ := hb
       have hN : lstN (some (z, c0)) = 1 := by rw [h0]; rfl
       rw [hN] at hrow
       rcases hrow with ⟨hn, _, _⟩ | ⟨g, pre, cap, rest, hval, hcap, _, ho, _⟩
       ·omega
       ·have hg := ha g _ _ cap hval hcap
        rw [hval]
        refine ⟨_, hrun _ _ _ (by omega) (by omega), ?_⟩
        show [Value.pointer _] = [Value.pointer _]
        rw [addr_add', hg, hz]
        simp [offs]
      ·cases h
     ·cases h
    ·cases h
   ·cases h
  ·rename_i n el hut
   split at h
   ·rename_i inf hinf
    have hrun : ∀ ad, 0 ≤ i → i < (n : Int) → (Instr.indexAt t (.pointer (some ad)) (.int k i)).run P w = .ok (.pointer (some (ad.add (i.toNat * inf.size)))) w := by
     intro ad h0 h1
     simp only [Instr.indexAt, asIntOf, Sem.run_bind, Sem.run_pure, Result.andThen_ok, run_underlying hut, Instr.sureAddr]
     rw [if_pos ⟨h0, h1⟩]
     simp only [Sem.run_bind, Sem.run_pure, Result.andThen_ok, run_sz hinf]
    split at h
    ·rename_i b q
     simp only [Option.some.injEq, Prod.mk.injEq] at h
     obtain ⟨rfl, rfl⟩ := h
     obtain ⟨h0, h1⟩ := hC
     rw [val_ptr hu]
     refine ⟨_, hrun _ h0 h1, ?_⟩
     show [Value.pointer _] = [Value.pointer _]
     rw [addr_add', offs_append, Nat.add_assoc]
     rfl
    ·rename_i m e l
     split at h
     ·rename_i hz
      obtain ⟨hz, rfl⟩ := hz
      simp only [Option.some.injEq, Prod.mk.injEq] at h
      obtain ⟨rfl, rfl⟩ := h
      obtain ⟨h0, h1⟩ := hC
      obtain ⟨b, off, cells, rfl, hf, hb, hc, hat⟩ := val_pv hu
      obtain ⟨hlen, hcat⟩ := hc
      obtain ⟨c2, h2, h3⟩ := cat_at (k := i.toNat) hcat (by omega) hat
      refine ⟨_, hrun _ h0 h1, ?_⟩
      rw [addr_add', hz]
      exact mk_pv hf hb ((CellsR.av e _ _).2 h2) h3
     ·cases h
    ·cases h
   ·cases h
  ·cases h
 ·cases h
def chkCat {α : Type} (f : α → List Value → Bool) (k : Nat) : List α → List Value → Bool
 | [], cs => cs.isEmpty
 | x :: l, cs => f x (cs.take k) && chkCat f k l (cs.drop k)
def isInt (k : IntKind) (n : Int) : List Value → Bool
 | [.int k' m] => k == k' && n == m
 | _ => false
def isBool (b : Bool) : List Value → Bool
 | [.bool c] => b == c
 | _ => false
def isStr0 : List Value → Bool
 | [.string s] => s.data.size == 0
 | _ => false
def isNilS : List Value → Bool
 | [.slice none 0 0] => true
 | _ => false
def isNilP : List Value → Bool
 | [.pointer none] => true
 | _ => false
theorem isInt_ok {k : IntKind} {n : Int} {cs : List Value} (h : isInt k n cs = true) : cs = [.int k n] := by
 unfold isInt at h
 split at h
 ·simp at h; obtain ⟨rfl, rfl⟩ := h; rfl
 ·cases h
theorem isBool_ok {b : Bool} {cs : List Value} (h : isBool b cs = true) : cs = [.bool b] := by
 unfold isBool at h
 split at h
 ·simp at h; subst h; rfl
 ·cases h
theorem isStr0_ok {cs : List Value} (h : isStr0 cs = true) : cs = [.string ⟨([] : List UInt8).toArray⟩] := by
 unfold isStr0 at h
 split at h
 ·rename_i s
  have : s.data = #[] := Array.eq_empty_of_size_eq_zero (by simpa using h)
  cases s; simp only at this; subst this; rfl
 ·cases h
theorem isNilS_ok {cs : List Value} (h : isNilS cs = true) : cs = [.slice none 0 0] := by
 unfold isNilS at h
 split at h
 ·rfl
 ·cases h
theorem isNilP_ok {cs : List Value} (h : isNilP cs = true) : cs = [.pointer none] := by
 unfold isNilP at h
 split at h
 ·rfl
 ·cases h
def Sh.chk : (s : Sh) → s.T → List Value → Bool
 | .int k, x, cs => isInt k x cs
 | .bool, x, cs => isBool x cs
 | .str, x, cs => x.isEmpty && isStr0 cs
 | .unit, _, cs => cs.isEmpty
 | .pair a b, x, cs => a.chk x.1 (cs.take a.size) && b.chk x.2 (cs.drop a.size)
 | .st a, x, cs => a.chk x cs
 | .arr n a, x, cs => x.length == n && chkCat (a.chk) a.size x cs
 | .sl a, x, cs => x.isEmpty && isNilS cs
theorem Sh.chk_ok {w : World} {fz : Nat → Prop} : ∀ (s : Sh) (x : s.T) (cs : List Value), s.chk x cs = true → ShR w fz s x cs
 | .int k, x, cs, h => isInt_ok h
 | .bool, x, cs, h => isBool_ok h
 | .str, x, cs, h => by
  simp only [Sh.chk, Bool.and_eq_true, List.isEmpty_iff] at h
  obtain ⟨rfl, h2⟩ := h
  exact isStr0_ok h2
 | .unit, _, cs, h => by simpa [Sh.chk, ShR] using h
 | .pair a b, x, cs, h => by
  simp only [Sh.chk, Bool.and_eq_true] at h
  exact ⟨cs.take a.size, cs.drop a.size, by simp, Sh.chk_ok a _ _ h.1, Sh.chk_ok b _ _ h.2⟩
 | .st a, x, cs, h => Sh.chk_ok a x cs h
 | .arr n a, x, cs, h => by
  simp only [Sh.chk, Bool.and_eq_true, beq_iff_eq] at h
  refine ⟨h.1, ?_⟩
  have main : ∀ (l : List a.T) (cs : List Value), chkCat (a.chk) a.size l cs = true → CatR (ShR w fz a) l cs := by
   intro l
   induction l with
   | nil => intro cs h; simpa [chkCat, CatR] using h
   | cons y l ih =>
    intro cs h
    simp only [chkCat, Bool.and_eq_true] at h
    exact ⟨_, _, (List.take_append_drop a.size cs).symm, Sh.chk_ok a _ _ h.1, ih _ h.2⟩
  exact main x cs h.2
 | .sl a, x, cs, h => by
  simp only [Sh.chk, Bool.and_eq_true, List.isEmpty_iff] at h
  obtain ⟨rfl, h2⟩ := h
  exact ⟨none, 0, isNilS_ok h2, Nat.le_refl _, Nat.zero_le _, fun h0 => absurd h0 (by simp)⟩
def isOne : List Value → Bool
 | [v] => v.oneCell'
 | _ => false
theorem isOne_ok {cs : List Value} (h : isOne cs = true) : ∃ v, cs = [v] ∧ v.oneCell' = true := by
 unfold isOne at h
 split at h
 ·exact ⟨_, rfl, h⟩
 ·cases h
def isNilI' : List Value → Bool
 | [.nilIface] => true
 | _ => false
theorem isNilI'_ok {cs : List Value} (h : isNilI' cs = true) : cs = [.nilIface] := by
 unfold isNilI' at h
 split at h
 ·rfl
 ·cases h
def AV.chk : AV → List Value → Bool
 | .int k n, cs => isInt k n cs
 | .bool b, cs => isBool b cs
 | .str s, cs => s.isEmpty && isStr0 cs
 | .nil, cs => cs.isEmpty
 | .cons a b, cs => a.chk (cs.take a.size) && b.chk (cs.drop a.size)
 | .st a, cs => a.chk cs
 | .arr n e l, cs => (Sh.arr n e).chk l cs
 | .nilS, cs => isNilS cs
 | .nilP, cs => isNilP cs
 | .unk, cs => isOne cs
 | .opq false, cs => isNilI' cs
 | _, _ => false
theorem AV.chk_ok {w : World} {G : Gh} : ∀ (a : AV) (cs : List Value), a.chk cs = true → CellsR w G a cs
 | .int k n, cs, h => isInt_ok h
 | .bool b, cs, h => isBool_ok h
 | .str s, cs, h => by
  simp only [AV.chk, Bool.and_eq_true, List.isEmpty_iff] at h
  obtain ⟨rfl, h2⟩ := h
  exact isStr0_ok h2
 | .nil, cs, h => by simpa [AV.chk, CellsR] using h
 | .cons a b, cs, h => by
  simp only [AV.chk, Bool.and_eq_true] at h
  exact ⟨cs.take a.size, cs.drop a.size, by simp, AV.chk_ok a _ h.1, AV.chk_ok b _ h.2⟩
 | .st a, cs, h => AV.chk_ok a cs h
 | .arr n e l, cs, h => Sh.chk_ok (.arr n e) l cs h
 | .nilS, cs, h => isNilS_ok h
 | .nilP, cs, h => isNilP_ok h
 | .unk, cs, h => isOne_ok h
 | .opq false, cs, h => ⟨fun hh => (nomatch hh), fun _ => isNilI'_ok h⟩
def pairSh (f : TypeId → Option Sh) : List TypeId → Option Sh
 | [] => some .unit
 | [t] => f t
 | t :: l =>
  match f t, pairSh f l with
  | some a, some b => some (.pair a b)
  | _, _ => none
def shOf (P : Program) : Nat → TypeId → Option Sh
 | 0, _ => none
 | n + 1, t =>
  match P.underlying t with
  | some (.int k) => some (.int k)
  | some .bool => some .bool
  | some .string => some .str
  | some (.slice e) => (shOf P n e).map .sl
  | some (.array m e) => (shOf P n e).map (.arr m)
  | some (.struct fs) => (pairSh (shOf P n) (fs.toList.map (·.type))).map .st
  | _ => none
def consAV (f : TypeId → AV) : List TypeId → AV
 | [] => .nil
 | [t] => f t
 | t :: l => .cons (f t) (consAV f l)
def zav (P : Program) : Nat → TypeId → AV
 | 0, _ => .unk
 | n + 1, t =>
  match P.underlying t with
  | some (.int k) => .int k 0
  | some .bool => .bool false
  | some .string => .str []
  | some (.slice _) => .nilS
  | some (.array m e) =>
   match shOf P n e with
   | some s => .arr m s (List.replicate m s.dflt)
   | none => .unk
  | some (.struct fs) => .st (consAV (zav P n) (fs.toList.map (·.type)))
  | some (.pointer _) => .nilP
  | some (.interface _) => .opq false
  | _ => .unk
def Gh.put (G : Gh) (b : Nat) (ad : Addr) (v : Value) : Gh := ⟨fun i => if i = b then ad else G.addr i, fun i => if i = b then v else G.rowv i, G.fz⟩
theorem Gh.put_agree (G : Gh) (b : Nat) (ad : Addr) (v : Value) (i : Nat) (h : i ≠ b) : Agree G (G.put b ad v) i := ⟨by simp [Gh.put, h], by simp [Gh.put, h]⟩
theorem alloc_new (w : World) (o : Obj) : (w.alloc o).heap[w.heap.size]? = some o := heap_alloc_new w o
theorem newBox {w : World} {G : Gh} {base : Nat} {t : TypeId} {c : AV} {cs : Array Value} (hc : CellsR w G c cs.toList) (hr : ∀ r ∈ c.refs, r < base) (hfz : ∀ b, G.fz b → b < w.heap.size) :
  NewR w (w.alloc (.cells cs t)) G (G.put base ⟨w.heap.size, 0, none⟩ undef) base [.box t c] := by
 have hb : Below w.heap.size w (w.alloc (.cells cs t)) := (Below.refl _ _).alloc (Nat.le_refl _) _
 have hsz : (w.alloc (.cells cs t)).heap.size = w.heap.size + 1 := by simp
 have hl0 : ∀ (j x : Nat), (lk [Blk.box t c] j).live (G.put base ⟨w.heap.size, 0, none⟩ undef) (base + j) = some x → j = 0 ∧ x = w.heap.size := by
  intro j x h
  cases j with
  | zero => simp [lk, Blk.live, Gh.put] at h; exact ⟨rfl, h.symm⟩
  | succ j => simp [lk, Blk.live] at h
 refine ⟨hb, fun i hi => Gh.put_agree _ _ _ _ _ (by simp at hi; omega), fun _ h => h, fun _ h => .inl h, fun j => ?_, fun j k x hjk h1 h2 => ?_, fun j x h => ?_⟩
 ·cases j with
  | zero =>
   refine ⟨by simp [Gh.put], cs.toList, ?_, ?_⟩
   ·refine ⟨(0, 0), ?_, .inl rfl⟩
    simp only [Gh.put, Nat.add_zero, if_true, List.append_nil]
    rw [alloc_new]
   ·exact CellsR.keep (G := G) (G' := G.put base ⟨w.heap.size, 0, none⟩ undef) ⟨hb.size, fun b h hlt => hb.block b hlt, fun _ h => h⟩ c _ (fun r hr' => Gh.put_agree G base _ _ r (by have := hr r hr'; omega)) hc
  | succ j => simp [lk, BlkR]
 ·have := hl0 j x h1; have := hl0 k x h2; omega
 ·obtain ⟨_, rfl⟩ := hl0 j x h
  exact ⟨Nat.le_refl _, by omega, fun hf => by have := hfz _ hf; omega⟩
theorem pureOp_box {P : Program} {o : Oper} {ts : List AV} {mem : List Blk} {base : Nat} {t : TypeId} {c : AV} {C : Prop}
  (h : ∀ (B : Nat) (w : World) (G : Gh) (a : Act), C → MemR B w G mem → TmpsR w G ts a → ∃ cs : Array Value, (execOp a.eval o).run P w = .ok (.value (.pointer (some ⟨w.heap.size, 0, none⟩))) (w.alloc (.cells cs t)) ∧ CellsR w G c cs.toList)
  (hr : ∀ r ∈ c.refs, (∃ t, r ∈ (ts.getD t .unk).refs)) : PureOp P o ts mem base (.ptr base []) [.box t c] C := by
 intro B w G a hC hm ht hrt hrm next Q hn
 obtain ⟨cs, hrun, hc⟩ := h B w G a hC hm ht
 unfold Oper.wp
 rw [hrun]
 refine hn _ _ _ (newBox hc (fun r hr' => by obtain ⟨t, h⟩ := hr r hr'; exact hrt t r h) hm.fz) ?_
 show [Value.pointer _] = [Value.pointer _]
 simp [Gh.put, offs]
def evAlloc (P : Program) (t : TypeId) : Option AV :=
 match P.info? t with
 | some i =>
  match i.zero with
  | some z => if (zav P 12 t).chk z.cells.toList then some (zav P 12 t) else none
  | none => none
 | none => none
theorem chk_refs : ∀ (a : AV) (cs : List Value), a.chk cs = true → a.refs = []
 | .int .., _, _ | .bool .., _, _ | .str .., _, _ | .nil, _, _ | .arr .., _, _ | .nilS, _, _ | .nilP, _, _ | .unk, _, _ | .opq false, _, _ => rfl
 | .cons a b, cs, h => by
  simp only [AV.chk, Bool.and_eq_true] at h
  simp [AV.refs, chk_refs a _ h.1, chk_refs b _ h.2]
 | .st a, cs, h => chk_refs a cs h
theorem run_zero {P : Program} {w : World} {t : TypeId} {i : TypeInfo} {z : Value} (h : P.info? t = some i) (hz : i.zero = some z) : (zeroValue t).run P w = .ok z w := by
 have h1 : (typeInfo t).run P w = .ok i w := by
  unfold typeInfo program
  simp only [Sem.run_bind]
  simp only [Sem.run, h, Result.andThen]
  rfl
 unfold zeroValue
 simp only [Sem.run_bind, h1, Result.andThen_ok, hz]
 rfl
theorem run_newVar' {P : Program} {w : World} (t : TypeId) (v : Value) : (newVar t v).run P w = .ok ⟨w.heap.size, 0, none⟩ (w.alloc (.cells v.cells t)) := by
 unfold newVar newRow newObj
 simp only [Sem.run_bind, Sem.run, Result.andThen]
 rfl
theorem evAlloc_ok {P : Program} {o : Oper} {ts : List AV} {mem : List Blk} {base : Nat} {t : TypeId} {c : AV} (ho : o.op = .alloc t) (h : evAlloc P t = some c) : PureOp P o ts mem base (.ptr base []) [.box t c] True := by
 unfold evAlloc at h
 split at h
 ·rename_i i hi
  split at h
  ·rename_i z hz
   split at h
   ·rename_i hchk
    simp only [Option.some.injEq] at h
    subst h
    refine pureOp_box (fun B w G a _ hm ht => ⟨z.cells, ?_, AV.chk_ok _ _ hchk⟩) (fun r hr => by rw [chk_refs _ _ hchk] at hr; cases hr)
    simp only [execOp, ho, Instr.alloc, Sem.run_bind, run_zero hi hz, Result.andThen_ok, run_newVar', Sem.run_pure]
   ·cases h
  ·cases h
 ·cases h
def evBox (ts : List AV) (x : Operand) : Option AV :=
 match ev ts x with
 | some c => if c.flat || c.agg then some c else none
 | none => none
theorem flagg_tup {a : AV} (h : (a.flat || a.agg) = true) : ∀ b, a ≠ .tup b := by intro b e; subst e; cases h
theorem evBox_ok {P : Program} {o : Oper} {ts : List AV} {mem : List Blk} {base : Nat} {t : TypeId} {x : Operand} {c : AV} (ho : o.op = .box t x) (h : evBox ts x = some c) : PureOp P o ts mem base (.ptr base []) [.box t c] True := by
 unfold evBox at h
 split at h
 ·rename_i c0 hev
  split at h
  ·rename_i hf
   simp only [Option.some.injEq] at h
   subst h
   refine pureOp_box (fun B w G a _ hm ht => ⟨(a.eval x).cells, ?_, ValR0.cells ((ev_ok ht hev).to0 (flagg_tup hf)) hf⟩) (fun r hr => ev_refs hev hr)
   simp only [execOp, ho, Instr.box, Sem.run_bind, Result.andThen_ok, run_newVar', Sem.run_pure]
  ·cases h
 ·cases h
theorem part_ok {P : Program} {w : World} {G : Gh} {t : TypeId} {c : AV} {c1 c2 c3 : List Value} (hl : ldOk P t c = true) (hc : CellsR w G c c2) :
  ∃ v, (part t (c1 ++ c2 ++ c3).toArray c1.length).run P w = .ok v w ∧ ValR w G c v := by
 have hlen := CellsR.length c c2 hc
 have aggcase : ∀ i, (isAgg t).run P w = .ok true w → P.info? t = some i → i.size = c.size → c.agg = true → ∃ v, (part t (c1 ++ c2 ++ c3).toArray c1.length).run P w = .ok v w ∧ ValR w G c v := by
  intro i ha hi hz hg
  refine ⟨.agg c2.toArray, ?_, ValR_agg hg hc⟩
  simp only [part, Sem.run_bind, Result.andThen_ok, ha, if_true, run_sz hi, Sem.run_pure]
  rw [hz, ← hlen]
  congr 2
  apply Array.ext'
  simp
 have flatcase : (isAgg t).run P w = .ok false w → (c.flat = true ∨ c = .unk) → ∃ v, (part t (c1 ++ c2 ++ c3).toArray c1.length).run P w = .ok v w ∧ ValR w G c v := by
  intro ha hf
  have h1 : c2.length = 1 := by
   rcases hf with hf | hf
   ·rw [hlen, flat_size hf]
   ·subst hf; exact hlen
  obtain ⟨v, rfl⟩ := list_one h1
  refine ⟨v, ?_, ?_⟩
  ·simp only [part, Sem.run_bind, Result.andThen_ok, ha, Bool.false_eq_true, if_false]
   have e : (c1 ++ [v] ++ c3).toArray[c1.length]? = some v := by simp
   rw [e]
   rfl
  ·rcases hf with hf | hf
   ·exact ValR_flat hf hc
   ·subst hf; trivial
 unfold ldOk at hl
 cases hu : P.underlying t with
 | none => rw [hu] at hl; cases hl
 | some d =>
  rw [hu] at hl
  cases d with
  | struct fs =>
   simp only [Bool.and_eq_true] at hl
   obtain ⟨hg, hi⟩ := hl
   cases hin : P.info? t with
   | none => rw [hin] at hi; cases hi
   | some i =>
    rw [hin] at hi
    exact aggcase i (by unfold isAgg; simp only [Sem.run_bind, run_underlying hu, Result.andThen_ok]; rfl) hin (by simpa using hi) hg
  | array n e =>
   simp only [Bool.and_eq_true] at hl
   obtain ⟨hg, hi⟩ := hl
   cases hin : P.info? t with
   | none => rw [hin] at hi; cases hi
   | some i =>
    rw [hin] at hi
    exact aggcase i (by unfold isAgg; simp only [Sem.run_bind, run_underlying hu, Result.andThen_ok]; rfl) hin (by simpa using hi) hg
  | _ =>
   refine flatcase (by unfold isAgg; simp only [Sem.run_bind, run_underlying hu, Result.andThen_ok]; rfl) ?_
   simp only [Bool.or_eq_true] at hl
   rcases hl with hl | hl
   ·exact .inl hl
   ·right; cases c <;> first | rfl | cases hl
def evField (P : Program) (s : TypeId) (x : AV) (f : Nat) : Option AV :=
 match fldOf P s f, x with
 | some fd, .st c =>
  match AV.fldGet f fd.offset c with
  | some c' => if ldOk P fd.type c' then some c' else none
  | none => none
 | _, _ => none
theorem evField_ok {P : Program} {w : World} {G : Gh} {s : TypeId} {x c : AV} {f : Nat} {u : Value} (h : evField P s x f = some c) (hu : ValR w G x u) : ∃ r, (Instr.field s u f).run P w = .ok r w ∧ ValR w G c r := by
 unfold evField at h
 split at h
 ·rename_i fd c0 hfd
  unfold fldOf at hfd
  split at hfd
  ·rename_i fs hus
   split at h
   ·rename_i c' hg
    split at h
    ·rename_i hl
     simp only [Option.some.injEq] at h
     subst h
     obtain ⟨cs, rfl, hc⟩ := (show ∃ cs, u = .agg cs ∧ CellsR w G c0 cs.toList from hu)
     obtain ⟨c1, c2, c3, e, hlen, h2, _⟩ := fld_ok f fd.offset c0 c' cs.toList hg hc
     obtain ⟨v, hrun, hv⟩ := part_ok (P := P) (c1 := c1) (c3 := c3) hl h2
     refine ⟨v, ?_, hv⟩
     have e2 : cs = (c1 ++ c2 ++ c3).toArray := by apply Array.ext'; simpa using e
     simp only [Instr.field, Sem.run_bind, run_underlying hus, Result.andThen_ok, hfd, asAgg, Sem.run_pure]
     rw [e2, ← hlen]
     exact hrun
    ·cases h
   ·cases h
  ·cases hfd
 ·cases h
def evIndex (P : Program) (t : TypeId) (x ix : AV) : Option (AV × Prop) :=
 match P.underlying t, x, ix with
 | some (.array n el), .arr m e l, .int _ i =>
  match P.info? el with
  | some inf => if inf.size = e.size ∧ m = n ∧ ldOk P el (e.av (l.getD i.toNat e.dflt)) = true then some (e.av (l.getD i.toNat e.dflt), inR i n) else none
  | none => none
 | some .string, .str s, .int _ i => some (.int .u8 (s.getD i.toNat 0).toNat, inR i s.length)
 | _, _, _ => none
theorem evIndex_ok {P : Program} {w : World} {G : Gh} {t : TypeId} {x ix c : AV} {C : Prop} {u v : Value} (h : evIndex P t x ix = some (c, C)) (hC : C) (hu : ValR w G x u) (hv : ValR w G ix v) : ∃ r, (Instr.index t u v).run P w = .ok r w ∧ ValR w G c r := by
 unfold evIndex at h
 split at h
 ·rename_i n el m e l k i hut
  split at h
  ·rename_i inf hinf
   split at h
   ·rename_i hz
    obtain ⟨hz, rfl, hl⟩ := hz
    simp only [Option.some.injEq, Prod.mk.injEq] at h
    obtain ⟨rfl, rfl⟩ := h
    obtain ⟨h0, h1⟩ := hC
    rw [val_int hv]
    obtain ⟨cs, rfl, hlen, hcat⟩ := (show ∃ cs, u = .agg cs ∧ ShR w G.fz (.arr m e) l cs.toList from hu)
    obtain ⟨c1, c2, c3, e1, hl1, h2, _⟩ := CatR.at (fun x c hx => ShR.length e x c hx) hcat (getD_some (d := e.dflt) (show i.toNat < l.length by omega))
    obtain ⟨r, hrun, hr⟩ := part_ok (P := P) (c1 := c1) (c3 := c3) hl ((CellsR.av e _ _).2 h2)
    refine ⟨r, ?_, hr⟩
    have e2 : cs = (c1 ++ c2 ++ c3).toArray := by apply Array.ext'; simpa using e1
    simp only [Instr.index, asIntOf, Sem.run_bind, Sem.run_pure, Result.andThen_ok, run_underlying hut]
    rw [if_pos ⟨h0, h1⟩]
    simp only [Sem.run_bind, run_sz hinf, Result.andThen_ok]
    rw [e2, hz, ← hl1]
    exact hrun
   ·cases h
  ·cases h
 ·rename_i s k i hut
  simp only [Option.some.injEq, Prod.mk.injEq] at h
  obtain ⟨rfl, rfl⟩ := h
  obtain ⟨h0, h1⟩ := hC
  rw [val_int hv, val_str hu]
  refine ⟨.int .u8 (s.getD i.toNat 0).toNat, ?_, rfl⟩
  have hlt : i.toNat < s.length := by omega
  have e1 : (⟨s.toArray⟩ : ByteArray)[i.toNat]? = some (s.getD i.toNat 0) := by
   have hlt2 : i.toNat < (⟨s.toArray⟩ : ByteArray).size := by rw [str_size]; exact hlt
   rw [getElem?_pos (⟨s.toArray⟩ : ByteArray) i.toNat hlt2]
   congr 1
   rw [List.getD_eq_getElem?_getD, List.getElem?_eq_getElem hlt]
   rfl
  simp only [Instr.index, asIntOf, Sem.run_bind, Sem.run_pure, Result.andThen_ok, run_underlying hut]
  rw [if_pos h0, e1]
  rfl
 ·cases h
def nthAV : Nat → AV → Option AV
 | 0, .cons a _ => some a
 | n + 1, .cons _ b => nthAV n b
 | _, _ => none
theorem nth_ok {w : World} {G : Gh} : ∀ (n : Nat) (a c : AV) (vs : List Value), nthAV n a = some c → ValsR w G a vs → ∃ v, vs[n]? = some v ∧ ValR0 w G c v
 | 0, .cons a b, c, vs, h, ⟨v, t, e, h1, _⟩ => by
  simp only [nthAV, Option.some.injEq] at h; subst h; subst e
  exact ⟨v, rfl, h1⟩
 | n + 1, .cons a b, c, vs, h, ⟨v, t, e, _, h2⟩ => by
  subst e
  obtain ⟨u, h3, h4⟩ := nth_ok n b c t h h2
  exact ⟨u, by simpa using h3, h4⟩
def evExtract (x : AV) (i : Nat) : Option AV :=
 match x with
 | .tup a =>
  match nthAV i a with
  | some (.tup _) => none
  | r => r
 | _ => none
theorem evExtract_ok {P : Program} {w : World} {G : Gh} {x c : AV} {i : Nat} {u : Value} (h : evExtract x i = some c) (hu : ValR w G x u) : ∃ r, (Instr.extract u i).run P w = .ok r w ∧ ValR w G c r := by
 unfold evExtract at h
 split at h
 ·rename_i a
  obtain ⟨vs, rfl, hvs⟩ := (show ∃ vs, u = .tuple vs ∧ ValsR w G a vs.toList from hu)
  split at h
  ·cases h
  ·rename_i hne
   obtain ⟨v, h1, h2⟩ := nth_ok i a c vs.toList h hvs
   refine ⟨v, ?_, ValR.of0 h2 (fun b e => ?_)⟩
   ·have : vs[i]? = some v := by simpa using h1
    simp only [Instr.extract, this]
    rfl
   ·subst e; exact hne _ h
 ·cases h
def evLen (P : Program) (mem : List Blk) (t : TypeId) (x : AV) : Option AV :=
 match P.underlying t, x with
 | some .string, .str s => some (.int .i64 s.length)
 | some (.slice _), .sl _ l => some (.int .i64 l.length)
 | some (.slice _), .nilS => some (.int .i64 0)
 | some (.slice _), .emp => some (.int .i64 0)
 | some (.slice _), .row r =>
  match lk mem r with
  | .row _ _ l => some (.int .i64 l.length)
  | .rowl _ _ l none => some (.int .i64 l.length)
  | .rowl _ _ l (some (z, _)) => some (.int .i64 (((l.length + cond z 1 0 : Nat)) : Int))
  | _ => none
 | some (.array n _), _ => some (.int .i64 n)
 | _, _ => none
theorem evLen_ok {P : Program} {B : Nat} {w : World} {G : Gh} {mem : List Blk} {t ty : TypeId} {x c : AV} {u : Value} (h : evLen P mem t x = some c) (hm : MemR B w G mem) (hu : ValR w G x u) : ∃ r, (Builtin.len_ #[t] ty #[u]).run P w = .ok r w ∧ ValR w G c r := by
 unfold evLen at h
 split at h <;> try simp only [Option.some.injEq] at h
 ·rename_i s hut
  subst h
  rw [val_str hu]
  refine ⟨.int .i64 s.length, ?_, rfl⟩
  simp [Builtin.len_, run_underlying hut, goInt, str_size]
 ·rename_i el e l hut
  subst h
  obtain ⟨ad, cap, e1, _⟩ := (show ShR w G.fz (.sl e) l [u] from hu)
  obtain rfl : u = .slice ad l.length cap := by simpa using e1
  refine ⟨.int .i64 l.length, ?_, rfl⟩
  simp [Builtin.len_, run_underlying hut, goInt]
 ·rename_i el hut
  subst h
  obtain rfl : u = .slice none 0 0 := by have : [u] = [Value.slice none 0 0] := hu; simpa using this
  exact ⟨.int .i64 0, by simp [Builtin.len_, run_underlying hut, goInt], rfl⟩
 ·rename_i el hut
  subst h
  obtain ⟨ad, e1⟩ := (show ∃ a, [u] = [Value.slice a 0 0] from hu)
  obtain rfl : u = .slice ad 0 0 := by simpa using e1
  exact ⟨.int .i64 0, by simp [Builtin.len_, run_underlying hut, goInt], rfl⟩
 ·rename_i el r hut
  split at h
  ·rename_i tt e l hlk
   simp only [Option.some.injEq] at h
   subst h
   obtain ⟨e1, _⟩ := (show [u] = [G.rowv r] ∧ _ from hu)
   obtain rfl : u = G.rowv r := by simpa using e1
   have hb := hm.blk r
   rw [hlk] at hb
   obtain ⟨_, cs, hrow, _⟩ := hb
   obtain ⟨ad, cap, hv, _⟩ := hrow.slice
   rw [hv]
   exact ⟨.int .i64 l.length, by simp [Builtin.len_, run_underlying hut, goInt], rfl⟩
  ·rename_i tt e l hlk
   simp only [Option.some.injEq] at h
   subst h
   obtain ⟨e1, _⟩ := (show [u] = [G.rowv r] ∧ _ from hu)
   obtain rfl : u = G.rowv r := by simpa using e1
   have hb := hm.blk r
   rw [hlk] at hb
   obtain ⟨_, c1, c2, hrow, _⟩ := hb
   obtain ⟨ad, cap, hv, _⟩ := hrow.slice
   rw [hv]
   exact ⟨.int .i64 l.length, by simp [Builtin.len_, run_underlying hut, goInt, lstN], rfl⟩
  ·rename_i tt e l z c hlk
   simp only [Option.some.injEq] at h
   subst h
   obtain ⟨e1, _⟩ := (show [u] = [G.rowv r] ∧ _ from hu)
   obtain rfl : u = G.rowv r := by simpa using e1
   have hb := hm.blk r
   rw [hlk] at hb
   obtain ⟨_, c1, c2, hrow, _⟩ := hb
   obtain ⟨ad, cap, hv, _⟩ := hrow.slice
   rw [hv]
   exact ⟨.int .i64 ((l.length + cond z 1 0 : Nat) : Int), by simp [Builtin.len_, run_underlying hut, goInt, lstN], rfl⟩
  ·cases h
 ·rename_i _ n el hut
  subst h
  exact ⟨.int .i64 n, by simp [Builtin.len_, run_underlying hut, goInt], rfl⟩
 ·cases h
def Sh.beq : (s : Sh) → s.T → s.T → Bool
 | .int _, x, y => (x == y : Bool)
 | .bool, x, y => (x == y : Bool)
 | .str, x, y => (x == y : Bool)
 | .unit, _, _ => true
 | .pair a b, x, y => a.beq x.1 y.1 && b.beq x.2 y.2
 | .st a, x, y => a.beq x y
 | .arr n a, x, y => (List.range n).all fun i => a.beq (x.getD i a.dflt) (y.getD i a.dflt)
 | .sl _, _, _ => true
theorem Sh.beq_self : ∀ (s : Sh) (x : s.T), s.beq x x = true
 | .int _, x => by simp [Sh.beq]
 | .bool, x => by simp [Sh.beq]
 | .str, x => by simp [Sh.beq]
 | .unit, _ => rfl
 | .pair a b, x => by simp [Sh.beq, Sh.beq_self a, Sh.beq_self b]
 | .st a, x => Sh.beq_self a x
 | .arr n a, x => by simp only [Sh.beq, List.all_eq_true]; intro i _; exact Sh.beq_self a _
 | .sl _, _ => rfl
mutual
def eqTy (P : Program) : Nat → TypeId → Sh → Bool
 | 0, _, _ => false
 | n + 1, t, .int k => (match P.underlying t with | some (.int q) => q == k | _ => false)
 | n + 1, t, .bool => (match P.underlying t with | some .bool => true | _ => false)
 | n + 1, t, .str => (match P.underlying t with | some .string => true | _ => false)
 | n + 1, t, .arr m a => (match P.underlying t with | some (.array q e) => q == m && (eqTy P n e a && ((match P.info? e with | some i => i.size == a.size | none => false) && (match P.info? t with | some i => i.size == m * a.size | none => false))) | _ => false)
 | n + 1, t, .st a => (match P.underlying t with | some (.struct fs) => !P.stoodInHeld t && (eqFs P n fs.toList a 0 && (match P.info? t with | some i => i.size == a.size | none => false)) | _ => false)
 | _ + 1, _, _ => false
def eqFs (P : Program) : Nat → List Field → Sh → Nat → Bool
 | 0, _, _, _ => false
 | n + 1, [], .unit, _ => true
 | n + 1, [f], s, off => f.name != "_" && (f.offset == off && eqTy P n f.type s)
 | n + 1, f :: g :: l, .pair a b, off => f.name != "_" && (f.offset == off && (eqTy P n f.type a && eqFs P n (g :: l) b (off + a.size)))
 | _, _, _, _ => false
end
theorem eqTy_ld {P : Program} {n : Nat} {t : TypeId} {s : Sh} (x : s.T) (h : eqTy P n t s = true) : ldOk P t (s.av x) = true := by
 cases n with
 | zero => cases s <;> simp [eqTy] at h
 | succ n =>
  cases s with
  | int k =>
   simp only [eqTy] at h
   split at h
   ·rename_i q hu
    simp [ldOk, hu, Sh.av, AV.flat]
   ·cases h
  | bool =>
   simp only [eqTy] at h
   split at h
   ·rename_i hu
    simp [ldOk, hu, Sh.av, AV.flat]
   ·cases h
  | str =>
   simp only [eqTy] at h
   split at h
   ·rename_i hu
    simp [ldOk, hu, Sh.av, AV.flat]
   ·cases h
  | st a =>
   simp only [eqTy] at h
   split at h
   ·rename_i fs hu
    simp only [Bool.and_eq_true] at h
    simp only [ldOk, hu, Sh.av, AV.agg, AV.size, Sh.av_size, Bool.true_and]
    exact h.2.2
   ·cases h
  | arr m a =>
   simp only [eqTy] at h
   split at h
   ·rename_i q e hu
    simp only [Bool.and_eq_true] at h
    simp only [ldOk, hu, Sh.av, AV.agg, AV.size, Bool.true_and]
    exact h.2.2.2
   ·cases h
  | _ => simp [eqTy] at h
theorem part_sh {P : Program} {w : World} {G : Gh} {n : Nat} {t : TypeId} {s : Sh} {x : s.T} {c2 : List Value} (c1 c3 : List Value) (h : eqTy P n t s = true) (hc : ShR w G.fz s x c2) :
  ∃ v, (part t (c1 ++ c2 ++ c3).toArray c1.length).run P w = .ok v w ∧ ValR w G (s.av x) v :=
 part_ok (eqTy_ld x h) ((CellsR.av s x c2).2 hc)
theorem eqi_ok {P : Program} {w : World} {G : Gh} : ∀ (n : Nat) (e : TypeId) (a : Sh) (x y : List a.T) (cs ds : Array Value) (d : Nat), eqTy P n e a = true → (∀ (x y : a.T) (u v : Value), ValR w G (a.av x) u → ValR w G (a.av y) v → (Op.equalIn (d + n) e u v).run P w = .ok (a.beq x y) w) → CatR (ShR w G.fz a) x cs.toList → CatR (ShR w G.fz a) y ds.toList →
  ∀ (q : Nat), x.length = q → y.length = q → ∀ is : List Nat, (∀ i ∈ is, i < q) → (Op.eqItems (d + n) e a.size cs ds is).run P w = .ok (is.all fun i => a.beq (x.getD i a.dflt) (y.getD i a.dflt)) w
 | n, e, a, x, y, cs, ds, d, he, IH, hx, hy, q, hlx, hly, [], _ => by simp [Op.eqItems]
 | n, e, a, x, y, cs, ds, d, he, IH, hx, hy, q, hlx, hly, i :: is, hall => by
  have hi : i < q := hall i (by simp)
  have e1 : x[i]? = some (x.getD i a.dflt) := getD_some (by omega)
  have e2 : y[i]? = some (y.getD i a.dflt) := getD_some (by omega)
  obtain ⟨a1, c1, b1, f1, g1, h1, -, -⟩ := CatR.at (fun z c hz => ShR.length a z c hz) hx e1
  obtain ⟨a2, c2, b2, f2, g2, h2, -, -⟩ := CatR.at (fun z c hz => ShR.length a z c hz) hy e2
  obtain ⟨v1, p1, r1⟩ := part_sh (P := P) (G := G) a1 b1 he h1
  obtain ⟨v2, p2, r2⟩ := part_sh (P := P) (G := G) a2 b2 he h2
  rw [← f1, g1] at p1
  rw [← f2, g2] at p2
  have ih := IH _ _ v1 v2 r1 r2
  have ih2 := eqi_ok n e a x y cs ds d he IH hx hy q hlx hly is (fun j hj => hall j (by simp [hj]))
  simp only [Op.eqItems, Sem.run_bind, p1, p2, ih, Result.andThen_ok, List.all_cons]
  cases a.beq (x.getD i a.dflt) (y.getD i a.dflt)
  ·simp
  ·simpa using ih2
mutual
theorem eq_ok {P : Program} {w : World} {G : Gh} : ∀ (n : Nat) (t : TypeId) (s : Sh) (x y : s.T) (u v : Value) (d : Nat), eqTy P n t s = true → ValR w G (s.av x) u → ValR w G (s.av y) v → (Op.equalIn (d + n) t u v).run P w = .ok (s.beq x y) w
 | 0, t, s, x, y, u, v, d, h, hx, hy => by cases s <;> simp [eqTy] at h
 | n + 1, t, .int k, x, y, u, v, d, h, hx, hy => by
  simp only [eqTy] at h
  split at h
  ·rename_i q hu
   obtain rfl : u = .int k x := by simpa using (show [u] = [Value.int k x] from hx)
   obtain rfl : v = .int k y := by simpa using (show [v] = [Value.int k y] from hy)
   rw [show d + (n + 1) = (d + n) + 1 from rfl, run_equalIn_int w (d + n) t k q x y hu]; rfl
  ·cases h
 | n + 1, t, .bool, x, y, u, v, d, h, hx, hy => by
  simp only [eqTy] at h
  split at h
  ·rename_i hu
   obtain rfl : u = .bool x := by simpa using (show [u] = [Value.bool x] from hx)
   obtain rfl : v = .bool y := by simpa using (show [v] = [Value.bool y] from hy)
   rw [show d + (n + 1) = (d + n) + 1 from rfl, run_equalIn_bool' w (d + n) t x y hu]; rfl
  ·cases h
 | n + 1, t, .str, x, y, u, v, d, h, hx, hy => by
  simp only [eqTy] at h
  split at h
  ·rename_i hu
   obtain rfl : u = .string ⟨List.toArray x⟩ := by simpa using (show [u] = [Value.string ⟨List.toArray x⟩] from hx)
   obtain rfl : v = .string ⟨List.toArray y⟩ := by simpa using (show [v] = [Value.string ⟨List.toArray y⟩] from hy)
   rw [show d + (n + 1) = (d + n) + 1 from rfl, run_equalIn_string w (d + n) t _ _ hu, ByteArray.toList_eq, ByteArray.toList_eq]; rfl
  ·cases h
 | n + 1, t, .st a, x, y, u, v, d, h, hx, hy => by
  simp only [eqTy] at h
  split at h
  ·rename_i fs hu
   simp only [Bool.and_eq_true, Bool.not_eq_true'] at h
   obtain ⟨hp, hf, hi⟩ := h
   obtain ⟨cs, rfl, hcx⟩ := hx
   obtain ⟨ds, rfl, hcy⟩ := hy
   have hfo : P.fieldsOf t = fs := by simp only [Program.fieldsOf, hu]
   rw [show d + (n + 1) = (d + n) + 1 from rfl, run_equalIn_struct w (d + n) t cs ds (by rw [hfo]; exact hu) hp, hfo]
   have := eqf_ok n fs.toList a 0 x y [] cs.toList [] ds.toList d hf rfl rfl ((CellsR.av a x _).1 hcx) ((CellsR.av a y _).1 hcy)
   simpa [Sh.beq] using this
  ·cases h
 | n + 1, t, .arr m a, x, y, u, v, d, h, hx, hy => by
  simp only [eqTy] at h
  split at h
  ·rename_i q e hu
   simp only [Bool.and_eq_true, beq_iff_eq] at h
   obtain ⟨rfl, he, hi, -⟩ := h
   obtain ⟨cs, rfl, hlx, hcx⟩ := hx
   obtain ⟨ds, rfl, hly, hcy⟩ := hy
   cases hin : P.info? e with
   | none => rw [hin] at hi; cases hi
   | some i =>
    rw [hin] at hi
    have hz : P.cellsOf e = a.size := by simp only [Program.cellsOf, hin]; simpa using hi
    rw [show d + (n + 1) = (d + n) + 1 from rfl, run_equalIn_array w (d + n) cs ds hu hin, hz]
    exact eqi_ok n e a x y cs ds d he (fun x y u v hx hy => eq_ok n e a x y u v d he hx hy) hcx hcy q hlx hly (List.range q) (fun i hi => List.mem_range.1 hi)
  ·cases h
 | n + 1, t, .unit, x, y, u, v, d, h, hx, hy => by simp [eqTy] at h
 | n + 1, t, .pair a b, x, y, u, v, d, h, hx, hy => by simp [eqTy] at h
 | n + 1, t, .sl a, x, y, u, v, d, h, hx, hy => by simp [eqTy] at h
theorem eqf_ok {P : Program} {w : World} {G : Gh} : ∀ (n : Nat) (fs : List Field) (s : Sh) (off : Nat) (x y : s.T) (c1 cx c2 cy : List Value) (d : Nat), eqFs P n fs s off = true → c1.length = off → c2.length = off →
  ShR w G.fz s x cx → ShR w G.fz s y cy → (Op.eqFields (d + n) (c1 ++ cx).toArray (c2 ++ cy).toArray fs).run P w = .ok (s.beq x y) w
 | 0, fs, s, off, x, y, c1, cx, c2, cy, d, h, hl1, hl2, hx, hy => by simp [eqFs] at h
 | n + 1, [], s, off, x, y, c1, cx, c2, cy, d, h, hl1, hl2, hx, hy => by
  cases s <;> simp [eqFs] at h
  simp [Op.eqFields, Sh.beq]
 | n + 1, [f], s, off, x, y, c1, cx, c2, cy, d, h, hl1, hl2, hx, hy => by
  simp only [eqFs, Bool.and_eq_true, bne_iff_ne, ne_eq, beq_iff_eq] at h
  obtain ⟨hn, hoff, ht⟩ := h
  obtain ⟨v1, p1, r1⟩ := part_sh (P := P) (G := G) c1 [] ht hx
  obtain ⟨v2, p2, r2⟩ := part_sh (P := P) (G := G) c2 [] ht hy
  rw [List.append_nil, hl1, ← hoff] at p1
  rw [List.append_nil, hl2, ← hoff] at p2
  have ih := eq_ok n f.type s x y v1 v2 (d + 1) ht r1 r2
  rw [show d + 1 + n = d + (n + 1) by omega] at ih
  simp only [Op.eqFields, hn, ne_eq, not_false_eq_true, if_true, Sem.run_bind, p1, p2, ih, Result.andThen_ok]
  cases s.beq x y <;> simp
 | n + 1, f :: g :: l, s, off, x, y, c1, cx, c2, cy, d, h, hl1, hl2, hx, hy => by
  cases s with
  | pair a b =>
   simp only [eqFs, Bool.and_eq_true, bne_iff_ne, ne_eq, beq_iff_eq] at h
   obtain ⟨hn, hoff, ht, hr⟩ := h
   obtain ⟨xa, xb, rfl, hxa, hxb⟩ := hx
   obtain ⟨ya, yb, rfl, hya, hyb⟩ := hy
   obtain ⟨v1, p1, r1⟩ := part_sh (P := P) (G := G) c1 xb ht hxa
   obtain ⟨v2, p2, r2⟩ := part_sh (P := P) (G := G) c2 yb ht hya
   rw [List.append_assoc, hl1, ← hoff] at p1
   rw [List.append_assoc, hl2, ← hoff] at p2
   have ih := eq_ok n f.type a x.1 y.1 v1 v2 (d + 1) ht r1 r2
   rw [show d + 1 + n = d + (n + 1) by omega] at ih
   have ih2 := eqf_ok n (g :: l) b (off + a.size) x.2 y.2 (c1 ++ xa) xb (c2 ++ ya) yb (d + 1) hr (by rw [List.length_append, hl1, ShR.length a _ _ hxa]) (by rw [List.length_append, hl2, ShR.length a _ _ hya]) hxb hyb
   rw [show d + 1 + n = d + (n + 1) by omega, List.append_assoc, List.append_assoc] at ih2
   have e : (f.name ≠ "_") = True := by simp [hn]
   rw [Op.eqFields]
   simp only [e, if_true, Sem.run_bind, p1, p2, ih, Result.andThen_ok, Sh.beq]
   cases a.beq x.1 y.1
   ·simp
   ·simpa using ih2
  | _ => simp [eqFs] at h
end
def evAggB (P : Program) (op : BinOp) (t : TypeId) (a b : AV) : Option (AV × Prop) :=
 match shOf P 12 t with
 | some s =>
  match AV.toSh s a, AV.toSh s b with
  | some x, some y =>
   if (eqTy P 20 t s && (a.agg && (b.agg && !P.eqGuardType P.depth t))) = true then
    match op with
    | .eql => some (.bool (s.beq x y), True)
    | .neq => some (.bool (!s.beq x y), True)
    | _ => none
   else none
  | _, _ => none
 | none => none
def ptrTy (P : Program) (t : TypeId) : Bool :=
 match P.underlying t with
 | some (.pointer e) => (P.info? e).isSome
 | _ => false
theorem ptrTy_ok {P : Program} {t : TypeId} (h : ptrTy P t = true) : ∃ e j, P.underlying t = some (.pointer e) ∧ P.info? e = some j := by
 unfold ptrTy at h
 split at h
 ·rename_i e he
  obtain ⟨j, hj⟩ := Option.isSome_iff_exists.1 h
  exact ⟨e, j, he, hj⟩
 ·cases h
theorem run_ptr_nil {P : Program} {w : World} {t e : TypeId} {j : TypeInfo} (q : Option Addr) (hp : P.underlying t = some (.pointer e)) (hte : P.info? e = some j) :
  (binOp .eql t (.pointer q) (.pointer none)).run P w = .ok (.bool q.isNone) w ∧ (binOp .neq t (.pointer q) (.pointer none)).run P w = .ok (.bool (!q.isNone)) w := by
 have h : ∀ d : Nat, (Op.equalIn (d + 1) t (.pointer q) (.pointer none)).run P w = .ok q.isNone w := fun d => by
  cases q <;> simp [Op.equalIn, run_underlying hp, sizeOf, typeInfo, hte]
 simp only [binOp]
 constructor <;> simp [Op.equal, Op.maxDepth, h 9999]
theorem run_ptr_same {P : Program} {w : World} {t e : TypeId} {j : TypeInfo} (q : Option Addr) (x : Addr) (hq : ∀ y, q = some y → y = x) (hp : P.underlying t = some (.pointer e)) (hte : P.info? e = some j) :
  (binOp .eql t (.pointer q) (.pointer (some x))).run P w = .ok (.bool (!q.isNone)) w ∧ (binOp .neq t (.pointer q) (.pointer (some x))).run P w = .ok (.bool q.isNone) w := by
 have h : ∀ d : Nat, (Op.equalIn (d + 1) t (.pointer q) (.pointer (some x))).run P w = .ok (!q.isNone) w := fun d => by
  cases q with
  | none => simp [Op.equalIn, run_underlying hp, sizeOf, typeInfo, hte]
  | some y =>
   obtain rfl := hq y rfl
   simp [Op.equalIn, run_underlying hp, sizeOf, typeInfo, hte, run_sameAddr_same]
 simp only [binOp]
 constructor <;> simp [Op.equal, Op.maxDepth, h 9999]
def evPtr (P : Program) (op : BinOp) (t : TypeId) (a b : AV) : Option (AV × Prop) :=
 if ptrTy P t = true then
  match op, a, b with
  | .eql, .nilP, .nilP => some (.bool true, True)
  | .neq, .nilP, .nilP => some (.bool false, True)
  | .eql, .ptr _ _, .nilP => some (.bool false, True)
  | .neq, .ptr _ _, .nilP => some (.bool true, True)
  | .eql, .slf _ z, .nilP => some (.bool z, True)
  | .neq, .slf _ z, .nilP => some (.bool (!z), True)
  | .eql, .slf x z, .ptr y [] => if x = y then some (.bool (!z), True) else none
  | .neq, .slf x z, .ptr y [] => if x = y then some (.bool z, True) else none
  | .eql, .ptr x [], .ptr y [] => if x = y then some (.bool true, True) else none
  | .neq, .ptr x [], .ptr y [] => if x = y then some (.bool false, True) else none
  | _, _, _ => none
 else none
theorem evPtr_ok {P : Program} {w : World} {G : Gh} {op : BinOp} {t : TypeId} {a b av : AV} {C : Prop} {u v : Value} (x y : Operand) (h : evPtr P op t a b = some (av, C)) (ha : ValR w G a u) (hb : ValR w G b v) :
  ∃ r, (do eqGuard op t x y u v; binOp op t u v : Sem Value).run P w = .ok r w ∧ ValR w G av r := by
 unfold evPtr at h
 split at h
 ·rename_i hp
  obtain ⟨e, j, hp, hj⟩ := ptrTy_ok hp
  have isN : ValR w G .nilP v → v = .pointer none := fun hb => (List.cons.inj (show [v] = [Value.pointer none] from hb)).1
  have isP : ∀ b p z, ValR w G (.ptr b p) z → z = .pointer (some ⟨(G.addr b).block, (G.addr b).off + offs p, none⟩) := fun b p z hb => (List.cons.inj (show [z] = [Value.pointer _] from hb)).1
  have isS : ∀ b z u, ValR w G (.slf b z) u → u = .pointer (if z = true then none else some ⟨(G.addr b).block, (G.addr b).off, none⟩) := fun b z u hb => (List.cons.inj (show [u] = [Value.pointer _] from hb)).1
  have g : ∀ (q q' : Option Addr) (o : BinOp), (eqGuard o t x y (.pointer q) (.pointer q') : Sem Unit).run P w = .ok () w := fun q q' o => by cases o <;> rfl
  have toN : ∀ q : Option Addr, (∃ r, (do eqGuard .eql t x y (.pointer q) (.pointer none); binOp .eql t (.pointer q) (.pointer none) : Sem Value).run P w = .ok r w ∧ ValR w G (.bool q.isNone) r) ∧ (∃ r, (do eqGuard .neq t x y (.pointer q) (.pointer none); binOp .neq t (.pointer q) (.pointer none) : Sem Value).run P w = .ok r w ∧ ValR w G (.bool (!q.isNone)) r) := fun q =>
   ⟨⟨_, by rw [Sem.run_bind, g, Result.andThen_ok, (run_ptr_nil q hp hj).1], rfl⟩, ⟨_, by rw [Sem.run_bind, g, Result.andThen_ok, (run_ptr_nil q hp hj).2], rfl⟩⟩
  have toS : ∀ (q : Option Addr) (z : Addr), (∀ y, q = some y → y = z) → (∃ r, (do eqGuard .eql t x y (.pointer q) (.pointer (some z)); binOp .eql t (.pointer q) (.pointer (some z)) : Sem Value).run P w = .ok r w ∧ ValR w G (.bool (!q.isNone)) r) ∧ (∃ r, (do eqGuard .neq t x y (.pointer q) (.pointer (some z)); binOp .neq t (.pointer q) (.pointer (some z)) : Sem Value).run P w = .ok r w ∧ ValR w G (.bool q.isNone) r) := fun q z hq =>
   ⟨⟨_, by rw [Sem.run_bind, g, Result.andThen_ok, (run_ptr_same q z hq hp hj).1], rfl⟩, ⟨_, by rw [Sem.run_bind, g, Result.andThen_ok, (run_ptr_same q z hq hp hj).2], rfl⟩⟩
  have nz : ∀ (z : Bool) (d : Addr), (if z = true then none else some d : Option Addr).isNone = z := fun z d => by cases z <;> rfl
  have toZ : ∀ (z : Bool) (d : Addr), (∃ r, (do eqGuard .eql t x y (.pointer (if z = true then none else some d)) (.pointer none); binOp .eql t (.pointer (if z = true then none else some d)) (.pointer none) : Sem Value).run P w = .ok r w ∧ ValR w G (.bool z) r) ∧ (∃ r, (do eqGuard .neq t x y (.pointer (if z = true then none else some d)) (.pointer none); binOp .neq t (.pointer (if z = true then none else some d)) (.pointer none) : Sem Value).run P w = .ok r w ∧ ValR w G (.bool (!z)) r) := fun z d => by
   have := toN (if z = true then none else some d)
   rw [nz] at this
   exact this
  have sz : ∀ (z : Bool) (d : Addr) (y : Addr), (if z = true then none else some d : Option Addr) = some y → y = d := fun z d y hh => by cases z <;> simp at hh; exact hh.symm
  have toX : ∀ (z : Bool) (d : Addr), (∃ r, (do eqGuard .eql t x y (.pointer (if z = true then none else some d)) (.pointer (some d)); binOp .eql t (.pointer (if z = true then none else some d)) (.pointer (some d)) : Sem Value).run P w = .ok r w ∧ ValR w G (.bool (!z)) r) ∧ (∃ r, (do eqGuard .neq t x y (.pointer (if z = true then none else some d)) (.pointer (some d)); binOp .neq t (.pointer (if z = true then none else some d)) (.pointer (some d)) : Sem Value).run P w = .ok r w ∧ ValR w G (.bool z) r) := fun z d => by
   have := toS (if z = true then none else some d) d (sz z d)
   rw [nz] at this
   exact this
  split at h
  ·simp only [Option.some.injEq, Prod.mk.injEq] at h; obtain ⟨rfl, rfl⟩ := h
   rw [isN hb, (List.cons.inj (show [u] = [Value.pointer none] from ha)).1]; exact (toN none).1
  ·simp only [Option.some.injEq, Prod.mk.injEq] at h; obtain ⟨rfl, rfl⟩ := h
   rw [isN hb, (List.cons.inj (show [u] = [Value.pointer none] from ha)).1]; exact (toN none).2
  ·simp only [Option.some.injEq, Prod.mk.injEq] at h; obtain ⟨rfl, rfl⟩ := h
   rw [isN hb, isP _ _ _ ha]; exact (toN (some _)).1
  ·simp only [Option.some.injEq, Prod.mk.injEq] at h; obtain ⟨rfl, rfl⟩ := h
   rw [isN hb, isP _ _ _ ha]; exact (toN (some _)).2
  ·simp only [Option.some.injEq, Prod.mk.injEq] at h; obtain ⟨rfl, rfl⟩ := h
   rw [isN hb, isS _ _ _ ha]; exact (toZ _ _).1
  ·simp only [Option.some.injEq, Prod.mk.injEq] at h; obtain ⟨rfl, rfl⟩ := h
   rw [isN hb, isS _ _ _ ha]; exact (toZ _ _).2
  ·split at h
   ·rename_i hxy
    subst hxy
    simp only [Option.some.injEq, Prod.mk.injEq] at h; obtain ⟨rfl, rfl⟩ := h
    rw [isP _ _ _ hb, isS _ _ _ ha]
    exact (toX _ _).1
   ·cases h
  ·split at h
   ·rename_i hxy
    subst hxy
    simp only [Option.some.injEq, Prod.mk.injEq] at h; obtain ⟨rfl, rfl⟩ := h
    rw [isP _ _ _ hb, isS _ _ _ ha]
    exact (toX _ _).2
   ·cases h
  ·split at h
   ·rename_i hxy
    subst hxy
    simp only [Option.some.injEq, Prod.mk.injEq] at h; obtain ⟨rfl, rfl⟩ := h
    rw [isP _ _ _ hb, isP _ _ _ ha]
    exact (toS (some _) _ (fun y hy => (Option.some.inj hy).symm)).1
   ·cases h
  ·split at h
   ·rename_i hxy
    subst hxy
    simp only [Option.some.injEq, Prod.mk.injEq] at h; obtain ⟨rfl, rfl⟩ := h
    rw [isP _ _ _ hb, isP _ _ _ ha]
    exact (toS (some _) _ (fun y hy => (Option.some.inj hy).symm)).2
   ·cases h
  ·cases h
 ·cases h
def evBinX (P : Program) (op : BinOp) (t : TypeId) (a b : AV) : Option (AV × Prop) :=
 match a with
 | .st _ | .arr _ _ _ => evAggB P op t a b
 | .nilP | .ptr _ _ | .slf _ _ => evPtr P op t a b
 | _ => evBin P op t a b
theorem toSh_val {w : World} {G : Gh} {s : Sh} {a : AV} {x : s.T} {u : Value} (h : AV.toSh s a = some x) (hg : a.agg = true) (hu : ValR w G a u) : ValR w G (s.av x) u ∧ ∃ cs, u = .agg cs := by
 cases a with
 | st a0 =>
  obtain ⟨cs, rfl, hc⟩ := hu
  have h2 := AV.toSh_ok s (.st a0) x cs.toList h hc
  cases s with
  | st s0 => exact ⟨⟨cs, rfl, (CellsR.av s0 x _).2 h2⟩, cs, rfl⟩
  | _ => simp [AV.toSh] at h
 | arr n e l =>
  obtain ⟨cs, rfl, hc⟩ := hu
  have h2 := AV.toSh_ok s (.arr n e l) x cs.toList h hc
  cases s with
  | arr m s0 => exact ⟨⟨cs, rfl, h2⟩, cs, rfl⟩
  | _ => simp [AV.toSh] at h
 | _ => cases hg
theorem evAggB_ok {P : Program} {w : World} {G : Gh} {op : BinOp} {t : TypeId} {a b av : AV} {C : Prop} {u v : Value} (x y : Operand) (h : evAggB P op t a b = some (av, C)) (ha : ValR w G a u) (hb : ValR w G b v) :
  ∃ r, (do eqGuard op t x y u v; binOp op t u v : Sem Value).run P w = .ok r w ∧ ValR w G av r := by
 unfold evAggB at h
 split at h
 ·rename_i s hs
  split at h
  ·rename_i p q hp hq
   split at h
   ·rename_i hc
    simp only [Bool.and_eq_true, Bool.not_eq_true'] at hc
    obtain ⟨he, hg1, hg2, hm⟩ := hc
    obtain ⟨ru, cu, rfl⟩ := toSh_val hp hg1 ha
    obtain ⟨rv, cv, rfl⟩ := toSh_val hq hg2 hb
    have e := eq_ok (P := P) 20 t s p q _ _ 9980 he ru rv
    have g := run_eqGuard_agg (P := P) w op t x y cu cv hm
    split at h <;> simp only [Option.some.injEq, Prod.mk.injEq, reduceCtorEq] at h <;> obtain ⟨rfl, rfl⟩ := h
    ·exact ⟨_, by rw [Sem.run_bind, g, Result.andThen_ok, run_eql_struct w, show (10000 : Nat) = 9980 + 20 from rfl, e]; rfl, rfl⟩
    ·exact ⟨_, by rw [Sem.run_bind, g, Result.andThen_ok, run_neq_struct w, show (10000 : Nat) = 9980 + 20 from rfl, e]; rfl, rfl⟩
   ·cases h
  ·cases h
 ·cases h
theorem evBinX_ok {P : Program} {w : World} {G : Gh} {op : BinOp} {t : TypeId} {a b av : AV} {C : Prop} {u v : Value} (x y : Operand) (h : evBinX P op t a b = some (av, C)) (hC : C) (ha : ValR w G a u) (hb : ValR w G b v) :
  ∃ r, (do eqGuard op t x y u v; binOp op t u v : Sem Value).run P w = .ok r w ∧ ValR w G av r := by
 unfold evBinX at h
 split at h
 ·exact evAggB_ok x y h ha hb
 ·exact evAggB_ok x y h ha hb
 ·exact evPtr_ok x y h ha hb
 ·exact evPtr_ok x y h ha hb
 ·exact evPtr_ok x y h ha hb
 ·exact evBin_ok x y h hC ha hb
theorem row_view {B : Nat} {w : World} {G : Gh} {mem : List Blk} {r : Nat} {T : TypeId} {e : Sh} {l : List e.T} (hm : MemR B w G mem) (h : lk mem r = .row T e l) : ShR w (fun _ => True) (.sl e) l [G.rowv r] := by
 have hb := hm.blk r
 rw [h] at hb
 obtain ⟨h0, cs, hrv, hcat⟩ := hb
 have hk : Keeps G.fz (fun _ => True) w w := ⟨Nat.le_refl _, fun _ _ _ => rfl, fun _ _ => trivial⟩
 rcases hrv with ⟨hn, rfl, ad, hv⟩ | ⟨g, cap, rest, hv, hcap, hBg, hat, hnc, hcm, hcl, hcr⟩
 ·rw [hv]
  exact ⟨ad, 0, by rw [hn], by omega, Nat.zero_le _, fun h => by omega⟩
 ·refine ⟨some ⟨g, 0, none⟩, cap, by rw [hv], hnc, hcm, fun h0' => ⟨g, 0, cs, rfl, trivial, hat.lt, CatR.mono (fun y c hy => ShR.keep hk e y c hy) _ _ hcat, fun i v hi => ?_⟩⟩
  rw [Nat.zero_add]; exact hat.cell hi
def evConvP (P : Program) (mem : List Blk) (src dst : TypeId) (b : Nat) : Option AV :=
 match lk mem b with
 | .box t c =>
  if 0 < c.size then
   match P.underlying src, P.underlying dst with
   | some (.pointer t'), some .unsafePointer =>
    match P.info? t' with
    | some j => if j.size = 0 then none else some (.ptr b [])
    | none => none
   | some .unsafePointer, some (.pointer u) =>
    match P.info? u with
    | some _ => if liesAt P P.depth t (c.size / P.cellsOf t) 0 u 1 = true then some (.ptr b []) else none
    | none => none
   | _, _ => none
  else none
 | _ => none
theorem evConvP_ok {P : Program} {B : Nat} {w : World} {G : Gh} {mem : List Blk} (hm : MemR B w G mem) {src dst : TypeId} {b : Nat} {av : AV} {u : Value} (h : evConvP P mem src dst b = some av) (ha : ValR w G (.ptr b []) u) : ∃ r, (convert src dst u).run P w = .ok r w ∧ ValR w G av r := by
 unfold evConvP at h
 split at h
 ·rename_i t c hlk
  split at h
  ·rename_i hz
   have hb := hm.blk b
   rw [hlk] at hb
   obtain ⟨h0, cs, ⟨fr, hat, _⟩, hc⟩ := hb
   have hl := CellsR.length c cs hc
   have hu : u = .pointer (some ⟨(G.addr b).block, (G.addr b).off + offs [], none⟩) := (List.cons.inj (show [u] = [Value.pointer _] from ha)).1
   have hu' : u = .pointer (some ⟨(G.addr b).block, 0, none⟩) := by rw [hu, h0]; rfl
   have hsh : w.shape? (Addr.block ⟨(G.addr b).block, 0, none⟩) = some (t, c.size) := by
    simp only [List.append_nil] at hat
    simp [World.shape?, hat, hl]
   split at h
   ·rename_i t' hs hd
    split at h
    ·rename_i j hj
     split at h
     ·cases h
     ·rename_i hjz
      simp only [Option.some.injEq] at h; subst h
      rw [hu']
      refine ⟨_, Lib.run_to_unsafe w ⟨(G.addr b).block, 0, none⟩ hs hd hj hjz hsh hz, ?_⟩
      rw [← hu']; exact ha
    ·cases h
   ·rename_i u' hs hd
    split at h
    ·rename_i j hj
     split at h
     ·rename_i hlies
      simp only [Option.some.injEq] at h; subst h
      rw [hu']
      refine ⟨_, Lib.run_from_unsafe w ⟨(G.addr b).block, 0, none⟩ hs hd hj hsh hlies, ?_⟩
      rw [← hu']; exact ha
     ·cases h
    ·cases h
   ·cases h
  ·cases h
 ·cases h
def evConvX (P : Program) (mem : List Blk) (src dst : TypeId) (a : AV) : Option AV :=
 match a with
 | .row r =>
  match lk mem r with
  | .row _ (.int .u8) l =>
   match P.underlying src, P.underlying dst with
   | some (.slice e), some .string =>
    match P.underlying e with
    | some (.int .u8) => some (.str (strOf l))
    | _ => none
   | _, _ => none
  | _ => none
 | .ptr b [] => evConvP P mem src dst b
 | _ => evConv P src dst a
theorem evConvX_ok {P : Program} {B : Nat} {w : World} {G : Gh} {mem : List Blk} (hm : MemR B w G mem) {src dst : TypeId} {a av : AV} {u : Value} (h : evConvX P mem src dst a = some av) (ha : ValR w G a u) : ∃ r, (convert src dst u).run P w = .ok r w ∧ ValR w G av r := by
 unfold evConvX at h
 split at h
 ·rename_i r
  split at h
  ·rename_i T l hl
   split at h
   ·rename_i e h1 h2
    split at h
    ·rename_i h3
     simp only [Option.some.injEq] at h
     subst h
     have hv := row_view hm hl
     have hu : u = G.rowv r := by
      have := (show CellsR w G (.row r) [u] from ha).1
      simpa using this
     rw [← hu] at hv
     refine ⟨_, run_convBytes src e h1 h3 dst h2 hv, ?_⟩
     show [Value.string (strOfNums l)] = [Value.string ⟨(strOf l).toArray⟩]
     rfl
    ·cases h
   ·cases h
  ·cases h
 ·exact evConvP_ok hm h ha
 ·exact evConv_ok h ha
def subL {α : Type} (s : List α) : Option Int → Option Int → List α
 | none, none => s
 | some lo, none => s.drop lo.toNat
 | none, some hi => s.take hi.toNat
 | some lo, some hi => (s.take hi.toNat).drop lo.toNat
def subC (n : Nat) : Option Int → Option Int → Prop
 | none, none => True
 | some lo, none => 0 ≤ lo ∧ lo ≤ n
 | none, some hi => 0 ≤ hi ∧ hi ≤ n
 | some lo, some hi => (0 ≤ hi ∧ hi ≤ n) ∧ (0 ≤ lo ∧ lo ≤ hi)
def loN : Option Int → Nat
 | none => 0
 | some i => i.toNat
def hiN (n : Nat) : Option Int → Nat
 | none => n
 | some i => i.toNat
theorem subL_eq {α : Type} (s : List α) (lo hi : Option Int) : subL s lo hi = (s.take (hiN s.length hi)).drop (loN lo) := by
 cases lo <;> cases hi <;> simp [subL, hiN, loN]
theorem subC_le {n : Nat} {lo hi : Option Int} (h : subC n lo hi) : loN lo ≤ hiN n hi ∧ hiN n hi ≤ n := by
 cases lo <;> cases hi <;> simp only [subC, loN, hiN] at h ⊢ <;> omega
def OI (v : Option Value) (i : Option Int) : Prop :=
 match v, i with
 | none, none => True
 | some v, some i => ∃ k, v = .int k i
 | _, _ => False
theorem run_bounds {P : Program} {w : World} {b : Bool} {n cap : Nat} {lo hi : Option Value} {l h : Option Int} (hl : OI lo l) (hh : OI hi h) (hC : subC n l h) (hnc : n ≤ cap) :
  (Instr.sliceBounds b n cap lo hi none).run P w = .ok (loN l, hiN n h, cap) w := by
 have one : ∀ (k : IntKind) (i : Int) (y : Nat) (c : BoundsCode), 0 ≤ i → i ≤ y → (Instr.sliceBound (.int k i) y c).run P w = .ok i.toNat w := by
  intro k i y c h0 h1
  simp only [Instr.sliceBound, asIntOf, Sem.run_bind, Sem.run_pure, Result.andThen_ok]
  rw [if_pos ⟨h0, h1⟩]
  rfl
 cases lo with
 | none =>
  cases l with
  | some l => exact hl.elim
  | none =>
   cases hi with
   | none =>
    cases h with
    | some h => exact hh.elim
    | none => simp [Instr.sliceBounds, Sem.run_pure, loN, hiN]
   | some hv =>
    cases h with
    | none => exact hh.elim
    | some h =>
     obtain ⟨k, rfl⟩ := hh
     obtain ⟨h0, h1⟩ := hC
     simp [Instr.sliceBounds, loN, hiN, one k h cap _ h0 (by omega)]
 | some lv =>
  cases l with
  | none => exact hl.elim
  | some l =>
   obtain ⟨k, rfl⟩ := hl
   cases hi with
   | none =>
    cases h with
    | some h => exact hh.elim
    | none =>
     obtain ⟨h0, h1⟩ := hC
     simp [Instr.sliceBounds, loN, hiN, one k l n _ h0 h1]
   | some hv =>
    cases h with
    | none => exact hh.elim
    | some h =>
     obtain ⟨k', rfl⟩ := hh
     obtain ⟨⟨h0, h1⟩, h2, h3⟩ := hC
     simp [Instr.sliceBounds, loN, hiN, one k' h cap _ h0 (by omega), one k l h.toNat _ h2 (by omega)]
def oiAV : Option AV → Option (Option Int)
 | none => some none
 | some (.int _ i) => some (some i)
 | _ => none
theorem CatR.sub {α : Type} {R : α → List Value → Prop} {k : Nat} (hR : ∀ x c, R x c → c.length = k) {xs : List α} {cells : List Value} (h : CatR R xs cells) {lo hi : Nat} (h1 : lo ≤ hi) (h2 : hi ≤ xs.length) :
  ∃ c1 c2 c3, cells = c1 ++ c2 ++ c3 ∧ c1.length = lo * k ∧ CatR R ((xs.take hi).drop lo) c2 := by
 rw [← List.take_append_drop hi xs] at h
 obtain ⟨a, c3, rfl, ha, h3⟩ := CatR.split h
 rw [← List.take_append_drop lo (xs.take hi)] at ha
 obtain ⟨c1, c2, rfl, h4, h5⟩ := CatR.split ha
 refine ⟨c1, c2, c3, rfl, ?_, h5⟩
 rw [CatR.length hR _ _ h4, List.length_take, List.length_take]
 congr 1
 omega
def evSlice (P : Program) (t : TypeId) (x : AV) (lo hi mx : Option AV) : Option (AV × Prop) :=
 match mx with
 | none =>
  match oiAV lo, oiAV hi with
  | some lo, some hi =>
   match P.underlying t, x with
   | some .string, .str s => some (.str (subL s lo hi), subC s.length lo hi)
   | some (.slice el), .sl e l =>
    match P.info? el with
    | some inf => if inf.size = e.size then some (.sl e (subL l lo hi), subC l.length lo hi) else none
    | none => none
   | some (.slice el), .nilS =>
    match P.info? el with
    | some _ => some (.nilS, subC 0 lo hi)
    | none => none
   | some (.array n el), .pv (.arr m e l) =>
    match P.info? el with
    | some inf => if inf.size = e.size ∧ m = n ∧ n ≤ maxLen then some (.sl e (subL l lo hi), subC l.length lo hi) else none
    | none => none
   | _, _ => none
  | _, _ => none
 | some (.int _ m) =>
  match P.underlying t, x, lo, hi with
  | some (.slice el), .sl _ _, none, some (.int _ h) => if m = 0 ∧ h = 0 ∧ (P.info? el).isSome then some (.emp, True) else none
  | some (.slice el), .sl _ _, some (.int _ l), some (.int _ h) => if m = 0 ∧ h = 0 ∧ l = 0 ∧ (P.info? el).isSome then some (.emp, True) else none
  | _, _, _, _ => none
 | _ => none
def OV (w : World) (G : Gh) : Option AV → Option Value → Prop
 | none, none => True
 | some a, some v => ValR w G a v
 | _, _ => False
theorem oi_ok {w : World} {G : Gh} {a : Option AV} {v : Option Value} {i : Option Int} (h : oiAV a = some i) (hr : OV w G a v) : OI v i := by
 unfold oiAV at h
 split at h <;> try simp only [Option.some.injEq] at h
 ·subst h; cases v with | none => trivial | some v => exact hr.elim
 ·subst h
  cases v with
  | none => exact hr.elim
  | some v => exact ⟨_, val_int (show ValR w G (.int _ _) v from hr)⟩
 ·cases h
theorem str_extract (s : List UInt8) (a b : Nat) (h : b ≤ s.length) : (⟨s.toArray⟩ : ByteArray).extract a b = ⟨((s.take b).drop a).toArray⟩ := by
 apply ByteArray.ext
 rw [ByteArray.data_extract]
 apply Array.ext'
 simp [List.drop_take]
theorem evSlice_ok {P : Program} {w : World} {G : Gh} {t : TypeId} {x c : AV} {lo hi mx : Option AV} {u : Value} {vlo vhi vmx : Option Value} {C : Prop} (h : evSlice P t x lo hi mx = some (c, C)) (hC : C) (hu : ValR w G x u)
  (h1 : OV w G lo vlo) (h2 : OV w G hi vhi) (h3 : OV w G mx vmx) :
  ∃ r, (Instr.sliceAt t u vlo vhi vmx).run P w = .ok r w ∧ ValR w G c r := by
 unfold evSlice at h
 split at h
 ·obtain rfl : vmx = none := by cases vmx with | none => rfl | some v => exact h3.elim
  split at h
  ·rename_i lo' hi' hlo hhi
   have ol := oi_ok hlo h1
   have oh := oi_ok hhi h2
   split at h
   ·rename_i s hut
    simp only [Option.some.injEq, Prod.mk.injEq] at h
    obtain ⟨rfl, rfl⟩ := h
    rw [val_str hu]
    obtain ⟨g1, g2⟩ := subC_le hC
    refine ⟨_, ?_, rfl⟩
    simp only [Instr.sliceAt, Sem.run_bind, run_underlying hut, Result.andThen_ok, Instr.slice]
    rw [str_size]
    simp only [Option.isSome_none, Bool.false_eq_true, if_false, Sem.run_bind, Sem.run_pure, Result.andThen_ok, run_bounds ol oh hC (Nat.le_refl _)]
    rw [str_extract _ _ _ g2, ← subL_eq]
   ·rename_i el e l hut
    split at h
    ·rename_i inf hinf
     split at h
     ·rename_i hz
      simp only [Option.some.injEq, Prod.mk.injEq] at h
      obtain ⟨rfl, rfl⟩ := h
      obtain ⟨ad, cap, e1, hlc, hcm, hx⟩ := (show ShR w G.fz (.sl e) l [u] from hu)
      obtain rfl : u = .slice ad l.length cap := by simpa using e1
      obtain ⟨g1, g2⟩ := subC_le hC
      refine ⟨.slice (if cap = loN lo' then ad else ad.map (·.add (loN lo' * inf.size))) (hiN l.length hi' - loN lo') (cap - loN lo'), ?_, ?_⟩
      ·simp only [Instr.sliceAt, Sem.run_bind, run_underlying hut, Result.andThen_ok, Instr.slice, run_bounds ol oh hC hlc, run_sz hinf, Sem.run_pure]
      ·rw [subL_eq]
       show ShR w G.fz (.sl e) _ _
       have hll : ((l.take (hiN l.length hi')).drop (loN lo')).length = hiN l.length hi' - loN lo' := by simp; omega
       refine ⟨_, cap - loN lo', by rw [hll], by rw [hll]; omega, by omega, fun h0 => ?_⟩
       rw [hll] at h0
       obtain ⟨b, off, cells, rfl, hf, hb, hcat, hcell⟩ := hx (by omega)
       obtain ⟨c1, c2, c3, rfl, hl1, hc2⟩ := CatR.sub (fun y c hy => ShR.length e y c hy) hcat g1 g2
       refine ⟨b, off + loN lo' * e.size, c2, ?_, hf, hb, hc2, ?_⟩
       ·rw [if_neg (by omega)]
        simp only [Option.map_some, addr_add', hz]
       ·rw [← hl1]
        exact (At.sub (w := w) (b := b) (off := off) (c1 := c1) (c2 := c2) (c3 := c3) ⟨rfl, hcell⟩).2
     ·cases h
    ·cases h
   ·rename_i el hut
    split at h
    ·rename_i inf hinf
     simp only [Option.some.injEq, Prod.mk.injEq] at h
     obtain ⟨rfl, rfl⟩ := h
     have e1 : [u] = [Value.slice none 0 0] := hu
     obtain rfl : u = .slice none 0 0 := by simpa using e1
     obtain ⟨g1, g2⟩ := subC_le hC
     have z1 : hiN 0 hi' = 0 := by omega
     have z2 : loN lo' = 0 := by omega
     refine ⟨.slice none 0 0, ?_, rfl⟩
     simp only [Instr.sliceAt, Sem.run_bind, run_underlying hut, Result.andThen_ok, Instr.slice, run_bounds ol oh hC (Nat.le_refl 0), run_sz hinf, Sem.run_pure, z1, z2]
     rfl
    ·cases h
   ·rename_i n el m e l hut
    split at h
    ·rename_i inf hinf
     split at h
     ·rename_i hz
      obtain ⟨hz, rfl, hmax⟩ := hz
      simp only [Option.some.injEq, Prod.mk.injEq] at h
      obtain ⟨rfl, rfl⟩ := h
      obtain ⟨b, off, e1, hf, hb, cells, ⟨hlen, hcat⟩, hcell⟩ := (show CellsR w G (.pv (.arr m e l)) [u] from hu)
      obtain rfl : u = .pointer (some ⟨b, off, none⟩) := by simpa using e1
      obtain ⟨g1, g2⟩ := subC_le hC
      have hrb := run_bounds (P := P) (w := w) (b := false) (n := l.length) (cap := l.length) ol oh hC (Nat.le_refl _)
      rw [hlen] at hrb
      rw [hlen] at g1 g2
      refine ⟨.slice (some (if m = loN lo' then ⟨b, off, none⟩ else (⟨b, off, none⟩ : Addr).add (loN lo' * inf.size))) (hiN m hi' - loN lo') (m - loN lo'), ?_, ?_⟩
      ·simp only [Instr.sliceAt, Sem.run_bind, run_underlying hut, Result.andThen_ok, Instr.sureAddr, hrb, run_sz hinf, Sem.run_pure]
      ·rw [subL_eq, hlen]
       show ShR w G.fz (.sl e) _ _
       have hll : ((l.take (hiN m hi')).drop (loN lo')).length = hiN m hi' - loN lo' := by simp; omega
       refine ⟨_, m - loN lo', by rw [hll], by rw [hll]; omega, by omega, fun h0 => ?_⟩
       rw [hll] at h0
       obtain ⟨c1, c2, c3, rfl, hl1, hc2⟩ := CatR.sub (fun y c hy => ShR.length e y c hy) hcat g1 (by omega)
       refine ⟨b, off + loN lo' * e.size, c2, ?_, hf, hb, hc2, ?_⟩
       ·rw [if_neg (by omega)]
        simp only [addr_add', hz]
       ·rw [← hl1]
        exact (At.sub (w := w) (b := b) (off := off) (c1 := c1) (c2 := c2) (c3 := c3) ⟨rfl, hcell⟩).2
     ·cases h
    ·cases h
   ·cases h
  ·cases h
 ·rename_i k m
  obtain ⟨vm, rfl⟩ : ∃ vm, vmx = some vm := by cases vmx with | none => exact h3.elim | some v => exact ⟨v, rfl⟩
  rw [val_int (show ValR w G (.int k m) vm from h3)]
  have fin : ∀ (el : TypeId) (e : Sh) (l : List e.T) (vlo : Option Value), P.underlying t = some (.slice el) → m = 0 → (P.info? el).isSome = true → ValR w G (.sl e l) u → (vlo = none ∨ ∃ k, vlo = some (.int k 0)) → (∃ k', vhi = some (.int k' 0)) →
    ∃ r, (Instr.sliceAt t u vlo vhi (some (.int k m))).run P w = .ok r w ∧ ValR w G .emp r := by
   intro el e l vlo hut hm hi hu hvl ⟨k', hvh⟩
   subst hm; subst hvh
   obtain ⟨inf, hinf⟩ := Option.isSome_iff_exists.1 hi
   obtain ⟨ad, cap, e1, hlc, hcm, hx⟩ := (show ShR w G.fz (.sl e) l [u] from hu)
   obtain rfl : u = .slice ad l.length cap := by simpa using e1
   rcases hvl with rfl | ⟨k2, rfl⟩
   ·refine ⟨.slice ad 0 0, ?_, ad, rfl⟩
    simp [Instr.sliceAt, run_underlying hut, Instr.slice, Instr.sliceBounds, Instr.sliceBound, asIntOf, run_sz hinf]
   ·refine ⟨.slice ad 0 0, ?_, ad, rfl⟩
    simp [Instr.sliceAt, run_underlying hut, Instr.slice, Instr.sliceBounds, Instr.sliceBound, asIntOf, run_sz hinf]
  split at h
  ·rename_i el e l k' hh hut
   split at h
   ·rename_i hz
    obtain ⟨rfl, rfl, hi⟩ := hz
    simp only [Option.some.injEq, Prod.mk.injEq] at h
    obtain ⟨rfl, rfl⟩ := h
    obtain rfl : vlo = none := by cases vlo with | none => rfl | some v => exact h1.elim
    obtain ⟨vh, rfl⟩ : ∃ vm, vhi = some vm := by cases vhi with | none => exact h2.elim | some v => exact ⟨v, rfl⟩
    exact fin el e l none hut rfl hi hu (.inl rfl) ⟨_, by rw [val_int (show ValR w G (.int k' 0) vh from h2)]⟩
   ·cases h
  ·rename_i el e l k1 ll k' hh hut
   split at h
   ·rename_i hz
    obtain ⟨rfl, rfl, rfl, hi⟩ := hz
    simp only [Option.some.injEq, Prod.mk.injEq] at h
    obtain ⟨rfl, rfl⟩ := h
    obtain ⟨vl, rfl⟩ : ∃ vm, vlo = some vm := by cases vlo with | none => exact h1.elim | some v => exact ⟨v, rfl⟩
    obtain ⟨vh, rfl⟩ : ∃ vm, vhi = some vm := by cases vhi with | none => exact h2.elim | some v => exact ⟨v, rfl⟩
    exact fin el e l (some vl) hut rfl hi hu (.inr ⟨_, by rw [val_int (show ValR w G (.int k1 0) vl from h1)]⟩) ⟨_, by rw [val_int (show ValR w G (.int k' 0) vh from h2)]⟩
   ·cases h
  ·cases h
 ·cases h
def capsAV (ts : List AV) : List Operand → Option AV
 | [] => some .nil
 | x :: l =>
  match ev ts x, capsAV ts l with
  | some a, some b => if a.flat then some (.cons a b) else none
  | _, _ => none
theorem caps_ok {w : World} {G : Gh} {ts : List AV} {a : Act} (ht : TmpsR w G ts a) : ∀ (l : List Operand) (c : AV), capsAV ts l = some c → CellsR w G c (l.map a.eval)
 | [], c, h => by simp only [capsAV, Option.some.injEq] at h; subst h; rfl
 | x :: l, c, h => by
  simp only [capsAV] at h
  split at h
  ·rename_i u v hu hv
   split at h
   ·rename_i hf
    simp only [Option.some.injEq] at h; subst h
    exact ⟨[a.eval x], l.map a.eval, rfl, (ValR0.flat hf).1 ((ev_ok ht hu).to0 (flat_tup hf)), caps_ok ht l v hv⟩
   ·cases h
  ·cases h
theorem fold_set : ∀ (vs : List Value) (j off : Nat) (cells : Array Value) (c1 c2 c3 : List Value), cells.toList = c1 ++ c2 ++ c3 → c1.length = off + j → c2.length = vs.length →
  ((vs.zipIdx j).foldl (fun cs (x : Value × Nat) => cs.setIfInBounds (off + x.2) x.1) cells).toList = c1 ++ vs ++ c3
 | [], j, off, cells, c1, c2, c3, h, _, h2 => by
  obtain rfl : c2 = [] := List.length_eq_zero_iff.1 h2
  simpa using h
 | v :: vs, j, off, cells, c1, c2, c3, h, h1, h2 => by
  match c2, h2 with
  | x :: c2, h2 =>
   rw [List.zipIdx_cons, List.foldl_cons]
   have := fold_set vs (j + 1) off (cells.setIfInBounds (off + j) v) (c1 ++ [v]) c2 c3 (by
    rw [Array.toList_setIfInBounds, h, ← h1]
    simp) (by simp; omega) (by simpa using h2)
   simpa using this
theorem fill_step {w : World} {G : Gh} {p : List Step} {x acc acc' : AV} {C : Prop} {cells : Array Value} {v : Value} (hs : AV.set p x acc = some (acc', C)) (hC : C) (ha : CellsR w G acc cells.toList) (hx : CellsR w G x v.cells.toList) :
  v.cells.size = x.size ∧ offs p + v.cells.size ≤ cells.size ∧ CellsR w G acc' (v.cells.zipIdx.foldl (fun cs (y : Value × Nat) => cs.setIfInBounds (offs p + y.2) y.1) cells).toList := by
 obtain ⟨c1, c2, c3, e, hl, hz, h⟩ := AV.set_ok p x acc acc' C cells.toList hs hC ha
 have hv := CellsR.length x _ hx
 have hsz : v.cells.size = x.size := by simpa using hv
 refine ⟨hsz, ?_, ?_⟩
 ·have := congrArg List.length e
  simp only [Array.length_toList, List.length_append] at this
  omega
 ·have e2 := fold_set v.cells.toList 0 (offs p) cells c1 c2 c3 e (by omega) (by rw [hz]; simpa using hsz.symm)
  have e3 : (v.cells.zipIdx.foldl (fun cs (y : Value × Nat) => cs.setIfInBounds (offs p + y.2) y.1) cells) = ((v.cells.toList.zipIdx 0).foldl (fun cs (x : Value × Nat) => cs.setIfInBounds (offs p + x.2) x.1) cells) := by
   rw [← Array.foldl_toList, Array.toList_zipIdx]
  rw [e3, e2]
  exact h _ hx
def partAtP (P : Program) (t : TypeId) (i : Nat) : Option (Step × Nat) :=
 match P.underlying t with
 | some (.struct fs) =>
  match fs[i]? with
  | some f =>
   match P.info? f.type with
   | some inf => some (.fld i f.offset, inf.size)
   | none => none
  | none => none
 | some (.array _ e) =>
  match P.info? e with
  | some inf => some (.idx i inf.size, inf.size)
  | none => none
 | _ => none
def setParts (place : Nat → Option (Step × Nat)) (ts : List AV) : List (Nat × Operand) → AV → Option (AV × Prop)
 | [], acc => some (acc, True)
 | (i, x) :: l, acc =>
  match place i, ev ts x with
  | some (s, n), some v =>
   if (v.flat || v.agg) ∧ v.size = n then
    match AV.set [s] v acc with
    | some (acc', C) =>
     match setParts place ts l acc' with
     | some (r, D) => some (r, C ∧ D)
     | none => none
    | none => none
   else none
  | _, _ => none
theorem setParts_ok {w : World} {G : Gh} {ts : List AV} {a : Act} (ht : TmpsR w G ts a) (place : Nat → Option (Step × Nat)) (pl : Nat → Option (Nat × Nat)) (hp : ∀ i s n, place i = some (s, n) → pl i = some (offs [s], n)) :
  ∀ (l : List (Nat × Operand)) (acc r : AV) (C : Prop) (cells : Array Value), setParts place ts l acc = some (r, C) → C → CellsR w G acc cells.toList →
   ∃ cells', Instr.fill pl cells (l.map fun (i, x) => (i, a.eval x)) = some cells' ∧ CellsR w G r cells'.toList
 | [], acc, r, C, cells, h, _, hc => by
  simp only [setParts, Option.some.injEq, Prod.mk.injEq] at h
  obtain ⟨rfl, _⟩ := h
  exact ⟨cells, rfl, hc⟩
 | (i, x) :: l, acc, r, C, cells, h, hC, hc => by
  simp only [setParts] at h
  split at h
  ·rename_i s n v hpl hv
   split at h
   ·rename_i hf
    obtain ⟨hf, rfl⟩ := hf
    split at h
    ·rename_i acc' D hset
     split at h
     ·rename_i r' E hrest
      simp only [Option.some.injEq, Prod.mk.injEq] at h
      obtain ⟨rfl, rfl⟩ := h
      obtain ⟨hD, hE⟩ := hC
      have hx : CellsR w G v (a.eval x).cells.toList := ValR0.cells ((ev_ok ht hv).to0 (flagg_tup hf)) hf
      obtain ⟨h1, h2, h3⟩ := fill_step hset hD hc hx
      obtain ⟨cells', h4, h5⟩ := setParts_ok ht place pl hp l acc' r' E _ hrest hE h3
      refine ⟨cells', ?_, h5⟩
      simp only [List.map_cons, Instr.fill, hp i s _ hpl]
      rw [if_neg (by simp only [Bool.or_eq_true, decide_eq_true_eq, not_or]; exact ⟨fun h => h h1, by omega⟩)]
      exact h4
     ·cases h
    ·cases h
   ·cases h
  ·cases h
theorem newRow {w : World} {G : Gh} {base len : Nat} {t : TypeId} {e : Sh} {l : List e.T} {cells : Array Value} (hc : CatR (ShR w G.fz e) l cells.toList) (hl : l.length = len) (hm : len ≤ maxLen) (hfz : ∀ b, G.fz b → b < w.heap.size) :
  NewR w (w.alloc (.cells cells t)) G (G.put base ⟨w.heap.size, 0, none⟩ (.slice (some ⟨w.heap.size, 0, none⟩) len len)) base [.row t e l] := by
 have hb : Below w.heap.size w (w.alloc (.cells cells t)) := (Below.refl _ _).alloc (Nat.le_refl _) _
 have hsz : (w.alloc (.cells cells t)).heap.size = w.heap.size + 1 := by simp
 have hl0 : ∀ (j x : Nat), (lk [Blk.row t e l] j).live (G.put base ⟨w.heap.size, 0, none⟩ (.slice (some ⟨w.heap.size, 0, none⟩) len len)) (base + j) = some x → j = 0 ∧ x = w.heap.size := by
  intro j x h
  cases j with
  | zero =>
   simp only [lk, Blk.live, Gh.put, List.getD_cons_zero, Nat.add_zero, if_true] at h
   cases len with
   | zero => simp [rowBlk] at h
   | succ n => simp [rowBlk] at h; exact ⟨rfl, h.symm⟩
  | succ j => simp [lk, Blk.live] at h
 have hlen : cells.toList.length = l.length * e.size := CatR.length (fun y c hy => ShR.length e y c hy) _ _ hc
 refine ⟨hb, fun i hi => Gh.put_agree _ _ _ _ _ (by simp at hi; omega), fun _ h => h, fun _ h => .inl h, fun j => ?_, fun j k x hjk h1 h2 => ?_, fun j x h => ?_⟩
 ·cases j with
  | zero =>
   refine ⟨fun g hg => ?_, cells.toList, ?_, CatR.mono (fun y c hy => ShR.keep (fz := G.fz) ⟨hb.size, fun b h hlt => hb.block b hlt, fun _ h => h⟩ e y c hy) _ _ hc⟩
   ·simp only [Gh.put, Nat.add_zero, if_true] at hg ⊢
    cases len with
    | zero => simp [rowBlk] at hg
    | succ n => simp [rowBlk] at hg; rw [hg]
   ·simp only [Gh.put, Nat.add_zero, if_true]
    rcases Nat.eq_zero_or_pos len with h0 | h0
    ·refine .inl ⟨by omega, ?_, _, by rw [h0]⟩
     apply List.length_eq_zero_iff.1
     rw [hlen, hl, h0, Nat.zero_mul]
    ·refine .inr ⟨w.heap.size, len, [], by rw [hl], h0, Nat.le_refl _, ?_, by omega, hm, hlen, by rw [List.append_nil, hlen, hl]⟩
     refine ⟨(0, 0), ?_, .inl rfl⟩
     rw [List.append_nil, alloc_new]
  | succ j => simp [lk, BlkR]
 ·have := hl0 j x h1; have := hl0 k x h2; omega
 ·obtain ⟨_, rfl⟩ := hl0 j x h
  exact ⟨Nat.le_refl _, by omega, fun hf => by have := hfz _ hf; omega⟩
def placesOf (P : Program) (fs : List Field) : Option (List (Nat × Nat)) := fs.mapM (fun f => (P.info? f.type).map fun i => (f.offset, i.size))
theorem mapM_get {α β : Type} (f : α → Option β) : ∀ (l : List α) (r : List β), l.mapM f = some r → ∀ (i : Nat) (x : α), l[i]? = some x → ∃ y, f x = some y ∧ r[i]? = some y
 | [], r, h, i, x, hi => by simp at hi
 | a :: l, r, h, i, x, hi => by
  rw [List.mapM_cons] at h
  cases ha : f a with
  | none => simp [ha] at h
  | some y =>
   cases hl : l.mapM f with
   | none => simp [ha, hl] at h
   | some r' =>
    simp [ha, hl] at h
    subst h
    cases i with
    | zero => simp at hi; subst hi; exact ⟨y, ha, rfl⟩
    | succ i => exact mapM_get f l r' hl i x (by simpa using hi)
def evBuild (P : Program) (ts : List AV) (t : TypeId) (parts : List (Nat × Operand)) : Option (AV × Prop) :=
 match evAlloc P t with
 | some z =>
  match P.underlying t with
  | some (.struct fs) =>
   match placesOf P fs.toList with
   | some _ =>
    match setParts (partAtP P t) ts parts z with
    | some (r, C) => if r.agg then some (r, C) else none
    | none => none
   | none => none
  | some (.array _ el) =>
   match P.info? el with
   | some _ =>
    match setParts (partAtP P t) ts parts z with
    | some (r, C) => if r.agg then some (r, C) else none
    | none => none
   | none => none
  | _ => none
 | none => none
theorem evBuild_ok {P : Program} {w : World} {G : Gh} {ts : List AV} {a : Act} {t : TypeId} {parts : Array (Nat × Operand)} {r : AV} {C : Prop} (h : evBuild P ts t parts.toList = some (r, C)) (hC : C) (ht : TmpsR w G ts a) :
  ∃ v, (Instr.build t (parts.map fun (i, x) => (i, a.eval x))).run P w = .ok v w ∧ ValR w G r v := by
 have hmap : (parts.map fun (i, x) => (i, a.eval x)).toList = parts.toList.map fun (i, x) => (i, a.eval x) := by simp
 unfold evBuild at h
 split at h
 ·rename_i z0 hz0
  unfold evAlloc at hz0
  split at hz0
  ·rename_i it hit
   split at hz0
   ·rename_i z hz
    split at hz0
    ·rename_i hchk
     simp only [Option.some.injEq] at hz0
     subst hz0
     have hcz : CellsR w G (zav P 12 t) z.cells.toList := AV.chk_ok _ _ hchk
     split at h
     ·rename_i fs hut
      split at h
      ·rename_i places hpl
       split at h
       ·rename_i r' D hset
        split at h
        ·rename_i hg
         simp only [Option.some.injEq, Prod.mk.injEq] at h
         obtain ⟨rfl, rfl⟩ := h
         obtain ⟨cells, h1, h2⟩ := setParts_ok ht (partAtP P t) (places.toArray[·]?) (fun i s n hp => by
          unfold partAtP at hp
          rw [hut] at hp
          simp only at hp
          split at hp
          ·rename_i f hf
           split at hp
           ·rename_i inf hinf
            simp only [Option.some.injEq, Prod.mk.injEq] at hp
            obtain ⟨rfl, rfl⟩ := hp
            obtain ⟨y, hy, hy2⟩ := mapM_get _ _ _ hpl i f (by simpa using hf)
            rw [hinf] at hy
            simp only [Option.map_some, Option.some.injEq] at hy
            subst hy
            simpa [offs] using hy2
           ·cases hp
          ·cases hp) _ _ _ _ _ hset hC hcz
         refine ⟨.agg cells, run_build (P := P) w t _ cells ?_, ?_⟩
         ·unfold Program.built
          rw [hit, hut]
          simp only [hz]
          unfold placesOf at hpl
          rw [hpl, hmap]
          exact h1
         ·have := ValR_agg hg h2
          simpa using this
        ·cases h
       ·cases h
      ·cases h
     ·rename_i n el hut
      split at h
      ·rename_i ie hie
       split at h
       ·rename_i r' D hset
        split at h
        ·rename_i hg
         simp only [Option.some.injEq, Prod.mk.injEq] at h
         obtain ⟨rfl, rfl⟩ := h
         obtain ⟨cells, h1, h2⟩ := setParts_ok ht (partAtP P t) (fun i => some (i * ie.size, ie.size)) (fun i s n hp => by
          unfold partAtP at hp
          rw [hut] at hp
          simp only at hp
          rw [hie] at hp
          simp only [Option.some.injEq, Prod.mk.injEq] at hp
          obtain ⟨rfl, rfl⟩ := hp
          simp [offs]) _ _ _ _ _ hset hC hcz
         refine ⟨.agg cells, run_build (P := P) w t _ cells ?_, ?_⟩
         ·unfold Program.built
          rw [hit, hut]
          simp only [hz, hie]
          rw [hmap]
          exact h1
         ·have := ValR_agg hg h2
          simpa using this
        ·cases h
       ·cases h
      ·cases h
     ·cases h
    ·cases hz0
   ·cases hz0
  ·cases hz0
 ·cases h
def zeroRow (z : Array Value) (n : Nat) : Array Value := (Array.range n).map (fun i => z[i % z.size]!)
def litOk (inf : TypeInfo) (e : Sh) (len : Nat) (z : Value) : Bool :=
 decide (inf.size = e.size) && (decide (len * inf.size ≤ 16777216) && (decide (len ≤ 16777216) && (AV.arr len e (List.replicate len e.dflt)).chk (zeroRow (if len * inf.size = 0 then #[] else z.cells) (len * inf.size)).toList))
def evBuildSlice (P : Program) (ts : List AV) (t : TypeId) (len : Nat) (parts : List (Nat × Operand)) : Option (Blk × Prop) :=
 match P.underlying t with
 | some (.slice el) =>
  match P.info? el, shOf P 12 el with
  | some inf, some e =>
   match inf.zero with
   | some z =>
    if litOk inf e len z = true then
     match setParts (fun i => some (.idx i inf.size, inf.size)) ts parts (.arr len e (List.replicate len e.dflt)) with
     | some (.arr m e' l, C) => if m = len then some (.row el e' l, C) else none
     | _ => none
    else none
   | none => none
  | _, _ => none
 | _ => none
theorem evBuildSlice_ok {P : Program} {o : Oper} {ts : List AV} {mem : List Blk} {base : Nat} {t : TypeId} {len : Nat} {parts : Array (Nat × Operand)} {b : Blk} {C : Prop} (ho : o.op = .buildSlice t len parts) (h : evBuildSlice P ts t len parts.toList = some (b, C)) :
  PureOp P o ts mem base (.row base) [b] C := by
 intro B w G a hC hm ht hrt hrm next Q hn
 have hmap : (parts.map fun (i, x) => (i, a.eval x)).toList = parts.toList.map fun (i, x) => (i, a.eval x) := by simp
 unfold evBuildSlice at h
 split at h
 ·rename_i el hut
  split at h
  ·rename_i inf e hinf hsh
   split at h
   ·rename_i z hz
    split at h
    ·rename_i hcond
     unfold litOk at hcond
     simp only [Bool.and_eq_true, decide_eq_true_eq] at hcond
     obtain ⟨hsz, h24, hlen24, hchk⟩ := hcond
     split at h
     ·rename_i m e' l D hset
      split at h
      ·rename_i hml
       subst hml
       simp only [Option.some.injEq, Prod.mk.injEq] at h
       obtain ⟨rfl, rfl⟩ := h
       obtain ⟨cells, h1, h2⟩ := setParts_ok (w := w) (G := G) ht (fun i => some (.idx i inf.size, inf.size)) (fun i => some (i * inf.size, inf.size)) (fun i s n hp => by
        simp only [Option.some.injEq, Prod.mk.injEq] at hp
        obtain ⟨rfl, rfl⟩ := hp
        simp [offs]) _ _ _ _ _ hset hC (AV.chk_ok _ _ hchk)
       obtain ⟨hlen, hcat⟩ := h2
       have hrun : (execOp a.eval o).run P w = .ok (.value (.slice (some ⟨w.heap.size, 0, none⟩) m m)) (w.alloc (.cells cells el)) := by
        have hfill : Instr.fill (fun i => some (i * inf.size, inf.size)) ((Array.range (m * inf.size)).map (fun i => (if m * inf.size = 0 then #[] else z.cells)[i % (if m * inf.size = 0 then #[] else z.cells).size]!)) (parts.map fun (i, x) => (i, a.eval x)).toList = some cells := by
         rw [hmap]; exact h1
        simp only [execOp, ho, Instr.buildSlice, Sem.run_bind, run_underlying hut, Result.andThen_ok, run_sz hinf]
        rw [if_neg (show ¬ m * inf.size > 2 ^ 24 by have : (2 : Nat) ^ 24 = 16777216 := (by decide); omega)]
        by_cases h0 : m * inf.size = 0
        ·rw [if_pos h0] at hfill
         simp only [h0, if_true, Sem.run_bind, Sem.run_pure, Result.andThen_ok] at hfill ⊢
         rw [hfill]
         simp only [newObj, Go.newRow, Sem.run_bind, Sem.run, Result.andThen]
         rfl
        ·rw [if_neg h0] at hfill
         simp only [h0, if_false, Sem.run_bind, run_zero hinf hz, Sem.run_pure, Result.andThen_ok] at hfill ⊢
         rw [hfill]
         simp only [newObj, Go.newRow, Sem.run_bind, Sem.run, Result.andThen]
         rfl
       unfold Oper.wp
       rw [hrun]
       have hmx : m ≤ maxLen := by unfold maxLen; omega
       refine hn _ _ _ (newRow hcat hlen hmx hm.fz) ?_
       show [Value.slice _ _ _] = [_] ∧ _
       simp [Gh.put, Value.oneCell']
      ·cases h
     ·cases h
    ·cases h
   ·cases h
  ·cases h
 ·cases h
theorem made_get (z : Array Value) (N i : Nat) : (madeCells z N).toList[i]? = if i < N then some (z[i % z.size]!) else none := by
 unfold madeCells
 rw [Array.getElem?_toList, Array.getElem?_map]
 by_cases h : i < N
 ·simp [h]
 ·simp [h]
theorem made_cat {w : World} {fz : Nat → Prop} {e : Sh} {z : Array Value} (hz : ShR w fz e e.dflt z.toList) (h0 : 0 < e.size) : ∀ n : Nat, CatR (ShR w fz e) (List.replicate n e.dflt) (madeCells z (n * e.size)).toList
 | 0 => by
  show (madeCells z (0 * e.size)).toList = []
  apply List.length_eq_zero_iff.1
  rw [Array.length_toList, size_madeCells]; omega
 | n + 1 => by
  have hl := ShR.length e _ _ hz
  rw [Array.length_toList] at hl
  refine ⟨z.toList, (madeCells z (n * e.size)).toList, ?_, hz, made_cat hz h0 n⟩
  apply List.ext_getElem?
  intro i
  rw [made_get]
  rcases Nat.lt_or_ge i e.size with h | h
  ·rw [List.getElem?_append_left (by rw [Array.length_toList]; omega), Nat.mod_eq_of_lt (by omega), if_pos (by rw [Nat.succ_mul]; omega), Array.getElem?_toList]
   simp [hl, h]
  ·rw [List.getElem?_append_right (by rw [Array.length_toList]; omega), made_get, Array.length_toList, hl]
   have e1 : i % e.size = (i - e.size) % e.size := by rw [Nat.mod_eq_sub_mod h]
   have e2 : (i < (n + 1) * e.size) = (i - e.size < n * e.size) := by rw [Nat.succ_mul]; apply propext; omega
   rw [e1]
   simp only [e2]
def evMake (P : Program) (ts : List AV) (t : TypeId) (l c : Operand) : Option (Blk × Prop) :=
 match P.underlying t with
 | some (.slice el) =>
  match P.info? el, shOf P 12 el with
  | some inf, some e =>
   match inf.zero with
   | some z =>
    if (decide (inf.size = e.size) && (decide (0 < e.size) && (decide (inf.bytes ≤ 16384) && (e.av e.dflt).chk z.cells.toList))) = true then
     match ev ts l, ev ts c with
     | some (.int _ n), some (.int _ m) => some (.row el e (List.replicate n.toNat e.dflt), n = m ∧ (0 ≤ n ∧ n ≤ 17179869184))
     | _, _ => none
    else none
   | none => none
  | _, _ => none
 | _ => none
theorem evMake_ok {P : Program} {o : Oper} {ts : List AV} {mem : List Blk} {base : Nat} {t : TypeId} {l c : Operand} {b : Blk} {C : Prop} (ho : o.op = .makeSlice t l c) (h : evMake P ts t l c = some (b, C)) :
  PureOp P o ts mem base (.row base) [b] C := by
 intro B w G a hC hm ht hrt hrm next Q hn
 unfold evMake at h
 split at h
 ·rename_i el hut
  split at h
  ·rename_i inf e hinf hsh
   split at h
   ·rename_i z hz
    split at h
    ·rename_i hcond
     simp only [Bool.and_eq_true, decide_eq_true_eq] at hcond
     obtain ⟨hsz, h0, hby, hchk⟩ := hcond
     split at h
     ·rename_i k1 n k2 m hl hc
      simp only [Option.some.injEq, Prod.mk.injEq] at h
      obtain ⟨rfl, rfl⟩ := h
      obtain ⟨rfl, hn0, hn1⟩ := hC
      have el1 := val_int (ev_ok ht hl)
      have ec1 := val_int (ev_ok ht hc)
      have hbytes : (inf.bytes : Int) * n ≤ 281474976710656 := by
       have h1 : (inf.bytes : Int) * n ≤ 16384 * n := Int.mul_le_mul_of_nonneg_right (by omega) hn0
       omega
      have hr := run_make (P := P) w t el inf z hut hinf hz k1 k2 n n hn0 (Int.le_refl _) hbytes (by omega)
      have hzc : ShR w G.fz e e.dflt z.cells.toList := (CellsR.av e e.dflt _).1 (AV.chk_ok _ _ hchk)
      have hcat := made_cat hzc h0 n.toNat
      have hmx : n.toNat ≤ maxLen := by unfold maxLen; omega
      unfold Oper.wp
      simp only [execOp, ho, el1, ec1, Sem.run_bind, hr, Result.andThen_ok, Sem.run_pure]
      rw [hsz]
      refine hn _ _ _ (newRow hcat (by simp) hmx hm.fz) ?_
      show [Value.slice _ _ _] = [_] ∧ _
      simp [Gh.put, Value.oneCell']
     ·cases h
    ·cases h
   ·cases h
  ·cases h
 ·cases h
def Sh.noView : Sh → Bool
 | .pair a b => a.noView && b.noView
 | .st a => a.noView
 | .arr _ a => a.noView
 | .sl _ => false
 | _ => true
def AV.noView : AV → Bool
 | .cons a b => a.noView && b.noView
 | .st a => a.noView
 | .arr _ e _ => e.noView
 | .sl _ _ => false
 | .pv _ => false
 | .ifc _ e _ _ => e.noView
 | .fn _ c => c.noView
 | .tup a => a.noView
 | _ => true
def Blk.noView : Blk → Bool
 | .box _ c => c.noView
 | .row _ e _ => e.noView
 | .dead => true
 | .sav _ _ => false
 | .iter _ _ => true
 | .map _ k e _ => k.noView && e.noView
 | .bbuf _ e _ => e.noView
 | .rowl _ e _ none => e.noView
 | .rowl _ _ _ (some _) => false
theorem ShR.refz {w : World} {fz fz2 : Nat → Prop} : ∀ (s : Sh) (x : s.T) (cs : List Value), (s.noView = true ∨ ∀ b, fz b → fz2 b) → ShR w fz s x cs → ShR w fz2 s x cs
 | .int _, _, _, _, h | .bool, _, _, _, h | .str, _, _, _, h | .unit, _, _, _, h => h
 | .pair a b, x, cs, hv, h => by
  obtain ⟨c1, c2, e, h1, h2⟩ := h
  refine ⟨c1, c2, e, ShR.refz a _ _ ?_ h1, ShR.refz b _ _ ?_ h2⟩
  ·exact hv.imp (fun h => by simp only [Sh.noView, Bool.and_eq_true] at h; exact h.1) id
  ·exact hv.imp (fun h => by simp only [Sh.noView, Bool.and_eq_true] at h; exact h.2) id
 | .st a, x, cs, hv, h => ShR.refz a x cs hv h
 | .arr n a, x, cs, hv, h => ⟨h.1, CatR.mono (fun y c hy => ShR.refz a y c hv hy) _ _ h.2⟩
 | .sl a, x, cs, hv, h => by
  have hf := hv.resolve_left (by simp [Sh.noView])
  obtain ⟨ad, cap, e, h1, h2, h3⟩ := h
  refine ⟨ad, cap, e, h1, h2, fun h0 => ?_⟩
  obtain ⟨b, off, cells, e2, hb, hlt, hc, hx⟩ := h3 h0
  exact ⟨b, off, cells, e2, hf b hb, hlt, CatR.mono (fun y c hy => ShR.refz a y c (.inr hf) hy) _ _ hc, hx⟩
def AV.shift (n : Nat) : AV → AV
 | .cons a b => .cons (a.shift n) (b.shift n)
 | .st a => .st (a.shift n)
 | .row r => .row (r + n)
 | .sub r size lo m => .sub (r + n) size lo m
 | .mp r => .mp (r + n)
 | .ptr b p => .ptr (b + n) p
 | .slf b z => .slf (b + n) z
 | .fn f c => .fn f (c.shift n)
 | .tup a => .tup (a.shift n)
 | .pv c => .pv (c.shift n)
 | a => a
def Blk.shift (n : Nat) : Blk → Blk
 | .box t c => .box t (c.shift n)
 | .sav ts a => .sav (ts.map (AV.shift n)) a
 | .rowl t e l (some (z, c)) => .rowl t e l (some (z, c.shift n))
 | b => b
structure Shifts (G G2 : Gh) (n len : Nat) : Prop where
 addr : ∀ i, i < len → G2.addr (i + n) = G.addr i
 rowv : ∀ i, i < len → G2.rowv (i + n) = G.rowv i
theorem CellsR.shift {w : World} {G G2 : Gh} {n len : Nat} (hs : Shifts G G2 n len) : ∀ (a : AV) (cs : List Value), (∀ r ∈ a.refs, r < len) → (a.noView = true ∨ ∀ b, G.fz b → G2.fz b) → CellsR w G a cs → CellsR w G2 (a.shift n) cs
 | .unk, _, _, _, h | .int .., _, _, _, h | .bool .., _, _, _, h | .str .., _, _, _, h | .nil, _, _, _, h | .nilS, _, _, _, h | .nilP, _, _, _, h | .tup _, _, _, _, h | .emp, _, _, _, h | .opq _, _, _, _, h => h
 | .sub r size lo m, cs, hr, _, h => by
  simp only [AV.shift, CellsR] at h ⊢
  rw [hs.rowv _ (hr r (by simp [AV.refs]))]; exact h
 | .mp r, cs, hr, _, h => by
  simp only [AV.shift, CellsR] at h ⊢
  rw [hs.addr _ (hr r (by simp [AV.refs]))]; exact h
 | .ifc t e x b, cs, _, hv, h => ⟨fun hb => by obtain ⟨v, e1, h1, h2⟩ := h.1 hb; exact ⟨v, e1, h1, ShR.refz e x _ (hv.imp (fun h => h) id) h2⟩, h.2⟩
 | .cons a b, cs, hr, hv, h => by
  obtain ⟨c1, c2, e, h1, h2⟩ := h
  refine ⟨c1, c2, e, CellsR.shift hs a _ (fun r hr' => hr r (by simp [AV.refs, hr'])) ?_ h1, CellsR.shift hs b _ (fun r hr' => hr r (by simp [AV.refs, hr'])) ?_ h2⟩
  ·exact hv.imp (fun h => by simp only [AV.noView, Bool.and_eq_true] at h; exact h.1) id
  ·exact hv.imp (fun h => by simp only [AV.noView, Bool.and_eq_true] at h; exact h.2) id
 | .st a, cs, hr, hv, h => CellsR.shift hs a cs hr hv h
 | .arr n' e l, cs, _, hv, h => ShR.refz (.arr n' e) l cs (hv.imp (fun h => h) id) h
 | .sl e l, cs, _, hv, h => ShR.refz (.sl e) l cs (hv.imp (fun h => by simp [AV.noView] at h) id) h
 | .row r, cs, hr, _, h => by
  simp only [AV.shift, CellsR] at h ⊢
  rw [hs.rowv _ (hr r (by simp [AV.refs]))]; exact h
 | .ptr b p, cs, hr, _, h => by
  simp only [AV.shift, CellsR] at h ⊢
  rw [hs.addr _ (hr b (by simp [AV.refs]))]; exact h
 | .slf b z, cs, hr, _, h => by
  simp only [AV.shift, CellsR] at h ⊢
  rw [hs.addr _ (hr b (by simp [AV.refs]))]; exact h
 | .fn f c, cs, hr, hv, h => by
  obtain ⟨vs, e, h1⟩ := h
  exact ⟨vs, e, CellsR.shift hs c vs hr hv h1⟩
 | .pv c, cs, hr, hv, h => by
  have hf := hv.resolve_left (by simp [AV.noView])
  obtain ⟨b, off, e, hfz, hb, cells, hc, hx⟩ := h
  exact ⟨b, off, e, hf b hfz, hb, cells, CellsR.shift hs c cells hr (.inr hf) hc, hx⟩
theorem ValR0.shift {w : World} {G G2 : Gh} {n len : Nat} (hs : Shifts G G2 n len) (a : AV) (v : Value) (hr : ∀ r ∈ a.refs, r < len) (hv : a.noView = true ∨ ∀ b, G.fz b → G2.fz b) (h : ValR0 w G a v) : ValR0 w G2 (a.shift n) v := by
 cases a with
 | st a => obtain ⟨cs, e, h1⟩ := h; exact ⟨cs, e, CellsR.shift hs a _ hr hv h1⟩
 | arr m e l => obtain ⟨cs, e', h1⟩ := h; exact ⟨cs, e', ShR.refz (.arr m e) l _ hv h1⟩
 | unk => trivial
 | _ => exact CellsR.shift hs _ _ hr hv h
theorem ValsR.shift {w : World} {G G2 : Gh} {n len : Nat} (hs : Shifts G G2 n len) : ∀ (a : AV) (vs : List Value), (∀ r ∈ a.refs, r < len) → (a.noView = true ∨ ∀ b, G.fz b → G2.fz b) → ValsR w G a vs → ValsR w G2 (a.shift n) vs
 | .nil, vs, _, _, h => h
 | .cons a b, vs, hr, hv, h => by
  obtain ⟨v, t, e, h1, h2⟩ := h
  refine ⟨v, t, e, ValR0.shift hs a v (fun r hr' => hr r (by simp [AV.refs, hr'])) ?_ h1, ValsR.shift hs b t (fun r hr' => hr r (by simp [AV.refs, hr'])) ?_ h2⟩
  ·exact hv.imp (fun h => by simp only [AV.noView, Bool.and_eq_true] at h; exact h.1) id
  ·exact hv.imp (fun h => by simp only [AV.noView, Bool.and_eq_true] at h; exact h.2) id
 | .unk, _, _, _, h | .int .., _, _, _, h | .bool .., _, _, _, h | .str .., _, _, _, h | .st .., _, _, _, h | .arr .., _, _, _, h | .sl .., _, _, _, h | .nilS, _, _, _, h | .row .., _, _, _, h | .ptr .., _, _, _, h | .slf .., _, _, _, h | .nilP, _, _, _, h | .fn .., _, _, _, h | .tup .., _, _, _, h | .emp, _, _, _, h | .pv .., _, _, _, h | .sub .., _, _, _, h | .mp .., _, _, _, h | .ifc .., _, _, _, h | .opq .., _, _, _, h => h.elim
theorem ValR.shift {w : World} {G G2 : Gh} {n len : Nat} (hs : Shifts G G2 n len) (a : AV) (v : Value) (hr : ∀ r ∈ a.refs, r < len) (hv : a.noView = true ∨ ∀ b, G.fz b → G2.fz b) (h : ValR w G a v) : ValR w G2 (a.shift n) v := by
 cases a with
 | tup a => obtain ⟨vs, e, h1⟩ := h; exact ⟨vs, e, ValsR.shift hs a _ hr hv h1⟩
 | unk => trivial
 | _ => exact ValR0.shift (w := w) hs _ v hr hv h
def ArgsR (w : World) (G : Gh) : List AV → List Value → Prop
 | [], vs => vs = []
 | a :: l, vs => ∃ v t, vs = v :: t ∧ ValR0 w G a v ∧ ArgsR w G l t
def G0 (fz : Nat → Prop) : Gh := ⟨fun _ => default, fun _ => undef, fz⟩
def PureC (P : Program) (f : Nat) (args : List AV) (res : AV) (new : List Blk) : Prop :=
 ∀ (w : World) (fz : Nat → Prop) (vs : List Value), ((∀ b, fz b → b < w.heap.size) ∧ Bs w.heap.size w) → ArgsR w (G0 fz) args vs →
  Calls P f vs.toArray w fun e w' => ∃ v G', e = .returned v ∧ NewR w w' (G0 fz) G' 0 new ∧ ValR w' G' res v
def callable (P : Program) (f : Nat) : Bool :=
 match P.funcs[f]? with
 | some fn => fn.body.isSome && fn.name != "runtime.NumGoroutine"
 | none => false
theorem run_callFunc {P : Program} {w : World} {f : Nat} (h : callable P f = true) (args : Array Value) : (callFunc f args).run P w = .ok (.enter f args) w := by
 unfold callable at h
 split at h
 ·rename_i fn hfn
  simp only [Bool.and_eq_true, bne_iff_ne, ne_eq] at h
  have hb : fn.body.isNone = false := by cases hb : fn.body <;> simp [hb] at h ⊢
  have hn : (fn.name == "runtime.NumGoroutine") = false := by simpa using h.2
  unfold callFunc program
  simp only [Sem.run_bind]
  simp only [Sem.run, Result.andThen, hfn, hn, hb, Bool.false_eq_true, if_false]
  rfl
 ·cases h
def capsL : AV → Option (List AV)
 | .nil => some []
 | .cons a b => (capsL b).map (a :: ·)
 | _ => none
theorem capsL_ok {w : World} {G : Gh} : ∀ (c : AV) (l : List AV) (vs : List Value), capsL c = some l → (∀ a ∈ l, a.flat = true) → CellsR w G c vs → ArgsR w G l vs
 | .nil, l, vs, h, _, hc => by simp only [capsL, Option.some.injEq] at h; subst h; exact hc
 | .cons a b, l, vs, h, hf, hc => by
  simp only [capsL, Option.map_eq_some_iff] at h
  obtain ⟨l', hl, rfl⟩ := h
  obtain ⟨c1, c2, rfl, h1, h2⟩ := hc
  have hfa := hf a (by simp)
  have hlen := CellsR.length a c1 h1
  rw [flat_size hfa] at hlen
  obtain ⟨v, rfl⟩ := list_one hlen
  exact ⟨v, c2, rfl, (ValR0.flat hfa).2 h1, capsL_ok b l' c2 hl (fun x hx => hf x (by simp [hx])) h2⟩
 | .unk, _, _, h, _, _ | .int .., _, _, h, _, _ | .bool .., _, _, h, _, _ | .str .., _, _, h, _, _ | .st .., _, _, h, _, _ | .arr .., _, _, h, _, _ | .sl .., _, _, h, _, _ | .nilS, _, _, h, _, _ | .row .., _, _, h, _, _ | .ptr .., _, _, h, _, _ | .slf .., _, _, h, _, _ | .nilP, _, _, h, _, _ | .fn .., _, _, h, _, _ | .tup .., _, _, h, _, _ | .emp, _, _, h, _, _ | .pv .., _, _, h, _, _ => by cases h
def notTup : AV → Bool
 | .tup _ => false
 | _ => true
theorem notTup_ok {a : AV} (h : notTup a = true) : ∀ b, a ≠ .tup b := by intro b e; subst e; cases h
def evArgs (ts : List AV) : List Operand → Option (List AV)
 | [] => some []
 | x :: l =>
  match ev ts x, evArgs ts l with
  | some a, some as => if notTup a then some (a :: as) else none
  | _, _ => none
theorem evArgs_ok {w : World} {G : Gh} {ts : List AV} {a : Act} (ht : TmpsR w G ts a) : ∀ (l : List Operand) (as : List AV), evArgs ts l = some as → ArgsR w G as (l.map a.eval)
 | [], as, h => by simp only [evArgs, Option.some.injEq] at h; subst h; rfl
 | x :: l, as, h => by
  simp only [evArgs] at h
  split at h
  ·rename_i u us hu hus
   split at h
   ·rename_i hn
    simp only [Option.some.injEq] at h; subst h
    exact ⟨_, _, rfl, (ev_ok ht hu).to0 (notTup_ok hn), evArgs_ok ht l us hus⟩
   ·cases h
  ·cases h
theorem ArgsR.append {w : World} {G : Gh} : ∀ {l m : List AV} {a b : List Value}, ArgsR w G l a → ArgsR w G m b → ArgsR w G (l ++ m) (a ++ b)
 | [], m, a, b, ha, hb => by simp only [ArgsR] at ha; subst ha; simpa using hb
 | x :: l, m, a, b, ⟨v, t, e, h1, h2⟩, hb => ⟨v, t ++ b, by rw [e]; rfl, h1, ArgsR.append h2 hb⟩
def lendC (mem : List Blk) : AV → Option AV
 | .cons a b =>
  match lendC mem a, lendC mem b with
  | some x, some y => some (.cons x y)
  | _, _ => none
 | .st a => (lendC mem a).map .st
 | .row r =>
  match lk mem r with
  | .row _ e l => some (.sl e l)
  | _ => none
 | .sub r size lo n =>
  match lk mem r with
  | .row _ e l => if size = e.size then some (.sl e ((l.take (lo + n)).drop lo)) else none
  | _ => none
 | .mp _ => none
 | .ptr _ _ => none
 | .slf _ _ => none
 | .fn f c => if c.refs.isEmpty then some (.fn f c) else none
 | .tup _ => none
 | .pv c => if c.refs.isEmpty then some (.pv c) else none
 | a => some a
def lend (mem : List Blk) : AV → Option (AV × Prop)
 | .cons a b =>
  match lend mem a, lend mem b with
  | some (x, C), some (y, D) => some (.cons x y, C ∧ D)
  | _, _ => none
 | .st a => (lend mem a).map fun (x, C) => (.st x, C)
 | .ptr b q =>
  match blkAV (lk mem b) with
  | some c =>
   match AV.get q c with
   | some (c', C) => if 0 < c'.size then (lendC mem c').map fun x => (.pv x, C) else none
   | none => none
  | none => none
 | .fn f c => (lend mem c).map fun (x, C) => (.fn f x, C)
 | a => (lendC mem a).map fun x => (x, True)
def allF (w : World) : Nat → Prop := fun b => b < w.heap.size
theorem ShR.toAll {w : World} {fz : Nat → Prop} (hf : ∀ b, fz b → b < w.heap.size) (s : Sh) (x : s.T) (cs : List Value) (h : ShR w fz s x cs) : ShR w (allF w) s x cs := ShR.refz s x cs (.inr hf) h
theorem CellsR.norefs {w : World} {G : Gh} {fz2 : Nat → Prop} (hf : ∀ b, G.fz b → fz2 b) : ∀ (a : AV) (cs : List Value), a.refs = [] → CellsR w G a cs → CellsR w (G0 fz2) a cs
 | .unk, _, _, h | .int .., _, _, h | .bool .., _, _, h | .str .., _, _, h | .nil, _, _, h | .nilS, _, _, h | .nilP, _, _, h | .tup _, _, _, h | .emp, _, _, h | .opq _, _, _, h => h
 | .sub .., _, hr, _ => by simp [AV.refs] at hr
 | .mp _, _, hr, _ => by simp [AV.refs] at hr
 | .ifc t e x b, cs, _, h => ⟨fun hb => by obtain ⟨v, e1, h1, h2⟩ := h.1 hb; exact ⟨v, e1, h1, ShR.refz e x _ (.inr hf) h2⟩, h.2⟩
 | .cons a b, cs, hr, h => by
  simp only [AV.refs, List.append_eq_nil_iff] at hr
  obtain ⟨c1, c2, e, h1, h2⟩ := h
  exact ⟨c1, c2, e, CellsR.norefs hf a _ hr.1 h1, CellsR.norefs hf b _ hr.2 h2⟩
 | .st a, cs, hr, h => CellsR.norefs hf a cs hr h
 | .arr n e l, cs, _, h => ShR.refz (.arr n e) l cs (.inr hf) h
 | .sl e l, cs, _, h => ShR.refz (.sl e) l cs (.inr hf) h
 | .row r, _, hr, _ => by simp [AV.refs] at hr
 | .ptr b p, _, hr, _ => by simp [AV.refs] at hr
 | .slf b z, _, hr, _ => by simp [AV.refs] at hr
 | .fn f c, cs, hr, h => by
  obtain ⟨vs, e, h1⟩ := h
  exact ⟨vs, e, CellsR.norefs hf c vs hr h1⟩
 | .pv c, cs, hr, h => by
  obtain ⟨b, off, e, hfz, hb, cells, hc, hx⟩ := h
  exact ⟨b, off, e, hf b hfz, hb, cells, CellsR.norefs hf c cells hr hc, hx⟩
theorem lend_row {B : Nat} {w : World} {G : Gh} {mem : List Blk} (hm : MemR B w G mem) {r : Nat} {t : TypeId} {e : Sh} {l : List e.T} (h : lk mem r = .row t e l) : ShR w (allF w) (.sl e) l [G.rowv r] := by
 have hb := hm.blk r
 rw [h] at hb
 obtain ⟨ha, cs, hrow, hcat⟩ := hb
 rcases hrow with ⟨hn, rfl, a, hv⟩ | ⟨g, cap, rest, hv, hcap, _, ho, h1, h2, h3, _⟩
 ·refine ⟨a, 0, by rw [hv, hn], by omega, Nat.zero_le _, fun h0 => by omega⟩
 ·refine ⟨_, cap, by rw [hv], h1, h2, fun _ => ⟨g, 0, cs, rfl, ho.lt, ho.lt, CatR.mono (fun y c hy => ShR.toAll hm.fz e y c hy) _ _ hcat, fun i v hi => ?_⟩⟩
  rw [Nat.zero_add]
  exact ho.cell hi
theorem ShR.subv {w : World} {fz : Nat → Prop} {e : Sh} {l : List e.T} {rv v : Value} (h : ShR w fz (.sl e) l [rv]) {lo n : Nat} (hs : SubR e.size lo n rv v) : ShR w fz (.sl e) ((l.take (lo + n)).drop lo) [v] := by
 obtain ⟨ad, cap, e1, h1, h2, h3⟩ := h
 obtain ⟨ad2, N, cap2, a', e2, g1, g2, rfl, g3, g4⟩ := hs
 have e3 := (List.cons.inj e1).1
 rw [e2] at e3
 obtain ⟨rfl, rfl, rfl⟩ := Value.slice.inj e3
 have hlen : ((l.take (lo + n)).drop lo).length = n := by rw [List.length_drop, List.length_take]; omega
 refine ⟨_, cap2 - lo, by rw [hlen], by rw [hlen]; omega, by omega, fun h0 => ?_⟩
 rw [hlen] at h0
 obtain ⟨b, off, cells, rfl, hf, hb, hc, hx⟩ := h3 (by omega)
 obtain ⟨ca, cb, cc, rfl, hla, hcb⟩ := CatR.sub (fun x c hy => ShR.length e x c hy) hc (lo := lo) (hi := lo + n) (by omega) g3
 refine ⟨b, off + lo * e.size, cb, ?_, hf, hb, hcb, fun i v hi => ?_⟩
 ·rw [g4 (by omega), Option.map_some, addr_add']
 ·have hlt : i < cb.length := (List.getElem?_eq_some_iff.1 hi).1
  have := hx (ca.length + i) v (by rw [List.append_assoc, List.getElem?_append_right (by omega), show ca.length + i - ca.length = i by omega, List.getElem?_append_left hlt]; exact hi)
  rw [hla, ← Nat.add_assoc] at this
  exact this
theorem lendC_ok {B : Nat} {w : World} {G : Gh} {mem : List Blk} (hm : MemR B w G mem) : ∀ (a x : AV) (cs : List Value), lendC mem a = some x → CellsR w G a cs → CellsR w (G0 (allF w)) x cs
 | .cons a b, x, cs, h, hc => by
  simp only [lendC] at h
  split at h
  ·rename_i u v hu hv
   simp only [Option.some.injEq] at h; subst h
   obtain ⟨c1, c2, e, h1, h2⟩ := hc
   exact ⟨c1, c2, e, lendC_ok hm a u c1 hu h1, lendC_ok hm b v c2 hv h2⟩
  ·cases h
 | .st a, x, cs, h, hc => by
  simp only [lendC, Option.map_eq_some_iff] at h
  obtain ⟨u, hu, rfl⟩ := h
  exact lendC_ok hm a u cs hu hc
 | .row r, x, cs, h, hc => by
  simp only [lendC] at h
  split at h
  ·rename_i t e l hlk
   simp only [Option.some.injEq] at h; subst h
   obtain ⟨rfl, _⟩ := hc
   exact lend_row hm hlk
  ·cases h
 | .sub r size lo n, x, cs, h, hc => by
  simp only [lendC] at h
  split at h
  ·rename_i t e l hlk
   split at h
   ·rename_i hz
    simp only [Option.some.injEq] at h; subst h; subst hz
    obtain ⟨v, rfl, hs⟩ := hc
    exact (lend_row hm hlk).subv hs
   ·cases h
  ·cases h
 | .mp _, x, cs, h, _ => by cases h
 | .opq _, x, cs, h, hc => by simp only [lendC, Option.some.injEq] at h; subst h; exact hc
 | .ifc t e y b, x, cs, h, hc => by simp only [lendC, Option.some.injEq] at h; subst h; exact CellsR.norefs hm.fz (.ifc t e y b) cs rfl hc
 | .ptr _ _, x, cs, h, _ => by cases h
 | .slf _ _, x, cs, h, _ => by cases h
 | .tup _, x, cs, h, _ => by cases h
 | .fn f c, x, cs, h, hc => by
  simp only [lendC] at h
  split at h
  ·rename_i hr
   simp only [Option.some.injEq] at h; subst h
   exact CellsR.norefs hm.fz (.fn f c) cs (by simpa [AV.refs] using hr) hc
  ·cases h
 | .pv c, x, cs, h, hc => by
  simp only [lendC] at h
  split at h
  ·rename_i hr
   simp only [Option.some.injEq] at h; subst h
   exact CellsR.norefs hm.fz (.pv c) cs (by simpa [AV.refs] using hr) hc
  ·cases h
 | .unk, x, cs, h, hc => by simp only [lendC, Option.some.injEq] at h; subst h; exact hc
 | .int .., x, cs, h, hc => by simp only [lendC, Option.some.injEq] at h; subst h; exact hc
 | .bool .., x, cs, h, hc => by simp only [lendC, Option.some.injEq] at h; subst h; exact hc
 | .str .., x, cs, h, hc => by simp only [lendC, Option.some.injEq] at h; subst h; exact hc
 | .nil, x, cs, h, hc => by simp only [lendC, Option.some.injEq] at h; subst h; exact hc
 | .nilS, x, cs, h, hc => by simp only [lendC, Option.some.injEq] at h; subst h; exact hc
 | .nilP, x, cs, h, hc => by simp only [lendC, Option.some.injEq] at h; subst h; exact hc
 | .emp, x, cs, h, hc => by simp only [lendC, Option.some.injEq] at h; subst h; exact hc
 | .arr n e l, x, cs, h, hc => by simp only [lendC, Option.some.injEq] at h; subst h; exact ShR.refz (.arr n e) l cs (.inr hm.fz) hc
 | .sl e l, x, cs, h, hc => by simp only [lendC, Option.some.injEq] at h; subst h; exact ShR.refz (.sl e) l cs (.inr hm.fz) hc
theorem lend_ok {B : Nat} {w : World} {G : Gh} {mem : List Blk} (hm : MemR B w G mem) : ∀ (a x : AV) (C : Prop) (cs : List Value), lend mem a = some (x, C) → C → CellsR w G a cs → CellsR w (G0 (allF w)) x cs
 | .cons a b, x, C, cs, h, hC, hc => by
  simp only [lend] at h
  split at h
  ·rename_i u D v E hu hv
   simp only [Option.some.injEq, Prod.mk.injEq] at h
   obtain ⟨rfl, rfl⟩ := h
   obtain ⟨c1, c2, e, h1, h2⟩ := hc
   exact ⟨c1, c2, e, lend_ok hm a u D c1 hu hC.1 h1, lend_ok hm b v E c2 hv hC.2 h2⟩
  ·cases h
 | .st a, x, C, cs, h, hC, hc => by
  simp only [lend, Option.map_eq_some_iff, Prod.mk.injEq, Prod.exists] at h
  obtain ⟨u, D, hu, rfl, rfl⟩ := h
  exact lend_ok hm a u D cs hu hC hc
 | .fn f c, x, C, cs, h, hC, hc => by
  simp only [lend, Option.map_eq_some_iff, Prod.mk.injEq, Prod.exists] at h
  obtain ⟨u, D, hu, rfl, rfl⟩ := h
  obtain ⟨vs, e, h1⟩ := hc
  exact ⟨vs, e, lend_ok hm c u D vs hu hC h1⟩
 | .ptr b q, x, C, cs, h, hC, hc => by
  simp only [lend] at h
  split at h
  ·rename_i c hcb
   split at h
   ·rename_i c' D hget
    split at h
    ·rename_i hz
     simp only [Option.map_eq_some_iff, Prod.mk.injEq] at h
     obtain ⟨y, hy, rfl, rfl⟩ := h
     obtain ⟨cells, h1, h2⟩ := blk_at (hm.blk b) hcb
     obtain ⟨c1, c2, c3, rfl, hlen, h3⟩ := AV.get_ok q c c' D cells hget hC h1
     have hat := At.sub (w := w) (b := (G.addr b).block) (off := (G.addr b).off) (c1 := c1) (c2 := c2) (c3 := c3) ⟨rfl, h2⟩
     rw [hlen] at hat
     have hl2 := CellsR.length c' c2 h3
     have hlt : (G.addr b).block < w.heap.size := by
      have h0 : 0 < c2.length := by omega
      have := hat.2 0 c2[0] (List.getElem?_eq_getElem h0)
      exact World.block_lt_of_cell? w (a := ⟨(G.addr b).block, (G.addr b).off + offs q + 0, none⟩) this
     exact ⟨_, _, hc, hlt, hlt, c2, lendC_ok hm c' y c2 hy h3, hat.2⟩
    ·cases h
   ·cases h
  ·cases h
 | .row r, x, C, cs, h, _, hc => by simp only [lend, Option.map_eq_some_iff, Prod.mk.injEq] at h; obtain ⟨y, hy, rfl, _⟩ := h; exact lendC_ok hm _ _ cs hy hc
 | .sub .., x, C, cs, h, _, hc => by simp only [lend, Option.map_eq_some_iff, Prod.mk.injEq] at h; obtain ⟨y, hy, rfl, _⟩ := h; exact lendC_ok hm _ _ cs hy hc
 | .mp _, x, C, cs, h, _, hc => by simp only [lend, Option.map_eq_some_iff, Prod.mk.injEq] at h; obtain ⟨y, hy, rfl, _⟩ := h; exact lendC_ok hm _ _ cs hy hc
 | .ifc .., x, C, cs, h, _, hc => by simp only [lend, Option.map_eq_some_iff, Prod.mk.injEq] at h; obtain ⟨y, hy, rfl, _⟩ := h; exact lendC_ok hm _ _ cs hy hc
 | .slf _ _, x, C, cs, h, _, hc => by simp only [lend, Option.map_eq_some_iff, Prod.mk.injEq] at h; obtain ⟨y, hy, rfl, _⟩ := h; exact lendC_ok hm _ _ cs hy hc
 | .opq _, x, C, cs, h, _, hc => by simp only [lend, Option.map_eq_some_iff, Prod.mk.injEq] at h; obtain ⟨y, hy, rfl, _⟩ := h; exact lendC_ok hm _ _ cs hy hc
 | .tup a, x, C, cs, h, _, hc => hc.elim
 | .pv a, x, C, cs, h, _, hc => by simp only [lend, Option.map_eq_some_iff, Prod.mk.injEq] at h; obtain ⟨y, hy, rfl, _⟩ := h; exact lendC_ok hm _ _ cs hy hc
 | .unk, x, C, cs, h, _, hc => by simp only [lend, Option.map_eq_some_iff, Prod.mk.injEq] at h; obtain ⟨y, hy, rfl, _⟩ := h; exact lendC_ok hm _ _ cs hy hc
 | .int .., x, C, cs, h, _, hc => by simp only [lend, Option.map_eq_some_iff, Prod.mk.injEq] at h; obtain ⟨y, hy, rfl, _⟩ := h; exact lendC_ok hm _ _ cs hy hc
 | .bool .., x, C, cs, h, _, hc => by simp only [lend, Option.map_eq_some_iff, Prod.mk.injEq] at h; obtain ⟨y, hy, rfl, _⟩ := h; exact lendC_ok hm _ _ cs hy hc
 | .str .., x, C, cs, h, _, hc => by simp only [lend, Option.map_eq_some_iff, Prod.mk.injEq] at h; obtain ⟨y, hy, rfl, _⟩ := h; exact lendC_ok hm _ _ cs hy hc
 | .nil, x, C, cs, h, _, hc => by simp only [lend, Option.map_eq_some_iff, Prod.mk.injEq] at h; obtain ⟨y, hy, rfl, _⟩ := h; exact lendC_ok hm _ _ cs hy hc
 | .nilS, x, C, cs, h, _, hc => by simp only [lend, Option.map_eq_some_iff, Prod.mk.injEq] at h; obtain ⟨y, hy, rfl, _⟩ := h; exact lendC_ok hm _ _ cs hy hc
 | .nilP, x, C, cs, h, _, hc => by simp only [lend, Option.map_eq_some_iff, Prod.mk.injEq] at h; obtain ⟨y, hy, rfl, _⟩ := h; exact lendC_ok hm _ _ cs hy hc
 | .emp, x, C, cs, h, _, hc => by simp only [lend, Option.map_eq_some_iff, Prod.mk.injEq] at h; obtain ⟨y, hy, rfl, _⟩ := h; exact lendC_ok hm _ _ cs hy hc
 | .arr .., x, C, cs, h, _, hc => by simp only [lend, Option.map_eq_some_iff, Prod.mk.injEq] at h; obtain ⟨y, hy, rfl, _⟩ := h; exact lendC_ok hm _ _ cs hy hc
 | .sl .., x, C, cs, h, _, hc => by simp only [lend, Option.map_eq_some_iff, Prod.mk.injEq] at h; obtain ⟨y, hy, rfl, _⟩ := h; exact lendC_ok hm _ _ cs hy hc
end Go.Proofs.YtghbnolfadnoaaaGreat
