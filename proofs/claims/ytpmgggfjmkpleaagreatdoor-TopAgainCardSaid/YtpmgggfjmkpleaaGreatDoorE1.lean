/- An exact machine, part 1: values, blocks, and what they say of the model's. -/
import Derived.WalkKit
import Derived.Below
import Derived.Laws.AppendOwn
import Derived.Laws.OwnMore
import Derived.Outline
import Derived.Orders
namespace Go.Proofs.YtpmgggfjmkpleaaGreatDoor.E
open Go Go.RowKit
set_option linter.unusedVariables false

inductive V where
  | unk
  | int (k : IntKind) (n : Int)
  | bool (b : Bool)
  | str (s : List UInt8)
  | agg (l : List V)
  | tup (l : List V)
  | nils
  | sl (b o n c : Nat) (op : Bool)
  | nilp
  | ptr (b o : Nat)
  | nilm
  | mp (b : Nat)
  | nilf
  | fn (f : Nat) (l : List V)
  | nili
  | emp (z : Bool)
  | vec (d : Nat) (l : List V)
  | tx (l : List Nat)
  | sp (tag : Nat) (a b : Int)
/-- what is known of a number, or of a text's length: 0: it lies from a to b · 1: a text of whole blocks, at least a · 2: its length · 3: a text of no whole blocks · 4: its length -/
def spR (tag : Nat) (a b : Int) (x : Value) : Prop := match tag with
  | 0 => ∃ n, x = .int .i64 n ∧ a ≤ n ∧ n ≤ b
  | 1 => ∃ s : ByteArray, x = .string s ∧ (s.size : Int) % 16 = 0 ∧ a ≤ (s.size : Int) / 16 ∧ (s.size : Int) ≤ 9223372036854775807
  | 2 => ∃ n, x = .int .i64 n ∧ 0 ≤ n ∧ n % 16 = 0 ∧ a ≤ n / 16 ∧ n ≤ 9223372036854775807
  | 3 => ∃ s : ByteArray, x = .string s ∧ (s.size : Int) % 16 ≠ 0
  | 4 => ∃ n, x = .int .i64 n ∧ 0 ≤ n ∧ n % 16 ≠ 0
  | _ => True
/-- the dimensions: how many cases each has -/
def dimN (d : Nat) : Nat := match d with
  | 0 => 8
  | 1 => 12
  | 2 => 4
  | 3 => 8
  | 4 => 7
  | 5 => 6
  | 6 => 5
  | 7 => 4
  | 8 => 3
  | 9 => 2
  | _ => 1
/-- where the machine's blocks lie; how many elements the open ones hold -/
structure Gh where
  al : Nat → Prop
  ρ : Nat → Nat
  κ : Nat → Nat
  /-- the case of each dimension; the blocks of the text -/
  θ : (d : Nat) → Nat
  θlt : ∀ d, θ d < dimN d
  env : Nat → List UInt8
def capV (G : Gh) (b c : Nat) (op : Bool) : Nat := cond op (G.κ b - c) c
inductive CR (G : Gh) : V → Value → Prop where
  | unk (v : Value) : CR G .unk v
  | int (k : IntKind) (n : Int) : CR G (.int k n) (.int k n)
  | bool (b : Bool) : CR G (.bool b) (.bool b)
  | str (s : List UInt8) : CR G (.str s) (.string ⟨s.toArray⟩)
  | agg (l : List V) (cs : List Value) (h : cs.length = l.length) (h2 : ∀ i, CR G (l.getD i .unk) (cs.getD i undef)) (h3 : ∀ v ∈ cs, v.oneCell' = true) : CR G (.agg l) (.agg cs.toArray)
  | tup (l : List V) (cs : List Value) (h : cs.length = l.length) (h2 : ∀ i, CR G (l.getD i .unk) (cs.getD i undef)) : CR G (.tup l) (.tuple cs.toArray)
  | nils : CR G .nils (.slice none 0 0)
  | sl (b o n c : Nat) (op : Bool) (h : G.al b) (h2 : n ≤ capV G b c op) : CR G (.sl b o n c op) (.slice (some ⟨G.ρ b, o, none⟩) n (capV G b c op))
  | nilp : CR G .nilp (.pointer none)
  | ptr (b o : Nat) (h : G.al b) : CR G (.ptr b o) (.pointer (some ⟨G.ρ b, o, none⟩))
  | nilm : CR G .nilm (.map none)
  | mp (b : Nat) (h : G.al b) : CR G (.mp b) (.map (some (G.ρ b)))
  | nilf : CR G .nilf .nilFunc
  | fn (f : Nat) (l : List V) (cs : List Value) (h : cs.length = l.length) (h2 : ∀ i, CR G (l.getD i .unk) (cs.getD i undef)) : CR G (.fn f l) (.func (.func f) #[] cs.toArray)
  | nili : CR G .nili .nilIface
  | emp (z : Bool) (a : Addr) (c : Nat) (h : z = true → c = 0) : CR G (.emp z) (.slice (some a) 0 c)
  | vec (d : Nat) (l : List V) (x : Value) (h : CR G (l.getD (G.θ d) .unk) x) : CR G (.vec d l) x
  | sp (tag : Nat) (a b : Int) (x : Value) (h : spR tag a b x) : CR G (.sp tag a b) x
  | tx (l : List Nat) (h : ∀ a ∈ l, (G.env a).length = 16) : CR G (.tx l) (.string ⟨(l.flatMap G.env).toArray⟩)
/-- one list of values -/
def LR (G : Gh) (l : List V) (cs : List Value) : Prop := cs.length = l.length ∧ ∀ i, CR G (l.getD i .unk) (cs.getD i undef)
structure Ext (G G' : Gh) : Prop where
  al : ∀ b, G.al b → G'.al b
  ρ : ∀ b, G.al b → G'.ρ b = G.ρ b
  κ : ∀ b, G.al b → G'.κ b = G.κ b
  θ : G'.θ = G.θ
  env : G'.env = G.env
theorem Ext.refl (G : Gh) : Ext G G := ⟨fun _ h => h, fun _ _ => rfl, fun _ _ => rfl, rfl, rfl⟩
theorem Ext.trans {G G' G'' : Gh} (h : Ext G G') (k : Ext G' G'') : Ext G G'' :=
  ⟨fun b hb => k.al b (h.al b hb), fun b hb => (k.ρ b (h.al b hb)).trans (h.ρ b hb), fun b hb => (k.κ b (h.al b hb)).trans (h.κ b hb), k.θ.trans h.θ, k.env.trans h.env⟩
theorem CR.ext {G G' : Gh} (h : Ext G G') {v : V} {x : Value} (hc : CR G v x) : CR G' v x := by
  induction hc with
  | unk v => exact .unk v
  | int k n => exact .int k n
  | bool b => exact .bool b
  | str s => exact .str s
  | agg l cs e _ h3 ih => exact .agg l cs e ih h3
  | tup l cs e _ ih => exact .tup l cs e ih
  | nils => exact .nils
  | sl b o n c op hb hn =>
    have e : capV G' b c op = capV G b c op := by unfold capV; rw [h.κ b hb]
    have := CR.sl (G := G') b o n c op (h.al b hb) (by rw [e]; exact hn)
    rwa [e, h.ρ b hb] at this
  | nilp => exact .nilp
  | ptr b o hb => have := CR.ptr (G := G') b o (h.al b hb); rwa [h.ρ b hb] at this
  | nilm => exact .nilm
  | mp b hb => have := CR.mp (G := G') b (h.al b hb); rwa [h.ρ b hb] at this
  | nilf => exact .nilf
  | fn f l cs e _ ih => exact .fn f l cs e ih
  | nili => exact .nili
  | emp z a c h => exact .emp z a c h
  | vec d l x _ ih => exact .vec d l x (by rw [h.θ]; exact ih)
  | sp t a b x hx => exact .sp t a b x hx
  | tx l hl =>
    have := CR.tx (G := G') l (by rw [h.env]; exact hl)
    rwa [h.env] at this
theorem LR.ext {G G' : Gh} (h : Ext G G') {l : List V} {cs : List Value} (hc : LR G l cs) : LR G' l cs := ⟨hc.1, fun i => (hc.2 i).ext h⟩
theorem LR.nil {G : Gh} : LR G [] [] := ⟨rfl, fun i => .unk _⟩
theorem LR.cons {G : Gh} {v : V} {x : Value} {l : List V} {cs : List Value} (h : CR G v x) (hl : LR G l cs) : LR G (v :: l) (x :: cs) := by
  refine ⟨by simp [hl.1], fun i => ?_⟩
  cases i with
  | zero => exact h
  | succ i => exact hl.2 i
theorem LR.head {G : Gh} {v : V} {l : List V} {cs : List Value} (h : LR G (v :: l) cs) : ∃ x t, cs = x :: t ∧ CR G v x ∧ LR G l t := by
  obtain ⟨h1, h2⟩ := h
  match cs, h1 with
  | x :: t, h1 => exact ⟨x, t, rfl, h2 0, by simpa using h1, fun i => h2 (i + 1)⟩
theorem LR.nil_inv {G : Gh} {cs : List Value} (h : LR G [] cs) : cs = [] := List.length_eq_zero_iff.1 h.1
theorem LR.append {G : Gh} : ∀ {l m : List V} {a b : List Value}, LR G l a → LR G m b → LR G (l ++ m) (a ++ b)
  | [], m, a, b, ha, hb => by obtain rfl := ha.nil_inv; exact hb
  | v :: l, m, a, b, ha, hb => by
    obtain ⟨x, t, rfl, h1, h2⟩ := ha.head
    exact (h2.append hb).cons h1
theorem LR.split {G : Gh} : ∀ {l m : List V} {cs : List Value}, LR G (l ++ m) cs → ∃ a b, cs = a ++ b ∧ LR G l a ∧ LR G m b
  | [], m, cs, h => ⟨[], cs, rfl, .nil, h⟩
  | v :: l, m, cs, h => by
    obtain ⟨x, t, rfl, h1, h2⟩ := LR.head h
    obtain ⟨a, b, rfl, h3, h4⟩ := LR.split (l := l) h2
    exact ⟨x :: a, b, rfl, h3.cons h1, h4⟩
theorem LR.rep {G : Gh} {v : V} {x : Value} (h : CR G v x) : ∀ n, LR G (List.replicate n v) (List.replicate n x)
  | 0 => .nil
  | n + 1 => (LR.rep h n).cons h
theorem LR.take {G : Gh} {l : List V} {cs : List Value} (h : LR G l cs) (n : Nat) : LR G (l.take n) (cs.take n) ∧ LR G (l.drop n) (cs.drop n) := by
  have h' := h
  rw [← List.take_append_drop n l] at h'
  obtain ⟨a, b, rfl, h1, h2⟩ := h'.split
  rcases Nat.le_total n l.length with hn | hn
  · have e : a.length = n := by rw [h1.1]; simp; omega
    subst e
    simpa using ⟨h1, h2⟩
  · have e1 : l.drop n = [] := List.drop_eq_nil_of_le hn
    have e2 : l.take n = l := List.take_of_length_le hn
    rw [e1] at h2 ⊢
    rw [e2] at h1 ⊢
    obtain rfl := h2.nil_inv
    have : a.length = l.length := h1.1
    simp only [List.append_nil]
    rw [List.take_of_length_le (by omega), List.drop_eq_nil_of_le (by omega)]
    exact ⟨h1, h2⟩
theorem LR.set {G : Gh} : ∀ {l : List V} {cs : List Value} (i : Nat) {v : V} {x : Value}, LR G l cs → CR G v x → LR G (l.set i v) (cs.set i x)
  | [], cs, i, v, x, h, _ => by obtain rfl := h.nil_inv; exact .nil
  | u :: l, cs, 0, v, x, h, hv => by
    obtain ⟨y, t, rfl, h1, h2⟩ := h.head
    exact h2.cons hv
  | u :: l, cs, i + 1, v, x, h, hv => by
    obtain ⟨y, t, rfl, h1, h2⟩ := h.head
    exact (LR.set i h2 hv).cons h1
/-- a row of cells -/
structure L1 (G : Gh) (l : List V) (cs : List Value) : Prop where
  lr : LR G l cs
  one : ∀ v ∈ cs, v.oneCell' = true
theorem L1.ext {G G' : Gh} (h : Ext G G') {l : List V} {cs : List Value} (hc : L1 G l cs) : L1 G' l cs := ⟨hc.lr.ext h, hc.one⟩
theorem L1.nil {G : Gh} : L1 G [] [] := ⟨.nil, fun v hv => by cases hv⟩
theorem L1.append {G : Gh} {l m : List V} {a b : List Value} (h : L1 G l a) (k : L1 G m b) : L1 G (l ++ m) (a ++ b) := ⟨h.lr.append k.lr, fun v hv => (List.mem_append.1 hv).elim (h.one v) (k.one v)⟩
theorem L1.take {G : Gh} {l : List V} {cs : List Value} (h : L1 G l cs) (n : Nat) : L1 G (l.take n) (cs.take n) := ⟨(h.lr.take n).1, fun v hv => h.one v (List.mem_of_mem_take hv)⟩
theorem L1.drop {G : Gh} {l : List V} {cs : List Value} (h : L1 G l cs) (n : Nat) : L1 G (l.drop n) (cs.drop n) := ⟨(h.lr.take n).2, fun v hv => h.one v (List.mem_of_mem_drop hv)⟩
/-- the machine's blocks -/
inductive Bk where
  | dead
  | cells (t : TypeId) (cs : List V) (op : Option Nat)
  | map (es : List (V × V))
  | iter (s : List UInt8) (pos : Nat)
def EntR (G : Gh) (x : V × V) (y : MapEntry) : Prop := CR G x.1 y.key ∧ CR G x.2 y.val
def EntsR (G : Gh) : List (V × V) → List MapEntry → Prop
  | [], ys => ys = []
  | x :: xs, ys => ∃ y t, ys = y :: t ∧ EntR G x y ∧ EntsR G xs t
theorem EntsR.ext {G G' : Gh} (h : Ext G G') : ∀ {xs : List (V × V)} {ys : List MapEntry}, EntsR G xs ys → EntsR G' xs ys
  | [], _, e => e
  | _ :: _, _, ⟨y, t, e, h1, h2⟩ => ⟨y, t, e, ⟨h1.1.ext h, h1.2.ext h⟩, EntsR.ext h h2⟩
def BkR (w : World) (G : Gh) (i : Nat) : Bk → Prop
  | .dead => True
  | .cells t l op => ∃ (cv rest : List Value) (fr : Nat × Nat), w.heap[G.ρ i]? = some (.cells (cv ++ rest).toArray t fr) ∧ (fr = (0, 0) ∨ cv.length + rest.length ≤ fr.1) ∧ L1 G l cv ∧ (op = none → rest = []) ∧ (∀ s, op = some s → cv.length + rest.length = G.κ i * s ∧ G.κ i ≤ maxLen ∧ 0 < s)
  | .map es => ∃ (ys : List MapEntry) (clock : Nat), w.heap[G.ρ i]? = some (.map ys.toArray clock) ∧ EntsR G es ys
  | .iter s pos => w.heap[G.ρ i]? = some (.stringIter ⟨s.toArray⟩ pos)
/-- trees by the bits of a number -/
inductive Tr (α : Type) where
  | e
  | n (l : Tr α) (x : α) (r : Tr α)
noncomputable def Tr.get {α : Type} (d : α) (t : Tr α) : Nat → α := Tr.rec (fun _ => d) (fun _ x _ gl gr i => Nat.rec x (fun j _ => Bool.rec (gr (Nat.shiftRight j 1)) (gl (Nat.shiftRight j 1)) (Nat.beq (Nat.land j 1) 0)) i) t
noncomputable def Tr.set {α : Type} (t : Tr α) : Nat → α → Tr α := Tr.rec (fun _ _ => Tr.e) (fun l x r sl sr i v => Nat.rec (Tr.n l v r) (fun j _ => Bool.rec (Tr.n l x (sr (Nat.shiftRight j 1) v)) (Tr.n (sl (Nat.shiftRight j 1) v) x r) (Nat.beq (Nat.land j 1) 0)) i) t
noncomputable def Tr.full {α : Type} (d : α) (n : Nat) : Tr α := Nat.rec .e (fun _ t => .n t d t) n
theorem bit_cases {C : Nat → Prop} (i : Nat) (h0 : C 0) (h1 : ∀ j, C (2 * j + 1)) (h2 : ∀ j, C (2 * j + 2)) : C i := by
  rcases Nat.eq_zero_or_pos i with rfl | h
  · exact h0
  · rcases Nat.mod_two_eq_zero_or_one i with h3 | h3
    · have := h2 (i / 2 - 1); rwa [show 2 * (i / 2 - 1) + 2 = i by omega] at this
    · have := h1 (i / 2); rwa [show 2 * (i / 2) + 1 = i by omega] at this
theorem bit_l (j : Nat) : Nat.beq (Nat.land (2 * j) 1) 0 = true ∧ Nat.shiftRight (2 * j) 1 = j := by
  refine ⟨?_, ?_⟩
  · have : Nat.land (2 * j) 1 = 0 := by show (2 * j) &&& 1 = 0; rw [Nat.and_one_is_mod]; omega
    rw [this]; rfl
  · show (2 * j) >>> 1 = j; rw [Nat.shiftRight_eq_div_pow]; omega
theorem bit_r (j : Nat) : Nat.beq (Nat.land (2 * j + 1) 1) 0 = false ∧ Nat.shiftRight (2 * j + 1) 1 = j := by
  refine ⟨?_, ?_⟩
  · have : Nat.land (2 * j + 1) 1 = 1 := by show (2 * j + 1) &&& 1 = 1; rw [Nat.and_one_is_mod]; omega
    rw [this]; rfl
  · show (2 * j + 1) >>> 1 = j; rw [Nat.shiftRight_eq_div_pow]; omega
theorem Tr.get_e {α : Type} (d : α) (i : Nat) : Tr.get d .e i = d := rfl
theorem Tr.get_0 {α : Type} (d : α) (l : Tr α) (x : α) (r : Tr α) : Tr.get d (.n l x r) 0 = x := rfl
theorem Tr.get_l {α : Type} (d : α) (l : Tr α) (x : α) (r : Tr α) (j : Nat) : Tr.get d (.n l x r) (2 * j + 1) = Tr.get d l j := by
  obtain ⟨h1, h2⟩ := bit_l j
  show Bool.rec (motive := fun _ => α) (Tr.get d r (Nat.shiftRight (2 * j) 1)) (Tr.get d l (Nat.shiftRight (2 * j) 1)) (Nat.beq (Nat.land (2 * j) 1) 0) = _
  rw [h1, h2]
theorem Tr.get_r {α : Type} (d : α) (l : Tr α) (x : α) (r : Tr α) (j : Nat) : Tr.get d (.n l x r) (2 * j + 2) = Tr.get d r j := by
  obtain ⟨h1, h2⟩ := bit_r j
  show Bool.rec (motive := fun _ => α) (Tr.get d r (Nat.shiftRight (2 * j + 1) 1)) (Tr.get d l (Nat.shiftRight (2 * j + 1) 1)) (Nat.beq (Nat.land (2 * j + 1) 1) 0) = _
  rw [h1, h2]
theorem Tr.set_0 {α : Type} (l : Tr α) (x : α) (r : Tr α) (v : α) : Tr.set (.n l x r) 0 v = .n l v r := rfl
theorem Tr.set_l {α : Type} (l : Tr α) (x : α) (r : Tr α) (j : Nat) (v : α) : Tr.set (.n l x r) (2 * j + 1) v = .n (Tr.set l j v) x r := by
  obtain ⟨h1, h2⟩ := bit_l j
  show Bool.rec (motive := fun _ => Tr α) (Tr.n l x (Tr.set r (Nat.shiftRight (2 * j) 1) v)) (Tr.n (Tr.set l (Nat.shiftRight (2 * j) 1) v) x r) (Nat.beq (Nat.land (2 * j) 1) 0) = _
  rw [h1, h2]
theorem Tr.set_r {α : Type} (l : Tr α) (x : α) (r : Tr α) (j : Nat) (v : α) : Tr.set (.n l x r) (2 * j + 2) v = .n l x (Tr.set r j v) := by
  obtain ⟨h1, h2⟩ := bit_r j
  show Bool.rec (motive := fun _ => Tr α) (Tr.n l x (Tr.set r (Nat.shiftRight (2 * j + 1) 1) v)) (Tr.n (Tr.set l (Nat.shiftRight (2 * j + 1) 1) v) x r) (Nat.beq (Nat.land (2 * j + 1) 1) 0) = _
  rw [h1, h2]
theorem Tr.get_set {α : Type} (d : α) : ∀ (t : Tr α) (i j : Nat) (v : α), j ≠ i → Tr.get d (Tr.set t i v) j = Tr.get d t j
  | .e, i, j, v, h => rfl
  | .n l x r, i, j, v, h => by
    refine bit_cases (C := fun i => j ≠ i → Tr.get d (Tr.set (.n l x r) i v) j = Tr.get d (.n l x r) j) i ?_ ?_ ?_ h
    · intro h
      rw [Tr.set_0]
      exact bit_cases (C := fun j => j ≠ 0 → Tr.get d (.n l v r) j = Tr.get d (.n l x r) j) j (fun h => absurd rfl h) (fun k _ => by rw [Tr.get_l, Tr.get_l]) (fun k _ => by rw [Tr.get_r, Tr.get_r]) h
    · intro i h
      rw [Tr.set_l]
      exact bit_cases (C := fun j => j ≠ 2 * i + 1 → Tr.get d (.n (Tr.set l i v) x r) j = Tr.get d (.n l x r) j) j (fun _ => rfl) (fun k h => by rw [Tr.get_l, Tr.get_l, Tr.get_set d l i k v (by omega)]) (fun k _ => by rw [Tr.get_r, Tr.get_r]) h
    · intro i h
      rw [Tr.set_r]
      exact bit_cases (C := fun j => j ≠ 2 * i + 2 → Tr.get d (.n l x (Tr.set r i v)) j = Tr.get d (.n l x r) j) j (fun _ => rfl) (fun k _ => by rw [Tr.get_l, Tr.get_l]) (fun k h => by rw [Tr.get_r, Tr.get_r, Tr.get_set d r i k v (by omega)]) h
theorem Tr.get_self {α : Type} (d : α) : ∀ (t : Tr α) (i : Nat) (v : α), Tr.get d (Tr.set t i v) i = v ∨ Tr.get d (Tr.set t i v) i = d
  | .e, i, v => .inr rfl
  | .n l x r, i, v => by
    refine bit_cases (C := fun i => Tr.get d (Tr.set (.n l x r) i v) i = v ∨ Tr.get d (Tr.set (.n l x r) i v) i = d) i ?_ ?_ ?_
    · exact .inl rfl
    · intro i; rw [Tr.set_l, Tr.get_l]; exact Tr.get_self d l i v
    · intro i; rw [Tr.set_r, Tr.get_r]; exact Tr.get_self d r i v
abbrev M := Tr Bk
noncomputable abbrev M.get (m : M) (i : Nat) : Bk := Tr.get Bk.dead m i
noncomputable abbrev M.set (m : M) (i : Nat) (x : Bk) : M := Tr.set m i x
theorem M.get_set (t : M) (i j : Nat) (v : Bk) (h : j ≠ i) : M.get (M.set t i v) j = M.get t j := Tr.get_set _ t i j v h
theorem M.get_self (t : M) (i : Nat) (v : Bk) : M.get (M.set t i v) i = v ∨ M.get (M.set t i v) i = .dead := Tr.get_self _ t i v
def live (m : M) (i : Nat) : Prop := M.get m i ≠ .dead
theorem BkR.keep {w w' : World} {G G' : Gh} {i : Nat} {b : Bk} (h : BkR w G i b) (he : Ext G G') (h1 : G'.ρ i = G.ρ i) (h2 : G'.κ i = G.κ i) (hw : w'.heap[G.ρ i]? = w.heap[G.ρ i]?) : BkR w' G' i b := by
  cases b with
  | dead => trivial
  | cells t l op =>
    obtain ⟨cv, rest, fr, a1, af, a2, a3, a4⟩ := h
    exact ⟨cv, rest, fr, by rw [h1, hw]; exact a1, af, a2.ext he, a3, fun s hs => by rw [h2]; exact a4 s hs⟩
  | map es =>
    obtain ⟨ys, c, a1, a2⟩ := h
    exact ⟨ys, c, by rw [h1, hw]; exact a1, a2.ext he⟩
  | iter s p => show _ = _; rw [h1, hw]; exact h
structure MemR (B : Nat) (w : World) (G : Gh) (n : Nat) (m : M) : Prop where
  blk : ∀ i, BkR w G i (M.get m i)
  apart : ∀ i j, i ≠ j → live m i → live m j → G.ρ i ≠ G.ρ j
  own : ∀ i, live m i → B ≤ G.ρ i ∧ G.ρ i < w.heap.size ∧ G.al i
  base : B ≤ w.heap.size
theorem MemR.re {B : Nat} {w : World} {G : Gh} {n : Nat} {m : M} (h : MemR B w G n m) (k : Nat) : MemR B w G k m := ⟨h.blk, h.apart, h.own, h.base⟩
/-- names not given yet -/
def Free (G : Gh) (n n' : Nat) : Prop := ∀ i, n ≤ i → i < n' → ¬ G.al i
theorem Free.sub {G : Gh} {n n' k k' : Nat} (h : Free G n n') (h1 : n ≤ k) (h2 : k' ≤ n') : Free G k k' := fun i a b => h i (Nat.le_trans h1 a) (Nat.lt_of_lt_of_le b h2)
structure Rest (w w' : World) : Prop where
  os : w'.os = w.os
  tape : w'.tape = w.tape
  output : w'.output = w.output
  size : w.heap.size ≤ w'.heap.size
theorem Rest.refl (w : World) : Rest w w := ⟨rfl, rfl, rfl, Nat.le_refl _⟩
theorem Rest.trans {a b c : World} (h : Rest a b) (k : Rest b c) : Rest a c := ⟨k.os.trans h.os, k.tape.trans h.tape, k.output.trans h.output, Nat.le_trans h.size k.size⟩
theorem Rest.of {B : Nat} {w w' : World} (h : Below B w w') : Rest w w' := ⟨h.os, h.tape, h.output, h.size⟩
/-- what a piece of code has done: nothing was written but blocks from 'lo' on -/
structure Post (B n : Nat) (m : M) (w : World) (G : Gh) (n' : Nat) (m' : M) (w' : World) (G' : Gh) (lo : Nat) : Prop where
  ext : Ext G G'
  memr : MemR B w' G' n' m'
  rest : Rest w w'
  len : n ≤ n'
  dead : ∀ i, ¬ (n ≤ i ∧ i < n') → live m' i → live m i
  fresh : ∀ i, n ≤ i → i < n' → live m' i → w.heap.size ≤ G'.ρ i ∨ ∃ b, lo ≤ b ∧ live m b ∧ G'.ρ i = G.ρ b
  frame : ∀ x, x < w.heap.size → (∀ i, lo ≤ i → live m i → G.ρ i ≠ x) → w'.heap[x]? = w.heap[x]?
  new : ∀ i, G'.al i → G.al i ∨ (n ≤ i ∧ i < n')
theorem Post.refl {B n : Nat} {m : M} {w : World} {G : Gh} (h : MemR B w G n m) (lo : Nat) : Post B n m w G n m w G lo :=
  ⟨Ext.refl G, h, Rest.refl w, Nat.le_refl _, fun _ _ h => h, fun i hi hi' hl => absurd hi (by omega), fun _ _ _ => rfl, fun _ h => .inl h⟩
theorem Post.mono {B n : Nat} {m : M} {w : World} {G : Gh} {n' : Nat} {m' : M} {w' : World} {G' : Gh} {lo lo' : Nat} (h : Post B n m w G n' m' w' G' lo) (hl : lo' ≤ lo) : Post B n m w G n' m' w' G' lo' :=
  ⟨h.ext, h.memr, h.rest, h.len, h.dead, fun i hi hi' hv => (h.fresh i hi hi' hv).imp id fun ⟨b, h1, h2⟩ => ⟨b, by omega, h2⟩, fun x hx hno => h.frame x hx fun i hi => hno i (by omega), h.new⟩
theorem Post.free {B n k : Nat} {m : M} {w : World} {G : Gh} {n' : Nat} {m' : M} {w' : World} {G' : Gh} {lo : Nat} (h : Post B n m w G n' m' w' G' lo) (hf : Free G n k) : Free G' n' k := by
  intro i h1 h2 ha
  rcases h.new i ha with h3 | ⟨_, h3⟩
  · exact hf i (Nat.le_trans h.len h1) h2 h3
  · omega
theorem Post.trans {B n0 n1 n2 : Nat} {m0 m1 m2 : M} {w0 w1 w2 : World} {G0 G1 G2 : Gh} {lo : Nat} (h0 : MemR B w0 G0 n0 m0) (h : Post B n0 m0 w0 G0 n1 m1 w1 G1 lo) (k : Post B n1 m1 w1 G1 n2 m2 w2 G2 lo) (hlo : lo ≤ n0) : Post B n0 m0 w0 G0 n2 m2 w2 G2 lo := by
  have hl1 := h.len
  have hl2 := k.len
  have old : ∀ i, ¬ (n0 ≤ i ∧ i < n1) → live m1 i → live m0 i ∧ G1.ρ i = G0.ρ i := fun i hi hl => by
    have := h.dead i hi hl
    exact ⟨this, h.ext.ρ i (h0.own i this).2.2⟩
  have back : ∀ i x, lo ≤ i → live m1 i → G1.ρ i = x → x < w0.heap.size → ∃ b, lo ≤ b ∧ live m0 b ∧ G0.ρ b = x := by
    intro i x hi hl hx hlt
    by_cases h1 : n0 ≤ i ∧ i < n1
    · rcases h.fresh i h1.1 h1.2 hl with h2 | ⟨b, h2, h3, h4⟩
      · omega
      · exact ⟨b, h2, h3, by rw [← h4]; exact hx⟩
    · obtain ⟨h2, h3⟩ := old i h1 hl
      exact ⟨i, hi, h2, by rw [← h3]; exact hx⟩
  refine ⟨h.ext.trans k.ext, k.memr, h.rest.trans k.rest, Nat.le_trans h.len k.len, fun i hi hl => ?_, fun i hi hi' hl => ?_, fun x hx hno => ?_, fun i hi => ?_⟩
  · exact h.dead i (by omega) (k.dead i (by omega) hl)
  · have key : ∀ j, G2.ρ i = G1.ρ j → lo ≤ j → live m1 j → w0.heap.size ≤ G2.ρ i ∨ ∃ b, lo ≤ b ∧ live m0 b ∧ G2.ρ i = G0.ρ b := by
      intro j e hj hl1
      rcases Nat.lt_or_ge (G1.ρ j) w0.heap.size with h2 | h2
      · obtain ⟨b, b1, b2, b3⟩ := back j _ hj hl1 rfl h2
        exact .inr ⟨b, b1, b2, e.trans b3.symm⟩
      · exact .inl (by omega)
    by_cases h1 : n1 ≤ i ∧ i < n2
    · rcases k.fresh i h1.1 h1.2 hl with h2 | ⟨b, h2, h3, h4⟩
      · have := h.rest.size; exact .inl (by omega)
      · exact key b h4 h2 h3
    · have hl1 := k.dead i h1 hl
      exact key i (k.ext.ρ i (h.memr.own i hl1).2.2) (Nat.le_trans hlo hi) hl1
  · have e1 : w1.heap[x]? = w0.heap[x]? := h.frame x hx (fun i hi hl => hno i hi hl)
    rw [k.frame x (Nat.lt_of_lt_of_le hx h.rest.size) (fun i hi hl he => ?_), e1]
    obtain ⟨b, b1, b2, b3⟩ := back i x hi hl he hx
    exact hno b b1 b2 b3
  · rcases k.new i hi with h1 | h1
    · rcases h.new i h1 with h2 | h2
      · exact .inl h2
      · exact .inr (by omega)
    · exact .inr (by omega)
theorem Post.below {B n0 n1 : Nat} {m0 m1 : M} {w0 w1 : World} {G0 G1 : Gh} {lo : Nat} (h0 : MemR B w0 G0 n0 m0) (h : Post B n0 m0 w0 G0 n1 m1 w1 G1 lo) : Below B w0 w1 :=
  ⟨h.rest.os, h.rest.tape, h.rest.output, h.rest.size, fun k hk => h.frame k (Nat.lt_of_lt_of_le hk h0.base) (fun i _ hl e => by have := (h0.own i hl).1; omega)⟩
/-- one block more -/
def Gh.put (G : Gh) (i r k : Nat) : Gh := ⟨fun j => j = i ∨ G.al j, fun j => if j = i then r else G.ρ j, fun j => if j = i then k else G.κ j, G.θ, G.θlt, G.env⟩
theorem Gh.put_ext {G : Gh} {i : Nat} (r k : Nat) (h : ¬ G.al i) : Ext G (G.put i r k) :=
  ⟨fun b hb => .inr hb, fun b hb => if_neg (by rintro rfl; exact h hb), fun b hb => if_neg (by rintro rfl; exact h hb), rfl, rfl⟩
theorem Gh.put_ρ (G : Gh) (i r k : Nat) : (G.put i r k).ρ i = r := if_pos rfl
theorem Gh.put_κ (G : Gh) (i r k : Nat) : (G.put i r k).κ i = k := if_pos rfl
/-- what holds at a place of the tree that was set -/
theorem get_set_cases {m : M} {i : Nat} {x : Bk} {C : Bk → Prop} (j : Nat) (h1 : j = i → C x) (h2 : j = i → C .dead) (h3 : j ≠ i → C (M.get m j)) : C (M.get (M.set m i x) j) := by
  by_cases e : j = i
  · subst e
    rcases M.get_self m j x with h | h <;> rw [h]
    · exact h1 rfl
    · exact h2 rfl
  · rw [M.get_set m i j x e]; exact h3 e
theorem live_set {m : M} {i : Nat} {x : Bk} {j : Nat} (h : live (M.set m i x) j) : (j = i ∧ x ≠ .dead) ∨ (j ≠ i ∧ live m j) := by
  by_cases e : j = i
  · subst e
    refine .inl ⟨rfl, fun hx => h ?_⟩
    rcases M.get_self m j x with h' | h' <;> rw [h']
    exact hx
  · unfold live at h; rw [M.get_set m i j x e] at h; exact .inr ⟨e, h⟩
theorem MemR.more {B : Nat} {w w' : World} {G : Gh} {n : Nat} {m : M} {x : Bk} {g k : Nat} (h : MemR B w G n m) (hfr : ¬ G.al n) (hb : Below w.heap.size w w') (hg : w.heap.size ≤ g) (hg' : g < w'.heap.size) (hx : BkR w' (G.put n g k) n x) :
    Post B n m w G (n + 1) (M.set m n x) w' (G.put n g k) n := by
  have hext := Gh.put_ext (i := n) g k hfr
  have hold : ∀ i, i ≠ n → (G.put n g k).ρ i = G.ρ i ∧ (G.put n g k).κ i = G.κ i := fun i hi => ⟨if_neg hi, if_neg hi⟩
  have hl : ∀ i, live (M.set m n x) i → i = n ∨ (i ≠ n ∧ live m i) := fun i hi => (live_set hi).imp (fun h => h.1) id
  refine ⟨hext, ⟨fun i => ?_, fun i j hij hi hj => ?_, fun i hi => ?_, Nat.le_trans h.base hb.size⟩, Rest.of hb, by omega, fun i hi hl' => ?_, fun i hi hi' hl' => ?_, fun y hy _ => hb.block y hy, fun i hi => ?_⟩
  · refine get_set_cases (C := BkR w' (G.put n g k) i) i (fun e => by subst e; exact hx) (fun _ => trivial) (fun e => ?_)
    by_cases hlv : live m i
    · exact (h.blk i).keep hext (hold i e).1 (hold i e).2 (hb.block _ (h.own i hlv).2.1)
    · unfold live at hlv
      rw [Classical.not_not.1 hlv]; trivial
  · rcases hl i hi with e1 | ⟨e1, h1⟩ <;> rcases hl j hj with e2 | ⟨e2, h2⟩
    · omega
    · subst e1
      rw [Gh.put_ρ, (hold j e2).1]
      have := (h.own j h2).2.1; omega
    · subst e2
      rw [Gh.put_ρ, (hold i e1).1]
      have := (h.own i h1).2.1; omega
    · rw [(hold i e1).1, (hold j e2).1]
      exact h.apart i j hij h1 h2
  · rcases hl i hi with e1 | ⟨e1, h1⟩
    · subst e1
      rw [Gh.put_ρ]
      exact ⟨Nat.le_trans h.base hg, hg', .inl rfl⟩
    · rw [(hold i e1).1]
      have := h.own i h1
      exact ⟨this.1, Nat.lt_of_lt_of_le this.2.1 hb.size, .inr this.2.2⟩
  · rcases hl i hl' with e1 | ⟨e1, h1⟩
    · omega
    · exact h1
  · have e1 : i = n := by omega
    subst e1; rw [Gh.put_ρ]; exact .inl hg
  · rcases hi with hi | hi
    · exact .inr (by omega)
    · exact .inl hi
/-- an own block is written -/
theorem MemR.write {B : Nat} {w w' : World} {G : Gh} {n : Nat} {m : M} {b : Nat} {x : Bk} (h : MemR B w G n m) (hl : live m b) (hr : Rest w w') (hs : w'.heap.size = w.heap.size) (ho : ∀ k, k ≠ G.ρ b → w'.heap[k]? = w.heap[k]?) (hx : BkR w' G b x) : Post B n m w G n (M.set m b x) w' G b := by
  have hlv : ∀ i, live (M.set m b x) i → live m i := by
    intro i hi
    rcases live_set hi with ⟨rfl, _⟩ | ⟨_, h1⟩
    · exact hl
    · exact h1
  refine ⟨Ext.refl G, ⟨fun i => ?_, fun i j hij hi hj => h.apart i j hij (hlv i hi) (hlv j hj), fun i hi => by rw [hs]; exact h.own i (hlv i hi), by rw [hs]; exact h.base⟩, hr, Nat.le_refl _, fun i _ hi => hlv i hi, fun i hi hi' hl' => absurd hi (by omega), fun y hy hno => ho y (fun e => hno b (Nat.le_refl _) hl e.symm), fun _ h => .inl h⟩
  refine get_set_cases (C := BkR w' G i) i (fun e => by subst e; exact hx) (fun _ => trivial) (fun e => ?_)
  by_cases hlv' : live m i
  · exact (h.blk i).keep (Ext.refl G) rfl rfl (ho _ (h.apart i b e hlv' hl))
  · unfold live at hlv'
    rw [Classical.not_not.1 hlv']; trivial
theorem MemR.quiet {B : Nat} {w w' : World} {G : Gh} {n : Nat} {m : M} (h : MemR B w G n m) (hb : Below w.heap.size w w') (lo : Nat) : Post B n m w G n m w' G lo :=
  ⟨Ext.refl G, ⟨fun i => by
    by_cases hlv : live m i
    · exact (h.blk i).keep (Ext.refl G) rfl rfl (hb.block _ (h.own i hlv).2.1)
    · unfold live at hlv; rw [Classical.not_not.1 hlv]; trivial, h.apart, fun i hi => ⟨(h.own i hi).1, Nat.lt_of_lt_of_le (h.own i hi).2.1 hb.size, (h.own i hi).2.2⟩, Nat.le_trans h.base hb.size⟩,
    Rest.of hb, Nat.le_refl _, fun _ _ h => h, fun i hi hi' hl => absurd hi (by omega), fun y hy _ => hb.block y hy, fun _ h => .inl h⟩
/-- a block is forgotten -/
theorem MemR.kill {B : Nat} {w : World} {G : Gh} {n : Nat} {m : M} (h : MemR B w G n m) (b : Nat) : MemR B w G n (M.set m b .dead) := by
  have hlv : ∀ i, live (M.set m b .dead) i → live m i := by
    intro i hi
    rcases live_set hi with ⟨_, h1⟩ | ⟨_, h1⟩
    · exact absurd rfl h1
    · exact h1
  exact ⟨fun i => get_set_cases (C := BkR w G i) i (fun _ => trivial) (fun _ => trivial) (fun _ => h.blk i), fun i j hij hi hj => h.apart i j hij (hlv i hi) (hlv j hj), fun i hi => h.own i (hlv i hi), h.base⟩
end Go.Proofs.YtpmgggfjmkpleaaGreatDoor.E
