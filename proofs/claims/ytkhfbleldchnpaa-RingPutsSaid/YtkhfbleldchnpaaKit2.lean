/- More laws of my own over the kit's, for any program: 'make' of a slice of known length; regions in any order whose calls only grow the heap. -/
import Derived.Test.YtkhfbleldchnpaaKit
import Derived.OwnWalk
namespace Go.Proofs.Ytkhfbleldchnpaa
open Go.RowKit
set_option linter.unusedVariables false

/-- 'make([]T, n)' -/
theorem wpList_makeN {P : Program} {w : World} {ops : Array Oper} {rest : List Oper} {o : Oper} {a : Act} {Q : Exit → Act → World → Prop} (hgd : o.guard = none) (l c : Operand) (t : TypeId)
    (ho : o.op = Op.makeSlice t l c) (B : Nat) (e : TypeId) (z : Value) (size bytes : Nat) (ht : P.underlying t = some (.slice e)) (hinfo : (P.info? e).map (fun i => (i.zero, i.size, i.bytes)) = some (some z, size, bytes))
    (kl kc : IntKind) (L : Int) (n : Nat) (hl : a.eval l = .int kl L) (hc : a.eval c = .int kc L) (hL : L = (n : Int)) (hb : bytes * n ≤ 281474976710656) (hn : n ≤ maxLen) (hB : B ≤ w.heap.size)
    (h : ∀ w', w'.ownsRow B e size (.slice (some ⟨w.heap.size, 0, none⟩) n n) n (madeCells z.cells (n * size)).toList → Below w.heap.size w w' → wpList P ops Q rest (a.put o.dst (.slice (some ⟨w.heap.size, 0, none⟩) n n)) w') :
    wpList P ops Q (o :: rest) a w := by
  obtain ⟨i, hi, hz, hsize, hby⟩ := info_parts hinfo
  refine wpList_make_full w hgd l c t ho B e i z size ht hi hz hsize kl kc L L n hl hc hL hL (by rw [hby]; exact hb) hn hB (fun w' h1 h2 => h w' h1 ?_)
  exact (Below.refl _ w).grown h2 (Nat.le_refl _) (fun k hk => by cases hk)

/-- a world that grew out of another, all blocks below B untouched -/
structure Grew (B : Nat) (w0 : World) where
  w : World
  below : Below B w0 w
instance Grew.some (B : Nat) (w0 : World) : Nonempty (Grew B w0) := ⟨⟨w0, Below.refl B w0⟩⟩
theorem Grew.since {B b : Nat} {w w0 : World} (n : Grew B w0) (h : Below b w w0) (hb : b ≤ B) : Below b w n.w := h.trans (n.below.mono hb)
/-- a callee that only grows the heap, in the class of the worlds that grew out of one -/
theorem grew_call {P : Program} {f : FuncId} {args : Array Value} {B : Nat} {w0 : World} {n : Grew B w0} {v : Value} (hB : B ≤ w0.heap.size)
    (h : Calls P f args n.w fun e w' => e = .returned v ∧ Below n.w.heap.size n.w w') : Calls P f args n.w fun e w' => e = .returned v ∧ ∃ m : Grew B w0, w' = m.w :=
  h.mono fun _ w' ⟨he, hb⟩ => ⟨he, ⟨⟨w', n.below.trans (hb.mono (Nat.le_trans hB n.below.size))⟩, rfl⟩⟩
theorem grew_same {P : Program} {f : FuncId} {args : Array Value} {B : Nat} {w0 : World} {n : Grew B w0} {v : Value}
    (h : Calls P f args n.w fun e w' => e = .returned v ∧ n.w = w') : Calls P f args n.w fun e w' => e = .returned v ∧ ∃ m : Grew B w0, w' = m.w :=
  h.mono fun _ _ ⟨he, hb⟩ => ⟨he, ⟨n, hb.symm⟩⟩
/-- a region in any order, whose operations read and whose calls only grow the heap -/
theorem wp_region_grew {P : Program} {id : Nat} {Q : Exit → Act → World → Prop} {a : Act} {w : World} {l : List Oper} (B : Nat) (hm : P.follows .mixedOrders = true) (hB : Region.lexB .any l.toArray = true)
    (h : wpQuiet P l.toArray (fun w' => ∃ n : Grew B w, w' = n.w) (fun a' => ∀ w', (∃ n : Grew B w, w' = n.w) → Q .normal a' w') l a) : (Code.region id l.toArray true).wp P Q a w :=
  wp_region_quiet (C := fun w' => ∃ n : Grew B w, w' = n.w) hm hB ⟨⟨_, (Below.refl B w).drew⟩, rfl⟩ (by simpa using h)
end Go.Proofs.Ytkhfbleldchnpaa
