/- Small laws of my own over the kit's, for any program: slices that are read, slices of the call's own that are appended to and written. -/
import Derived.Test.YtglkfgfnnhbjeaaChecked
import Derived.WalkKit
import Derived.Lib.Hide
import Derived.Outline
import Derived.Deep.AppendLies
import Derived.Laws.AppendOwnNone
namespace Go.Proofs.Ytglkfgfnnhbjeaa
open Go.RowKit
set_option linter.unusedVariables false

theorem addr_add (b off j : Nat) : (⟨b, off, none⟩ : Addr).add j = ⟨b, off + j, none⟩ := by
  unfold Addr.add
  split <;> simp_all

theorem hid_mk {p : Prop} (h : p) : Hid p := h

/-- a slice value (elements of 'size' cells) reads as these cells -/
def Reads (w : World) (size : Nat) (v : Value) (n : Nat) (xs : List Value) : Prop :=
  xs.length = n * size ∧ ∃ a cap, v = .slice a n cap ∧ n ≤ cap ∧ cap ≤ maxLen ∧ (0 < n → ∃ b off, a = some ⟨b, off, none⟩ ∧ b < w.heap.size ∧ ∀ i x, xs[i]? = some x → w.cell? ⟨b, off + i, none⟩ = some x)

theorem Reads.nil (w : World) (size : Nat) : Reads w size (.slice none 0 0) 0 [] := ⟨by simp, none, 0, rfl, Nat.le_refl _, Nat.zero_le _, fun h => absurd h (by omega)⟩

theorem Reads.open {w : World} {size : Nat} {v : Value} {n : Nat} {xs : List Value} (h : Reads w size v n xs) :
    ∃ a cap, v = .slice a n cap ∧ xs.length = n * size ∧ n ≤ cap ∧ cap ≤ maxLen ∧ (0 < n → ∃ b off, a = some ⟨b, off, none⟩ ∧ b < w.heap.size ∧ ∀ i x, xs[i]? = some x → w.cell? ⟨b, off + i, none⟩ = some x) := by
  obtain ⟨h1, a, cap, h2, h3, h4, h5⟩ := h
  exact ⟨a, cap, h2, h1, h3, h4, h5⟩

theorem Reads.keep {w w' : World} {size : Nat} {v : Value} {n : Nat} {xs : List Value} (h : Reads w size v n xs) (hs : w.heap.size ≤ w'.heap.size)
    (hc : ∀ b o, b < w.heap.size → v.ownBlock = some b → w'.cell? ⟨b, o, none⟩ = w.cell? ⟨b, o, none⟩) : Reads w' size v n xs := by
  obtain ⟨h1, a, cap, rfl, h3, h4, h5⟩ := h
  refine ⟨h1, a, cap, rfl, h3, h4, fun h0 => ?_⟩
  obtain ⟨b, off, rfl, hb, hx⟩ := h5 h0
  exact ⟨b, off, rfl, by omega, fun i x hi => by rw [hc b _ hb rfl]; exact hx i x hi⟩

theorem Reads.below {w w' : World} {size : Nat} {v : Value} {n : Nat} {xs : List Value} (h : Reads w size v n xs) {B : Nat} (hb : Below B w w') (hB : w.heap.size ≤ B) : Reads w' size v n xs :=
  h.keep hb.size (fun b o hlt _ => hb.cell (p := ⟨b, o, none⟩) (show b < B by omega))

theorem Reads.belowOf {w w' : World} {size : Nat} {v : Value} {n : Nat} {xs : List Value} (h : Reads w size v n xs) {B : Nat} (hb : Below B w w') (hv : ∀ b, v.ownBlock = some b → b < B) : Reads w' size v n xs :=
  h.keep hb.size (fun b o _ e => hb.cell (p := ⟨b, o, none⟩) (hv b e))

theorem Reads.grown {w w' : World} {size : Nat} {v : Value} {n : Nat} {xs : List Value} (h : Reads w size v n xs) {row : Option Nat} (hg : w.grownBy w' row) (hne : v.ownBlock = none ∨ v.ownBlock ≠ row) : Reads w' size v n xs :=
  h.keep hg.size (fun b o hlt e => World.cell?_of_block (w := w) (a := ⟨b, o, none⟩) (hg.block b hlt (fun e' => hne.elim (fun h => by rw [h] at e; cases e) (fun h => h (e.trans e')))))

theorem Reads.of_own {w : World} {B : Nat} {e : TypeId} {size : Nat} {v : Value} {n : Nat} {xs : List Value} (h : w.ownsRow B e size v n xs) : Reads w size v n xs := by
  refine ⟨h.1, ?_⟩
  rcases h.2 with ⟨rfl, rfl⟩ | ⟨g, cap, cur, rfl, hb, hg, hnc, hcm, hcs, htake⟩
  · exact ⟨none, 0, rfl, Nat.le_refl _, Nat.zero_le _, fun h => absurd h (by omega)⟩
  · refine ⟨_, cap, rfl, hnc, hcm, fun h0 => ⟨g, 0, rfl, ?_, fun i x hi => ?_⟩⟩
    · rcases Nat.lt_or_ge g w.heap.size with hlt | hge
      · exact hlt
      · rw [Array.getElem?_eq_none hge] at hg; cases hg
    · have hi' : i < n * size := by have := h.1; rcases List.getElem?_eq_some_iff.1 hi with ⟨hlt, _⟩; omega
      simp only [Nat.zero_add]
      rw [World.ownsRow.cellAt h i hi']
      exact hi

theorem Reads.cell {w : World} {size : Nat} {b off n cap : Nat} {xs : List Value} (h : Reads w size (.slice (some ⟨b, off, none⟩) n cap) n xs) {i : Nat} {x : Value} (hi : xs[i]? = some x) : w.cell? ⟨b, off + i, none⟩ = some x := by
  obtain ⟨h1, a, cap', h2, h3, h4, h5⟩ := h
  have hlt : i < n * size := by rcases List.getElem?_eq_some_iff.1 hi with ⟨hlt, _⟩; omega
  have h0 : 0 < n := by rcases Nat.eq_zero_or_pos n with h | h; · subst h; omega
                        · exact h
  simp only [Value.slice.injEq] at h2
  obtain ⟨rfl, -, rfl⟩ := h2
  obtain ⟨b', off', he, _, hx⟩ := h5 h0
  simp only [Option.some.injEq, Addr.mk.injEq, and_true] at he
  obtain ⟨rfl, rfl⟩ := he
  exact hx i x hi

theorem Reads.cell0 {w : World} {size : Nat} {b n cap : Nat} {xs : List Value} (h : Reads w size (.slice (some ⟨b, 0, none⟩) n cap) n xs) {i : Nat} {x : Value} (hi : xs[i]? = some x) : w.cell? ⟨b, i, none⟩ = some x := by
  have := h.cell hi
  rwa [Nat.zero_add] at this

/-- a literal's row, just laid -/
theorem Reads.lit (w : World) (e : TypeId) (size n : Nat) (cs : List Value) (h : cs.length = n * size) (hn : n ≤ maxLen) :
    Reads (w.alloc (.cells cs.toArray e)) size (.slice (some ⟨w.heap.size, 0, none⟩) n n) n cs := by
  refine ⟨h, _, _, rfl, Nat.le_refl _, hn, fun _ => ⟨w.heap.size, 0, rfl, by simp, fun i x hi => ?_⟩⟩
  rw [World.cell?_alloc_at _ _ _ _ rfl]
  simpa using hi

theorem Reads.litAt (w : World) (e : TypeId) (size n : Nat) (cs : List Value) (h : cs.length = n * size) (hn : n ≤ maxLen) (b : Nat) (hb : b = w.heap.size) :
    Reads (w.alloc (.cells cs.toArray e)) size (.slice (some ⟨b, 0, none⟩) n n) n cs := by
  rw [hb]; exact Reads.lit w e size n cs h hn

theorem Reads.alloc {w : World} {size : Nat} {v : Value} {n : Nat} {xs : List Value} (h : Reads w size v n xs) (o : Obj) : Reads (w.alloc o) size v n xs :=
  h.below ((Below.refl w.heap.size w).alloc (Nat.le_refl _) o) (Nat.le_refl _)

theorem own_cap {w : World} {B : Nat} {e : TypeId} {size g n cap : Nat} {xs : List Value} (h : w.ownsRow B e size (.slice (some ⟨g, 0, none⟩) n cap) n xs) : n ≤ cap ∧ cap ≤ maxLen ∧ B ≤ g ∧ g < w.heap.size := by
  rcases h.2 with ⟨h', _⟩ | ⟨g', cap', cur, h', hb, hg, hnc, hcm, hcs, htake⟩
  · simp at h'
  · simp only [Value.slice.injEq, Option.some.injEq, Addr.mk.injEq, and_true, true_and] at h'
    obtain ⟨rfl, rfl⟩ := h'
    refine ⟨hnc, hcm, hb, ?_⟩
    rcases Nat.lt_or_ge g w.heap.size with hlt | hge
    · exact hlt
    · rw [Array.getElem?_eq_none hge] at hg; cases hg

theorem own_below {B : Nat} {e : TypeId} {k : Nat} {v : Value} {n : Nat} {xs : List Value} {w w' : World} (h : w.ownsRow B e k v n xs) (hb : Below w.heap.size w w') : w'.ownsRow B e k v n xs :=
  h.kept (w' := w') (row := none) ⟨hb.os, hb.tape, hb.output, hb.size, fun j hj _ => hb.block j hj⟩ (by cases v.ownBlock <;> simp)

/-- 's[k:]' of an owned row -/
theorem Reads.drop {w : World} {B : Nat} {e : TypeId} {g n cap k : Nat} {xs : List Value} (h : w.ownsRow B e 1 (.slice (some ⟨g, 0, none⟩) n cap) n xs) (hk : k ≤ n) :
    Reads w 1 (.slice (some ⟨g, k, none⟩) (n - k) (cap - k)) (n - k) (xs.drop k) := by
  have hc := own_cap h
  refine ⟨by simp [h.1], _, _, rfl, by omega, by omega, fun _ => ⟨g, k, rfl, hc.2.2.2, fun i x hi => ?_⟩⟩
  rw [List.getElem?_drop] at hi
  have hlt : k + i < n * 1 := by have := h.1; rcases List.getElem?_eq_some_iff.1 hi with ⟨hlt, _⟩; omega
  rw [World.ownsRow.cellAt h (k + i) hlt]
  exact hi

/-- 'append(s, x)' of one new element (its cells have just been laid) on a slice of the call's own. -/
theorem wpList_app1 {P : Program} {w : World} {ops : Array Oper} {rest : List Oper} {o : Oper} {a : Act} {Q : Exit → Act → World → Prop} (hgd : o.guard = none) (s x : Operand) (t : TypeId)
    (ho : o.op = .call { callee := .builtin .append, args := #[s, x], argTypes := #[t, t] })
    (B : Nat) (e : TypeId) (z : Value) (size bytes : Nat) (ht : P.underlying t = some (.slice e)) (hinfo : (P.info? e).map (fun i => (i.zero, i.size, i.bytes)) = some (some z, size, bytes)) (hzs : z.cells.size = size) (hsz : 0 < size) (hb : bytes ≤ 4096)
    (v : Value) (n : Nat) (xs : List Value) (hs : a.eval s = v) (hown : w.ownsRow B e size v n xs) (us : List Value) (hx : a.eval x = .slice (some ⟨w.heap.size, 0, none⟩) 1 1) (hul : us.length = size) (hu : ∀ u ∈ us, u.oneCell' = true)
    (hn : n ≤ 17179869184) (hB : B ≤ w.heap.size)
    (h : ∀ v' w', w'.ownsRow B e size v' (n + 1) (xs ++ us) → (w.alloc (.cells us.toArray e)).grownBy w' v.ownBlock → (v'.ownBlock = v.ownBlock ∨ ∃ g, v'.ownBlock = some g ∧ w.heap.size ≤ g) → Below B w w' → wpList P ops Q rest (a.put o.dst v') w') :
    wpList P ops Q (o :: rest) a (w.alloc (.cells us.toArray e)) := by
  obtain ⟨i, hi, hz, hsize, hby⟩ := info_parts hinfo
  refine wpList_append_lies _ hgd s x t ho B e i z size bytes ht hi hz hsize hby hzs hsz v n xs hs (hown.alloc _) ⟨w.heap.size, 0, none⟩ 1 1 us hx (by omega) ?_ hu (by decide) ?_ ?_ ?_ _ rfl ?_
  · intro j y hj
    have hlt : j < us.length := by rcases List.getElem?_eq_some_iff.1 hj with ⟨hlt, _⟩; exact hlt
    rw [addr_add, World.cell?_alloc_at _ _ _ _ rfl]
    simpa using hj
  · unfold maxLen; omega
  · calc (n + 1) * bytes ≤ (n + 1) * 4096 := Nat.mul_le_mul_left _ hb
      _ ≤ 140737488355328 := by omega
  · simp; omega
  · intro g cap w' h1 h2 h3 _
    refine h _ w' h1 h2 ?_ ?_
    · rcases h3 with h3 | h3
      · exact .inl (by rw [h3]; rfl)
      · exact .inr ⟨g, rfl, by simp at h3; omega⟩
    · exact ((Below.refl B w).alloc hB _).grown h2 (by simp; omega) (fun k hk => (hown.lt k hk).1)

/-- 'append(s, xs...)' of a slice that reads as known on a slice of the call's own. -/
theorem wpList_appR {P : Program} {w : World} {ops : Array Oper} {rest : List Oper} {o : Oper} {a : Act} {Q : Exit → Act → World → Prop} (hgd : o.guard = none) (s x : Operand) (t : TypeId)
    (ho : o.op = .call { callee := .builtin .append, args := #[s, x], argTypes := #[t, t] })
    (B : Nat) (e : TypeId) (z : Value) (size bytes : Nat) (ht : P.underlying t = some (.slice e)) (hinfo : (P.info? e).map (fun i => (i.zero, i.size, i.bytes)) = some (some z, size, bytes)) (hzs : z.cells.size = size) (hsz : 0 < size) (hb : bytes ≤ 4096)
    (v : Value) (n : Nat) (xs : List Value) (hs : a.eval s = v) (hown : w.ownsRow B e size v n xs) (xv : Value) (m : Nat) (us : List Value) (hx : a.eval x = xv) (hr : Reads w size xv m us) (hu : ∀ u ∈ us, u.oneCell' = true)
    (hnm : n + m ≤ 17179869184) (hB : B ≤ w.heap.size)
    (h : ∀ v' w', w'.ownsRow B e size v' (n + m) (xs ++ us) → w.grownBy w' v.ownBlock → (v'.ownBlock = v.ownBlock ∨ ∃ g, v'.ownBlock = some g ∧ w.heap.size ≤ g) → Below B w w' → wpList P ops Q rest (a.put o.dst v') w') :
    wpList P ops Q (o :: rest) a w := by
  obtain ⟨i, hi, hz, hsize, hby⟩ := info_parts hinfo
  obtain ⟨ad, cap, rfl, hl, hmc, hcm, hcell⟩ := hr.open
  have fin : ∀ v' w', w'.ownsRow B e size v' (n + m) (xs ++ us) → w.grownBy w' v.ownBlock → (v'.ownBlock = v.ownBlock ∨ ∃ g, v'.ownBlock = some g ∧ w.heap.size ≤ g) → wpList P ops Q rest (a.put o.dst v') w' :=
    fun v' w' h1 h2 h3 => h v' w' h1 h2 h3 ((Below.refl B w).grown h2 hB (fun k hk => (hown.lt k hk).1))
  by_cases hm : m = 0
  · subst hm
    obtain rfl : us = [] := List.length_eq_zero_iff.1 (by omega)
    have hown' : w.ownsRow B e size v (n + 0) (xs ++ []) := by simpa using hown
    cases ad with
    | none =>
      by_cases hc : cap = 0
      · subst hc
        exact wpList_append_own_none hgd s x t ho B e i size ht hi v n xs hs hown hx (fin v w hown' (World.grownBy.refl _ _) (.inl rfl))
      · refine wpList_plain hgd fun K hK => ?_
        have hrun : (Builtin.append_ #[t, t] o.type #[v, .slice none 0 cap]).run P w = .ok v w := by
          rcases hown.2 with ⟨rfl, rfl⟩ | ⟨g, cp, cur, rfl, _, _, hnc, _⟩
          · simp [Builtin.append_, run_underlying ht, sizeOf, typeInfo, hi, Builtin.lenOf, Builtin.firstCells]
          · simp [Builtin.append_, run_underlying ht, sizeOf, typeInfo, hi, Builtin.lenOf, Builtin.firstCells, hnc, storeCells]
        unfold Oper.wp
        simp [execOp, ho, resolve, invoke, builtin, hs, hx, hrun, Result.andThen]
        exact hK _ _ (fin v w hown' (World.grownBy.refl _ _) (.inl rfl))
    | some ad =>
      refine wpList_append_own_at w hgd s x t ho B e i z size bytes ht hi hz hsize hby hzs hsz v n xs hs hown ad 0 cap [] hx (by simp) (fun j u hj => by simp at hj) (fun u hu => by simp at hu) ?_ ?_ hB ?_
      · unfold maxLen; omega
      · calc (n + 0) * bytes ≤ (n + 0) * 4096 := Nat.mul_le_mul_left _ hb
          _ ≤ 140737488355328 := by omega
      · intro v' w' h1 h2 _ h4
        refine fin v' w' h1 h2 ?_
        rcases h4 with h4 | h4
        · exact .inl h4
        · exact .inr ⟨_, h4, Nat.le_refl _⟩
  · obtain ⟨b, off, rfl, hb2, hx2⟩ := hcell (by omega)
    refine wpList_append_own_at w hgd s x t ho B e i z size bytes ht hi hz hsize hby hzs hsz v n xs hs hown ⟨b, off, none⟩ m cap us hx hl (fun j u hj => by rw [addr_add]; exact hx2 j u hj) hu ?_ ?_ hB ?_
    · unfold maxLen; omega
    · calc (n + m) * bytes ≤ (n + m) * 4096 := Nat.mul_le_mul_left _ hb
        _ ≤ 140737488355328 := by omega
    · intro v' w' h1 h2 _ h4
      refine fin v' w' h1 h2 ?_
      rcases h4 with h4 | h4
      · exact .inl h4
      · exact .inr ⟨_, h4, Nat.le_refl _⟩

end Go.Proofs.Ytglkfgfnnhbjeaa
