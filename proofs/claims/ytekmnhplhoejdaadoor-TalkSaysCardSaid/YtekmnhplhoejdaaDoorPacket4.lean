import Derived.Test.YtekmnhplhoejdaaDoorChecked
import Derived.WalkKit
import Derived.Lib.Hide
import Derived.Outline
import Derived.Deep.AppendLies
import Derived.Laws.AppendOwnNone
import Derived.Deep.QuietTactic
import Derived.BigQuiet
import Derived.Handy
import Derived.Test.YtekmnhplhoejdaaDoorShelf
import Derived.Orders
/- Small laws of my own over the kit's, for any program: slices that are read, slices of the call's own that are appended to and written. -/
namespace Go.Proofs.YtekmnhplhoejdaaDoor
open Go.RowKit
set_option linter.unusedVariables false

theorem addr_add (b off j : Nat) : (⟨b, off, none⟩ : Addr).add j = ⟨b, off + j, none⟩ := by
  unfold Addr.add
  split <;> simp_all

theorem hid_mk {p : Prop} (h : p) : Hid p := h

/-- a slice value (elements of 'size' cells) reads as these cells -/
def Reads (w : World) (size : Nat) (v : Value) (n : Nat) (xs : List Value) : Prop :=
  xs.length = n * size ∧ ∃ a cap, v = .slice a n cap ∧ n ≤ cap ∧ cap ≤ maxLen ∧ (0 < n → ∃ b off, a = some ⟨b, off, none⟩ ∧ b < w.heap.size ∧ ∀ i x, xs[i]? = some x → w.cell? ⟨b, off + i, none⟩ = some x)

theorem Reads.nil (w : World) (size : Nat) : Reads w size (.slice none 0 0) 0 [] := ⟨by simp, none, 0, rfl, Nat.le_refl _, Nat.zero_le _, fun h => absurd h (by omega)⟩

theorem Reads.open {w : World} {size : Nat} {v : Value} {n : Nat} {xs : List Value} (h : Reads w size v n xs) :
    ∃ a cap, v = .slice a n cap ∧ xs.length = n * size ∧ n ≤ cap ∧ cap ≤ maxLen ∧ (0 < n → ∃ b off, a = some ⟨b, off, none⟩ ∧ b < w.heap.size ∧ ∀ i x, xs[i]? = some x → w.cell? ⟨b, off + i, none⟩ = some x) := by
  obtain ⟨h1, a, cap, h2, h3, h4, h5⟩ := h
  exact ⟨a, cap, h2, h1, h3, h4, h5⟩

theorem Reads.keep {w w' : World} {size : Nat} {v : Value} {n : Nat} {xs : List Value} (h : Reads w size v n xs) (hs : w.heap.size ≤ w'.heap.size)
    (hc : ∀ b o, b < w.heap.size → v.ownBlock = some b → w'.cell? ⟨b, o, none⟩ = w.cell? ⟨b, o, none⟩) : Reads w' size v n xs := by
  obtain ⟨h1, a, cap, rfl, h3, h4, h5⟩ := h
  refine ⟨h1, a, cap, rfl, h3, h4, fun h0 => ?_⟩
  obtain ⟨b, off, rfl, hb, hx⟩ := h5 h0
  exact ⟨b, off, rfl, by omega, fun i x hi => by rw [hc b _ hb rfl]; exact hx i x hi⟩

theorem Reads.below {w w' : World} {size : Nat} {v : Value} {n : Nat} {xs : List Value} (h : Reads w size v n xs) {B : Nat} (hb : Below B w w') (hB : w.heap.size ≤ B) : Reads w' size v n xs :=
  h.keep hb.size (fun b o hlt _ => hb.cell (p := ⟨b, o, none⟩) (show b < B by omega))

theorem Reads.belowOf {w w' : World} {size : Nat} {v : Value} {n : Nat} {xs : List Value} (h : Reads w size v n xs) {B : Nat} (hb : Below B w w') (hv : ∀ b, v.ownBlock = some b → b < B) : Reads w' size v n xs :=
  h.keep hb.size (fun b o _ e => hb.cell (p := ⟨b, o, none⟩) (hv b e))

theorem Reads.grown {w w' : World} {size : Nat} {v : Value} {n : Nat} {xs : List Value} (h : Reads w size v n xs) {row : Option Nat} (hg : w.grownBy w' row) (hne : v.ownBlock = none ∨ v.ownBlock ≠ row) : Reads w' size v n xs :=
  h.keep hg.size (fun b o hlt e => World.cell?_of_block (w := w) (a := ⟨b, o, none⟩) (hg.block b hlt (fun e' => hne.elim (fun h => by rw [h] at e; cases e) (fun h => h (e.trans e')))))

theorem Reads.of_own {w : World} {B : Nat} {e : TypeId} {size : Nat} {v : Value} {n : Nat} {xs : List Value} (h : w.ownsRow B e size v n xs) : Reads w size v n xs := by
  refine ⟨h.1, ?_⟩
  rcases h.2 with ⟨rfl, rfl⟩ | ⟨g, cap, cur, rfl, hb, hg, hnc, hcm, hcs, htake⟩
  · exact ⟨none, 0, rfl, Nat.le_refl _, Nat.zero_le _, fun h => absurd h (by omega)⟩
  · refine ⟨_, cap, rfl, hnc, hcm, fun h0 => ⟨g, 0, rfl, ?_, fun i x hi => ?_⟩⟩
    · rcases Nat.lt_or_ge g w.heap.size with hlt | hge
      · exact hlt
      · rw [Array.getElem?_eq_none hge] at hg; cases hg
    · have hi' : i < n * size := by have := h.1; rcases List.getElem?_eq_some_iff.1 hi with ⟨hlt, _⟩; omega
      simp only [Nat.zero_add]
      rw [World.ownsRow.cellAt h i hi']
      exact hi

theorem Reads.cell {w : World} {size : Nat} {b off n cap : Nat} {xs : List Value} (h : Reads w size (.slice (some ⟨b, off, none⟩) n cap) n xs) {i : Nat} {x : Value} (hi : xs[i]? = some x) : w.cell? ⟨b, off + i, none⟩ = some x := by
  obtain ⟨h1, a, cap', h2, h3, h4, h5⟩ := h
  have hlt : i < n * size := by rcases List.getElem?_eq_some_iff.1 hi with ⟨hlt, _⟩; omega
  have h0 : 0 < n := by rcases Nat.eq_zero_or_pos n with h | h; · subst h; omega
                        · exact h
  simp only [Value.slice.injEq] at h2
  obtain ⟨rfl, -, rfl⟩ := h2
  obtain ⟨b', off', he, _, hx⟩ := h5 h0
  simp only [Option.some.injEq, Addr.mk.injEq, and_true] at he
  obtain ⟨rfl, rfl⟩ := he
  exact hx i x hi

theorem Reads.cell0 {w : World} {size : Nat} {b n cap : Nat} {xs : List Value} (h : Reads w size (.slice (some ⟨b, 0, none⟩) n cap) n xs) {i : Nat} {x : Value} (hi : xs[i]? = some x) : w.cell? ⟨b, i, none⟩ = some x := by
  have := h.cell hi
  rwa [Nat.zero_add] at this

/-- a literal's row, just laid -/
theorem Reads.lit (w : World) (e : TypeId) (size n : Nat) (cs : List Value) (h : cs.length = n * size) (hn : n ≤ maxLen) :
    Reads (w.alloc (.cells cs.toArray e)) size (.slice (some ⟨w.heap.size, 0, none⟩) n n) n cs := by
  refine ⟨h, _, _, rfl, Nat.le_refl _, hn, fun _ => ⟨w.heap.size, 0, rfl, by simp, fun i x hi => ?_⟩⟩
  rw [World.cell?_alloc_at _ _ _ _ rfl]
  simpa using hi

theorem Reads.litAt (w : World) (e : TypeId) (size n : Nat) (cs : List Value) (h : cs.length = n * size) (hn : n ≤ maxLen) (b : Nat) (hb : b = w.heap.size) :
    Reads (w.alloc (.cells cs.toArray e)) size (.slice (some ⟨b, 0, none⟩) n n) n cs := by
  rw [hb]; exact Reads.lit w e size n cs h hn

theorem Reads.alloc {w : World} {size : Nat} {v : Value} {n : Nat} {xs : List Value} (h : Reads w size v n xs) (o : Obj) : Reads (w.alloc o) size v n xs :=
  h.below ((Below.refl w.heap.size w).alloc (Nat.le_refl _) o) (Nat.le_refl _)

theorem own_cap {w : World} {B : Nat} {e : TypeId} {size g n cap : Nat} {xs : List Value} (h : w.ownsRow B e size (.slice (some ⟨g, 0, none⟩) n cap) n xs) : n ≤ cap ∧ cap ≤ maxLen ∧ B ≤ g ∧ g < w.heap.size := by
  rcases h.2 with ⟨h', _⟩ | ⟨g', cap', cur, h', hb, hg, hnc, hcm, hcs, htake⟩
  · simp at h'
  · simp only [Value.slice.injEq, Option.some.injEq, Addr.mk.injEq, and_true, true_and] at h'
    obtain ⟨rfl, rfl⟩ := h'
    refine ⟨hnc, hcm, hb, ?_⟩
    rcases Nat.lt_or_ge g w.heap.size with hlt | hge
    · exact hlt
    · rw [Array.getElem?_eq_none hge] at hg; cases hg

theorem own_below {B : Nat} {e : TypeId} {k : Nat} {v : Value} {n : Nat} {xs : List Value} {w w' : World} (h : w.ownsRow B e k v n xs) (hb : Below w.heap.size w w') : w'.ownsRow B e k v n xs :=
  h.kept (w' := w') (row := none) ⟨hb.os, hb.tape, hb.output, hb.size, fun j hj _ => hb.block j hj⟩ (by cases v.ownBlock <;> simp)

/-- 's[k:]' of an owned row -/
theorem Reads.drop {w : World} {B : Nat} {e : TypeId} {g n cap k : Nat} {xs : List Value} (h : w.ownsRow B e 1 (.slice (some ⟨g, 0, none⟩) n cap) n xs) (hk : k ≤ n) :
    Reads w 1 (.slice (some ⟨g, k, none⟩) (n - k) (cap - k)) (n - k) (xs.drop k) := by
  have hc := own_cap h
  refine ⟨by simp [h.1], _, _, rfl, by omega, by omega, fun _ => ⟨g, k, rfl, hc.2.2.2, fun i x hi => ?_⟩⟩
  rw [List.getElem?_drop] at hi
  have hlt : k + i < n * 1 := by have := h.1; rcases List.getElem?_eq_some_iff.1 hi with ⟨hlt, _⟩; omega
  rw [World.ownsRow.cellAt h (k + i) hlt]
  exact hi

/-- 'append(s, x)' of one new element (its cells have just been laid) on a slice of the call's own. -/
theorem wpList_app1 {P : Program} {w : World} {ops : Array Oper} {rest : List Oper} {o : Oper} {a : Act} {Q : Exit → Act → World → Prop} (hgd : o.guard = none) (s x : Operand) (t : TypeId)
    (ho : o.op = .call { callee := .builtin .append, args := #[s, x], argTypes := #[t, t] })
    (B : Nat) (e : TypeId) (z : Value) (size bytes : Nat) (ht : P.underlying t = some (.slice e)) (hinfo : (P.info? e).map (fun i => (i.zero, i.size, i.bytes)) = some (some z, size, bytes)) (hzs : z.cells.size = size) (hsz : 0 < size) (hb : bytes ≤ 4096)
    (v : Value) (n : Nat) (xs : List Value) (hs : a.eval s = v) (hown : w.ownsRow B e size v n xs) (us : List Value) (hx : a.eval x = .slice (some ⟨w.heap.size, 0, none⟩) 1 1) (hul : us.length = size) (hu : ∀ u ∈ us, u.oneCell' = true)
    (hn : n ≤ 17179869184) (hB : B ≤ w.heap.size)
    (h : ∀ v' w', w'.ownsRow B e size v' (n + 1) (xs ++ us) → (w.alloc (.cells us.toArray e)).grownBy w' v.ownBlock → (v'.ownBlock = v.ownBlock ∨ ∃ g, v'.ownBlock = some g ∧ w.heap.size ≤ g) → Below B w w' → wpList P ops Q rest (a.put o.dst v') w') :
    wpList P ops Q (o :: rest) a (w.alloc (.cells us.toArray e)) := by
  obtain ⟨i, hi, hz, hsize, hby⟩ := info_parts hinfo
  refine wpList_append_lies _ hgd s x t ho B e i z size bytes ht hi hz hsize hby hzs hsz v n xs hs (hown.alloc _) ⟨w.heap.size, 0, none⟩ 1 1 us hx (by omega) ?_ hu (by decide) ?_ ?_ ?_ _ rfl ?_
  · intro j y hj
    have hlt : j < us.length := by rcases List.getElem?_eq_some_iff.1 hj with ⟨hlt, _⟩; exact hlt
    rw [addr_add, World.cell?_alloc_at _ _ _ _ rfl]
    simpa using hj
  · unfold maxLen; omega
  · calc (n + 1) * bytes ≤ (n + 1) * 4096 := Nat.mul_le_mul_left _ hb
      _ ≤ 140737488355328 := by omega
  · simp; omega
  · intro g cap w' h1 h2 h3 _
    refine h _ w' h1 h2 ?_ ?_
    · rcases h3 with h3 | h3
      · exact .inl (by rw [h3]; rfl)
      · exact .inr ⟨g, rfl, by simp at h3; omega⟩
    · exact ((Below.refl B w).alloc hB _).grown h2 (by simp; omega) (fun k hk => (hown.lt k hk).1)

/-- 'append(s, xs...)' of a slice that reads as known on a slice of the call's own. -/
theorem wpList_appR {P : Program} {w : World} {ops : Array Oper} {rest : List Oper} {o : Oper} {a : Act} {Q : Exit → Act → World → Prop} (hgd : o.guard = none) (s x : Operand) (t : TypeId)
    (ho : o.op = .call { callee := .builtin .append, args := #[s, x], argTypes := #[t, t] })
    (B : Nat) (e : TypeId) (z : Value) (size bytes : Nat) (ht : P.underlying t = some (.slice e)) (hinfo : (P.info? e).map (fun i => (i.zero, i.size, i.bytes)) = some (some z, size, bytes)) (hzs : z.cells.size = size) (hsz : 0 < size) (hb : bytes ≤ 4096)
    (v : Value) (n : Nat) (xs : List Value) (hs : a.eval s = v) (hown : w.ownsRow B e size v n xs) (xv : Value) (m : Nat) (us : List Value) (hx : a.eval x = xv) (hr : Reads w size xv m us) (hu : ∀ u ∈ us, u.oneCell' = true)
    (hnm : n + m ≤ 17179869184) (hB : B ≤ w.heap.size)
    (h : ∀ v' w', w'.ownsRow B e size v' (n + m) (xs ++ us) → w.grownBy w' v.ownBlock → (v'.ownBlock = v.ownBlock ∨ ∃ g, v'.ownBlock = some g ∧ w.heap.size ≤ g) → Below B w w' → wpList P ops Q rest (a.put o.dst v') w') :
    wpList P ops Q (o :: rest) a w := by
  obtain ⟨i, hi, hz, hsize, hby⟩ := info_parts hinfo
  obtain ⟨ad, cap, rfl, hl, hmc, hcm, hcell⟩ := hr.open
  have fin : ∀ v' w', w'.ownsRow B e size v' (n + m) (xs ++ us) → w.grownBy w' v.ownBlock → (v'.ownBlock = v.ownBlock ∨ ∃ g, v'.ownBlock = some g ∧ w.heap.size ≤ g) → wpList P ops Q rest (a.put o.dst v') w' :=
    fun v' w' h1 h2 h3 => h v' w' h1 h2 h3 ((Below.refl B w).grown h2 hB (fun k hk => (hown.lt k hk).1))
  by_cases hm : m = 0
  · subst hm
    obtain rfl : us = [] := List.length_eq_zero_iff.1 (by omega)
    have hown' : w.ownsRow B e size v (n + 0) (xs ++ []) := by simpa using hown
    cases ad with
    | none =>
      by_cases hc : cap = 0
      · subst hc
        exact wpList_append_own_none hgd s x t ho B e i size ht hi v n xs hs hown hx (fin v w hown' (World.grownBy.refl _ _) (.inl rfl))
      · refine wpList_plain hgd fun K hK => ?_
        have hrun : (Builtin.append_ #[t, t] o.type #[v, .slice none 0 cap]).run P w = .ok v w := by
          rcases hown.2 with ⟨rfl, rfl⟩ | ⟨g, cp, cur, rfl, _, _, hnc, _⟩
          · simp [Builtin.append_, run_underlying ht, sizeOf, typeInfo, hi, Builtin.lenOf, Builtin.firstCells]
          · simp [Builtin.append_, run_underlying ht, sizeOf, typeInfo, hi, Builtin.lenOf, Builtin.firstCells, hnc, storeCells]
        unfold Oper.wp
        simp [execOp, ho, resolve, invoke, builtin, hs, hx, hrun, Result.andThen]
        exact hK _ _ (fin v w hown' (World.grownBy.refl _ _) (.inl rfl))
    | some ad =>
      refine wpList_append_own_at w hgd s x t ho B e i z size bytes ht hi hz hsize hby hzs hsz v n xs hs hown ad 0 cap [] hx (by simp) (fun j u hj => by simp at hj) (fun u hu => by simp at hu) ?_ ?_ hB ?_
      · unfold maxLen; omega
      · calc (n + 0) * bytes ≤ (n + 0) * 4096 := Nat.mul_le_mul_left _ hb
          _ ≤ 140737488355328 := by omega
      · intro v' w' h1 h2 _ h4
        refine fin v' w' h1 h2 ?_
        rcases h4 with h4 | h4
        · exact .inl h4
        · exact .inr ⟨_, h4, Nat.le_refl _⟩
  · obtain ⟨b, off, rfl, hb2, hx2⟩ := hcell (by omega)
    refine wpList_append_own_at w hgd s x t ho B e i z size bytes ht hi hz hsize hby hzs hsz v n xs hs hown ⟨b, off, none⟩ m cap us hx hl (fun j u hj => by rw [addr_add]; exact hx2 j u hj) hu ?_ ?_ hB ?_
    · unfold maxLen; omega
    · calc (n + m) * bytes ≤ (n + m) * 4096 := Nat.mul_le_mul_left _ hb
        _ ≤ 140737488355328 := by omega
    · intro v' w' h1 h2 _ h4
      refine fin v' w' h1 h2 ?_
      rcases h4 with h4 | h4
      · exact .inl h4
      · exact .inr ⟨_, h4, Nat.le_refl _⟩

/-- 'string(b)' of a slice of bytes that reads as these numbers -/
theorem conv_reads {P : Program} {w : World} (src e : TypeId) (hs : P.underlying src = some (.slice e)) (he : P.underlying e = some (.int .u8)) (dst : TypeId) (hd : P.underlying dst = some .string)
    {v : Value} {n : Nat} {xs : List Int} (h : Reads w 1 v n (xs.map (Value.int .u8))) : (convert src dst v).run P w = .ok (.string (strOfNums xs)) w := by
  obtain ⟨a, cap, rfl, hl, hc, hm, hx⟩ := h.open
  by_cases h0 : n = 0
  · subst h0
    obtain rfl : xs = [] := by simpa using hl
    cases a with
    | none => rw [run_convert_bytes_nil w src e hs he 0 cap dst hd]; rfl
    | some a =>
      rw [run_convert_bytes_string w src dst e _ 0 cap hs he hd, run_bytesToString w _ 0 cap [] (by simpa using run_loadCells_list (P := P) w a [] (fun j v hj => by simp at hj))]
      rfl
  · obtain ⟨b, off, rfl, _, hx⟩ := hx (by omega)
    refine run_convert_bytes_arg w src e hs he b off n cap xs (by simpa using hl) (fun i hi => ?_) dst hd
    have hi' : i < xs.length := by have : xs.length = n * 1 := by simpa using hl
                                   omega
    rw [hx i (.int .u8 (xs.getD i 0))]
    simp [List.getD, hi']
theorem conv_lit {P : Program} (src e : TypeId) (hs : P.underlying src = some (.slice e)) (he : P.underlying e = some (.int .u8)) (dst : TypeId) (hd : P.underlying dst = some .string)
    (w : World) (b : Nat) (hb : b = w.heap.size) (xs : List Int) (n : Nat) (hn : xs.length = n) (hm : n ≤ maxLen) : (convert src dst (.slice (some ⟨b, 0, none⟩) n n)).run P (w.alloc (.cells (xs.map (Value.int .u8)).toArray e)) = .ok (.string (strOfNums xs)) (w.alloc (.cells (xs.map (Value.int .u8)).toArray e)) :=
  conv_reads src e hs he dst hd (Reads.litAt w e 1 n (xs.map (Value.int .u8)) (by simpa using hn) hm b hb)
theorem conv1 {P : Program} {src e : TypeId} (hs : P.underlying src = some (.slice e)) (he : P.underlying e = some (.int .u8)) {dst : TypeId} (hd : P.underlying dst = some .string) (w : World) (x0 : Int) :
    (convert src dst (.slice (some ⟨w.heap.size, 0, none⟩) 1 1)).run P (w.alloc (.cells #[.int .u8 x0] e)) = .ok (.string (strOfNums [x0])) (w.alloc (.cells #[.int .u8 x0] e)) := conv_lit src e hs he dst hd w _ rfl [x0] 1 rfl (by decide)
theorem conv2 {P : Program} {src e : TypeId} (hs : P.underlying src = some (.slice e)) (he : P.underlying e = some (.int .u8)) {dst : TypeId} (hd : P.underlying dst = some .string) (w : World) (x0 x1 : Int) :
    (convert src dst (.slice (some ⟨w.heap.size, 0, none⟩) 2 2)).run P (w.alloc (.cells #[.int .u8 x0, .int .u8 x1] e)) = .ok (.string (strOfNums [x0, x1])) (w.alloc (.cells #[.int .u8 x0, .int .u8 x1] e)) := conv_lit src e hs he dst hd w _ rfl [x0, x1] 2 rfl (by decide)
theorem conv3 {P : Program} {src e : TypeId} (hs : P.underlying src = some (.slice e)) (he : P.underlying e = some (.int .u8)) {dst : TypeId} (hd : P.underlying dst = some .string) (w : World) (x0 x1 x2 : Int) :
    (convert src dst (.slice (some ⟨w.heap.size, 0, none⟩) 3 3)).run P (w.alloc (.cells #[.int .u8 x0, .int .u8 x1, .int .u8 x2] e)) = .ok (.string (strOfNums [x0, x1, x2])) (w.alloc (.cells #[.int .u8 x0, .int .u8 x1, .int .u8 x2] e)) := conv_lit src e hs he dst hd w _ rfl [x0, x1, x2] 3 rfl (by decide)
theorem conv4 {P : Program} {src e : TypeId} (hs : P.underlying src = some (.slice e)) (he : P.underlying e = some (.int .u8)) {dst : TypeId} (hd : P.underlying dst = some .string) (w : World) (x0 x1 x2 x3 : Int) :
    (convert src dst (.slice (some ⟨w.heap.size, 0, none⟩) 4 4)).run P (w.alloc (.cells #[.int .u8 x0, .int .u8 x1, .int .u8 x2, .int .u8 x3] e)) = .ok (.string (strOfNums [x0, x1, x2, x3])) (w.alloc (.cells #[.int .u8 x0, .int .u8 x1, .int .u8 x2, .int .u8 x3] e)) := conv_lit src e hs he dst hd w _ rfl [x0, x1, x2, x3] 4 rfl (by decide)
theorem ret_s {a b : ByteArray} (h : a = b) : Ending.returned (.string a) = Ending.returned (.string b) := by rw [h]
theorem ret_si {k : IntKind} {a b : ByteArray} {c d : Int} (h : a = b) (h' : c = d) : Ending.returned (.tuple #[.string a, .int k c]) = Ending.returned (.tuple #[.string b, .int k d]) := by rw [h, h']
theorem nums_eq {xs : List Int} {l : List UInt8} (h : xs.map (fun n => UInt8.ofNat n.toNat) = l) : strOfNums xs = ⟨l.toArray⟩ := by rw [← h]; rfl
theorem str_append (l m : List UInt8) : (⟨l.toArray⟩ : ByteArray) ++ ⟨m.toArray⟩ = ⟨(l ++ m).toArray⟩ := by
  apply ByteArray.ext
  simp [ByteArray.data_append]

theorem u8_int (x : Int) (n : Nat) (h : x.toNat % 256 = n % 256) : UInt8.ofNat x.toNat = UInt8.ofNat n := by
  apply UInt8.toNat.inj
  simpa using h
theorem nums1 {x0 : Int} {n0 : Nat} (h0 : x0.toNat % 256 = n0 % 256) : [x0].map (fun n => UInt8.ofNat n.toNat) = [UInt8.ofNat n0] := by
  simp only [List.map_cons, List.map_nil, u8_int x0 n0 h0]
theorem nums2 {x0 x1 : Int} {n0 n1 : Nat} (h0 : x0.toNat % 256 = n0 % 256) (h1 : x1.toNat % 256 = n1 % 256) : [x0, x1].map (fun n => UInt8.ofNat n.toNat) = [UInt8.ofNat n0, UInt8.ofNat n1] := by
  simp only [List.map_cons, List.map_nil, u8_int x0 n0 h0, u8_int x1 n1 h1]
theorem nums3 {x0 x1 x2 : Int} {n0 n1 n2 : Nat} (h0 : x0.toNat % 256 = n0 % 256) (h1 : x1.toNat % 256 = n1 % 256) (h2 : x2.toNat % 256 = n2 % 256) : [x0, x1, x2].map (fun n => UInt8.ofNat n.toNat) = [UInt8.ofNat n0, UInt8.ofNat n1, UInt8.ofNat n2] := by
  simp only [List.map_cons, List.map_nil, u8_int x0 n0 h0, u8_int x1 n1 h1, u8_int x2 n2 h2]
theorem nums4 {x0 x1 x2 x3 : Int} {n0 n1 n2 n3 : Nat} (h0 : x0.toNat % 256 = n0 % 256) (h1 : x1.toNat % 256 = n1 % 256) (h2 : x2.toNat % 256 = n2 % 256) (h3 : x3.toNat % 256 = n3 % 256) : [x0, x1, x2, x3].map (fun n => UInt8.ofNat n.toNat) = [UInt8.ofNat n0, UInt8.ofNat n1, UInt8.ofNat n2, UInt8.ofNat n3] := by
  simp only [List.map_cons, List.map_nil, u8_int x0 n0 h0, u8_int x1 n1 h1, u8_int x2 n2 h2, u8_int x3 n3 h3]

theorem wrap_small (x : Nat) (h : x < 9223372036854775808) : IntKind.i64.wrap (x : Int) = x := by
  simp [IntKind.wrap, IntKind.bits, IntKind.signed]
  omega
theorem i64_or_nat (a b : Nat) (ha : a < 9223372036854775808) (hb : b < 9223372036854775808) : Go.bits .or .i64 (a : Int) (b : Int) = ((a ||| b : Nat) : Int) := by
  have hx : a ||| b < 2 ^ 63 := Nat.or_lt_two_pow (by omega) (by omega)
  show IntKind.i64.wrap ((BitVec.ofInt 64 (a : Int) ||| BitVec.ofInt 64 (b : Int)).toNat : Int) = _
  rw [BitVec.toNat_or, ofInt_u64 a (by omega), ofInt_u64 b (by omega), wrap_small _ (by omega)]
theorem i64_and_nat (a b : Nat) (ha : a < 9223372036854775808) (hb : b < 9223372036854775808) : Go.bits .and .i64 (a : Int) (b : Int) = ((a &&& b : Nat) : Int) := by
  have hx : a &&& b < 2 ^ 63 := Nat.and_lt_two_pow _ (by omega)
  show IntKind.i64.wrap ((BitVec.ofInt 64 (a : Int) &&& BitVec.ofInt 64 (b : Int)).toNat : Int) = _
  rw [BitVec.toNat_and, ofInt_u64 a (by omega), ofInt_u64 b (by omega), wrap_small _ (by omega)]
theorem i64_xor_nat (a b : Nat) (ha : a < 9223372036854775808) (hb : b < 9223372036854775808) : Go.bits .xor .i64 (a : Int) (b : Int) = ((a ^^^ b : Nat) : Int) := by
  have hx : a ^^^ b < 2 ^ 63 := Nat.xor_lt_two_pow (by omega) (by omega)
  show IntKind.i64.wrap ((BitVec.ofInt 64 (a : Int) ^^^ BitVec.ofInt 64 (b : Int)).toNat : Int) = _
  rw [BitVec.toNat_xor, ofInt_u64 a (by omega), ofInt_u64 b (by omega), wrap_small _ (by omega)]
/-- bits that do not meet: 'or' is a sum -/
theorem or_add (x y i : Nat) (hx : x < 2 ^ i) : x ||| y * 2 ^ i = x + y * 2 ^ i := by
  rw [Nat.or_comm, nat_join i (y * 2 ^ i) x (Nat.mul_mod_left _ _) hx, Nat.add_comm]

theorem toList_isEmpty (d : ByteArray) : d.toList.isEmpty = decide (d.size = 0) := by
  rw [Bool.eq_iff_iff]
  have h : d.toList = d.data.toList := ByteArray.toList_eq d
  rw [h]
  have : d.size = d.data.toList.length := by simp
  rw [this]
  cases d.data.toList <;> simp
theorem toList_nil (d : ByteArray) : (d.toList = []) = (d.size = 0) := by
  have h := toList_isEmpty d
  apply propext
  rw [← List.isEmpty_iff, h]
  simp
theorem below_drewN (w : World) (n B : Nat) : Below B w (w.drewN n) := ⟨rfl, rfl, rfl, Nat.le_refl _, fun _ _ => rfl⟩
def I64 (x : Int) : Prop := -9223372036854775808 ≤ x ∧ x ≤ 9223372036854775807
theorem i64_of {x : Int} (h : (Lit.int .i64 x).wf = true) : I64 x := by
  unfold I64
  simpa [Lit.wf, IntKind.min, IntKind.max, IntKind.signed, IntKind.bits] using h
theorem ret_i {k : IntKind} {a b : Int} (h : a = b) : Ending.returned (.int k a) = Ending.returned (.int k b) := by rw [h]
theorem ret_b {a b : Bool} (h : a = b) : Ending.returned (.bool a) = Ending.returned (.bool b) := by rw [h]
theorem ret_ii {k l : IntKind} {a b c d : Int} (h : a = b) (h' : c = d) : Ending.returned (.tuple #[.int k a, .int l c]) = Ending.returned (.tuple #[.int k b, .int l d]) := by rw [h, h']
theorem quiet_same {P : Program} {f : FuncId} {args : Array Value} {w : World} {n : Nat} {v : Value}
    (h : Calls P f args (w.drewN n) fun e w' => e = .returned v ∧ w.drewN n = w') : Calls P f args (w.drewN n) fun e w'' => e = .returned v ∧ ∃ m, w'' = w.drewN m :=
  h.mono fun _ _ ⟨he, hm⟩ => ⟨he, n, hm.symm⟩
end Go.Proofs.YtekmnhplhoejdaaDoor

/- Contracts of small functions of package plugref. -/
namespace Go.Proofs.YtekmnhplhoejdaaDoor
open Go.RowKit
set_option linter.unusedVariables false

theorem two_any (k : Nat) (hk : k ≤ 62) (w : World) :
    Calls Tryd.prog 136 #[.int .i64 k] w fun e w' => e = .returned (.int .i64 ((2 ^ k : Nat) : Int)) ∧ w = w' := by
  go_enter Tryd.func136, Tryd.ntmps136
  go_wp2
  go_loop [3, 5] (fun n i => ∃ j : Nat, j ≤ k ∧ i = .int .i64 j ∧ n = .int .i64 ((2 ^ j : Nat) : Int)) (fun _ i => k - (intOf i).toNat)
  case atStart => exact ⟨0, Nat.zero_le _, rfl, rfl⟩
  case round =>
    obtain ⟨j, hj, rfl, rfl⟩ := hrel
    by_cases hlt : j < k
    · have hb : 2 ^ j ≤ 2 ^ 61 := Nat.pow_le_pow_right (by omega) (by omega)
      have hc : 2 ^ (j + 1) = 2 ^ j * 2 := Nat.pow_succ 2 j
      generalize hd : 2 ^ j = p at hb hc ⊢
      clear hd
      have H := Lib.hid hc; clear hc
      have hb' : (p : Int) ≤ 2305843009213693952 := by omega
      go_wp2
      go_round
      case rel => exact ⟨j + 1, by omega, by go_num, by rw [H.out]; go_num⟩
      case measure => simp [intOf]; omega
    · go_wp2
      go_ret
      obtain rfl : j = k := by omega
      exact ⟨rfl, rfl⟩
end Go.Proofs.YtekmnhplhoejdaaDoor

/- Contracts: bitsOf, left, turnedNum of package plugref. -/
namespace Go.Proofs.YtekmnhplhoejdaaDoor
open Go.RowKit
set_option linter.unusedVariables false

theorem info_bool : (Tryd.prog.info? 4).map (fun i => (i.zero, i.size, i.bytes)) = some (some (.bool false), 1, 1) := by kernel_rfl

/-- an append of one bool -/
theorem app_bool {w : World} {ops : Array Oper} {rest : List Oper} {o : Oper} {a : Act} {Q : Exit → Act → World → Prop} (hgd : o.guard = none) (s x : Operand)
    (ho : o.op = .call { callee := .builtin .append, args := #[s, x], argTypes := #[178, 178] })
    (B : Nat) (v : Value) (n : Nat) (xs : List Value) (hs : a.eval s = v) (hown : w.ownsRow B 4 1 v n xs) (u : Value) (hx : a.eval x = .slice (some ⟨w.heap.size, 0, none⟩) 1 1) (hu : u.oneCell' = true)
    (hn : n ≤ 17179869184) (hB : B ≤ w.heap.size)
    (h : ∀ v' w', w'.ownsRow B 4 1 v' (n + 1) (xs ++ [u]) → (w.alloc (.cells #[u] 4)).grownBy w' v.ownBlock → (v'.ownBlock = v.ownBlock ∨ ∃ g, v'.ownBlock = some g ∧ w.heap.size ≤ g) → Below B w w' → wpList Tryd.prog ops Q rest (a.put o.dst v') w') :
    wpList Tryd.prog ops Q (o :: rest) a (w.alloc (.cells #[u] 4)) :=
  wpList_app1 hgd s x _ ho B _ _ 1 1 Tryd.underlying178 info_bool rfl (by decide) (by decide) v n xs hs hown [u] hx rfl (by simpa using hu) hn hB h

/-- an append of a slice of bools -/
theorem appR_bool {w : World} {ops : Array Oper} {rest : List Oper} {o : Oper} {a : Act} {Q : Exit → Act → World → Prop} (hgd : o.guard = none) (s x : Operand)
    (ho : o.op = .call { callee := .builtin .append, args := #[s, x], argTypes := #[178, 178] })
    (B : Nat) (v : Value) (n : Nat) (xs : List Value) (hs : a.eval s = v) (hown : w.ownsRow B 4 1 v n xs) (xv : Value) (m : Nat) (us : List Bool) (hx : a.eval x = xv) (hr : Reads w 1 xv m (us.map Value.bool))
    (hnm : n + m ≤ 17179869184) (hB : B ≤ w.heap.size)
    (h : ∀ v' w', w'.ownsRow B 4 1 v' (n + m) (xs ++ us.map Value.bool) → w.grownBy w' v.ownBlock → (v'.ownBlock = v.ownBlock ∨ ∃ g, v'.ownBlock = some g ∧ w.heap.size ≤ g) → Below B w w' → wpList Tryd.prog ops Q rest (a.put o.dst v') w') :
    wpList Tryd.prog ops Q (o :: rest) a w :=
  wpList_appR hgd s x _ ho B _ _ 1 1 Tryd.underlying178 info_bool rfl (by decide) (by decide) v n xs hs hown xv m _ hx hr (by intro u hu; simp at hu; rcases hu with ⟨b, _, rfl⟩ | ⟨b, _, rfl⟩ <;> rfl) hnm hB h

/-- the bits of a number, n of them, the lowest first -/
def bitsL (x n : Nat) : List Bool := (List.range n).map fun k => decide (x / 2 ^ k % 2 = 1)
theorem bitsL_succ (x n : Nat) : bitsL x (n + 1) = bitsL x n ++ [decide (x / 2 ^ n % 2 = 1)] := by
  simp [bitsL, List.range_succ]
theorem bitsL_length (x n : Nat) : (bitsL x n).length = n := by simp [bitsL]

theorem bitsOf_any (x n : Nat) (hx : x ≤ 4611686018427387904) (hn : n ≤ 62) (w : World) :
    Calls Tryd.prog 140 #[.int .i64 x, .int .i64 n] w fun e w' =>
      ∃ v, e = .returned v ∧ w'.ownsRow w.heap.size 4 1 v n ((bitsL x n).map Value.bool) ∧ Below w.heap.size w w' := by
  go_enter Tryd.func140, Tryd.ntmps140
  go_wp2
  go_loopw [5, 8] (fun v i wr => ∃ k : Nat, k ≤ n ∧ i = .int .i64 k ∧ wr.ownsRow w.heap.size 4 1 v k ((bitsL x k).map Value.bool) ∧ Below w.heap.size w wr)
    (fun _ i _ => n - (intOf i).toNat)
  case atStart => exact ⟨0, Nat.zero_le _, rfl, World.ownsRow_nil _ _ _ _, Below.refl _ _⟩
  case round =>
    obtain ⟨k, hk, rfl, hown, hbel⟩ := hrel
    have hsz := hbel.size
    by_cases hlt : k < n
    · have hp : 1 ≤ 2 ^ k := Nat.one_le_two_pow
      have hp2 : 2 ^ k ≤ 2 ^ 61 := Nat.pow_le_pow_right (by omega) (by omega)
      have HS := Lib.hid (bitsL_succ x k)
      have HT := fun w0 => two_any k (by omega) w0
      generalize 2 ^ k = p at hp hp2 HS HT
      have HT := Lib.hid HT
      have hp3 : p ≤ 2305843009213693952 := by omega
      have hp4 : ((p : Int) == 0) = false := by simp; omega
      clear hp2
      have hq0 : 0 ≤ (x : Int) / (p : Int) := Int.ediv_nonneg (by omega) (by omega)
      have hq1 : (x : Int) / (p : Int) ≤ 4611686018427387904 := Int.le_trans (Int.ediv_le_self _ (by omega)) (by omega)
      go_wp2_with (first
        | (go_at_call 136; refine (HT.out _).mono ?_; rintro e w' ⟨rfl, rfl⟩)
        | (at_builtin; refine app_bool rfl _ _ rfl _ _ _ _ rfl hown _ rfl rfl (by omega) hsz ?_; intro v' w' hown' hg _ hb))
      go_roundw
      case rel =>
        refine ⟨k + 1, by omega, by go_num, ?_, hbel.trans hb⟩
        rw [HS.out]
        have e : (((x : Int) / (p : Int)) % 2 == 1) = decide (x / p % 2 = 1) := by
          rw [Bool.eq_iff_iff]; simp; omega
        rw [e] at hown'
        simpa using hown'
      case measure => simp [intOf]; omega
    · obtain rfl : k = n := by omega
      go_wp2
      go_ret
      exact ⟨_, rfl, hown, hbel⟩
end Go.Proofs.YtekmnhplhoejdaaDoor

/- Contract of plugref.left: long division of bits. -/
namespace Go.Proofs.YtekmnhplhoejdaaDoor
open Go.RowKit
set_option linter.unusedVariables false

def xorAt (b : List Bool) (i : Nat) (x : Bool) : List Bool := b.set i (b.getD i false != x)
def xorRun (b : List Bool) (off : Nat) : List Bool → List Bool
  | [] => b
  | p :: ps => xorRun (xorAt b off p) (off + 1) ps
def leftGo (ps b : List Bool) : Nat → List Bool
  | 0 => b
  | i + 1 => if (leftGo ps b i).getD i false then xorRun (leftGo ps b i) (i + 1) ps else leftGo ps b i
def leftL (bs ss ps : List Bool) : List Bool := (leftGo ps (xorRun (bs ++ List.replicate ps.length false) 0 ss) bs.length).drop bs.length

theorem xorAt_length (b : List Bool) (i : Nat) (x : Bool) : (xorAt b i x).length = b.length := by simp [xorAt]
theorem xorRun_length (ps : List Bool) : ∀ (b : List Bool) (off : Nat), (xorRun b off ps).length = b.length := by
  induction ps with
  | nil => intro b off; rfl
  | cons p ps ih => intro b off; rw [xorRun, ih, xorAt_length]
theorem xorRun_snoc (ps : List Bool) (p : Bool) : ∀ (b : List Bool) (off : Nat), xorRun b off (ps ++ [p]) = xorAt (xorRun b off ps) (off + ps.length) p := by
  induction ps with
  | nil => intro b off; rfl
  | cons q ps ih => intro b off; simp only [List.cons_append, xorRun, ih, List.length_cons]; congr 1; omega
theorem leftGo_length (ps b : List Bool) (i : Nat) : (leftGo ps b i).length = b.length := by
  induction i with
  | zero => rfl
  | succ i ih => rw [leftGo]; split
                 · rw [xorRun_length, ih]
                 · exact ih
theorem take_snocB (ss : List Bool) (k : Nat) (h : k < ss.length) : ss.take (k + 1) = ss.take k ++ [ss.getD k false] := by
  rw [List.take_succ_eq_append_getElem h]; simp [List.getD, h]
theorem xorRun_take (b ss : List Bool) (off k : Nat) (h : k < ss.length) : xorRun b off (ss.take (k + 1)) = xorAt (xorRun b off (ss.take k)) (off + k) (ss.getD k false) := by
  rw [take_snocB ss k h, xorRun_snoc, List.length_take, Nat.min_eq_left (by omega)]
theorem mapB_get (l : List Bool) (k : Nat) (h : k < l.length) : (l.map Value.bool)[k]? = some (.bool (l.getD k false)) := by
  simp [List.getD, h]
theorem mapB_set (l : List Bool) (k : Nat) (x : Bool) : (l.map Value.bool).set k (.bool x) = (l.set k x).map Value.bool := by
  rw [List.map_set]

set_option maxHeartbeats 400000 in
theorem left_any (vb vs vp : Value) (bs ss ps : List Bool) (w : World) (hb : Reads w 1 vb bs.length (bs.map Value.bool)) (hs : Reads w 1 vs ss.length (ss.map Value.bool)) (hp : Reads w 1 vp ps.length (ps.map Value.bool))
    (h0 : 0 < ps.length) (h1 : ss.length ≤ bs.length + ps.length) (h2 : bs.length + ps.length ≤ 8589934592) :
    Calls Tryd.prog 139 #[vb, vs, vp] w fun e w' =>
      ∃ v, e = .returned v ∧ Reads w' 1 v ps.length ((leftL bs ss ps).map Value.bool) ∧ Below w.heap.size w w' := by
  obtain ⟨ab, kb, rfl, -, hb1, hb2, hb3⟩ := id hb.open
  obtain ⟨as1, ks, rfl, -, hs1, hs2, hs3⟩ := id hs.open
  obtain ⟨ap, kp, rfl, -, hp1, hp2, hp3⟩ := id hp.open
  unfold maxLen at hb2 hs2 hp2
  have Hb3 := Lib.hid hb3
  have Hs3 := Lib.hid hs3
  have Hp3 := Lib.hid hp3
  clear hb3 hs3 hp3
  go_enter Tryd.func139, Tryd.ntmps139
  go_wp2_with (at_builtin; refine appR_bool rfl _ _ rfl w.heap.size _ 0 [] rfl (World.ownsRow_nil _ _ _ _) _ bs.length bs rfl hb (by omega) (Nat.le_refl _) ?_; intro v0 w0 hown0 _ _ hbel0)
  simp only [Nat.zero_add, List.nil_append] at hown0
  have hz0 := hbel0.size
  go_loopw [7, 17] (fun v i wr => ∃ k : Nat, k ≤ ps.length ∧ i = .int .i64 k ∧ wr.ownsRow w.heap.size 4 1 v (bs.length + k) ((bs ++ List.replicate k false).map Value.bool) ∧ Below w.heap.size w wr)
    (fun _ i _ => ps.length - (intOf i).toNat)
  case atStart => exact ⟨0, Nat.zero_le _, rfl, by simpa using hown0, hbel0⟩
  case round =>
    obtain ⟨k, hk, rfl, hown, hbel⟩ := hrel
    have hsz := hbel.size
    clear hown0 hbel0 hz0
    by_cases hlt : k < ps.length
    · go_wp2_with (at_builtin; refine app_bool rfl _ _ rfl _ _ _ _ rfl hown _ rfl rfl (by omega) hsz ?_; intro v' w' hown' _ _ hb)
      go_roundw
      case rel =>
        refine ⟨k + 1, by omega, by go_num, ?_, hbel.trans hb⟩
        rw [List.replicate_succ', ← List.append_assoc, List.map_append]
        exact hown'
      case measure => simp [intOf]; omega
    · obtain rfl : k = ps.length := by omega
      obtain ⟨g, cap, rfl, hg1, hg2⟩ := hown.form (by omega)
      go_wp2_with fail
      go_loopw [25] (fun i wr => ∃ k : Nat, k ≤ ss.length ∧ i = .int .i64 k ∧ wr.ownsRow w.heap.size 4 1 (.slice (some ⟨g, 0, none⟩) (bs.length + ps.length) cap) (bs.length + ps.length) ((xorRun (bs ++ List.replicate ps.length false) 0 (ss.take k)).map Value.bool) ∧ Below w.heap.size w wr)
        (fun i _ => ss.length - (intOf i).toNat)
      case atStart => exact ⟨0, Nat.zero_le _, rfl, hown, hbel⟩
      case round =>
        rename_i wr0 _ _
        clear hown hbel hsz
        obtain ⟨k, hk, rfl, hown, hbel⟩ := hrel
        by_cases hlt : k < ss.length
        · obtain ⟨sb, so, rfl, hsb, hsx⟩ := Hs3.out (by omega)
          have hc1 := (hbel.cell (p := ⟨sb, so + k, none⟩) hsb).trans (hsx k _ (mapB_get ss k hlt))
          have hc2 := hown.cellAt k (by omega)
          rw [mapB_get _ k (by rw [xorRun_length]; simp; omega)] at hc2
          have hc3 := hown.frozenAt k
          clear hsx
          generalize hy : (xorRun (bs ++ List.replicate ps.length false) 0 (ss.take k)).getD k false = y at hc2
          generalize hx : ss.getD k false = x at hc1
          have HY := Lib.hid hy
          have HX := Lib.hid hx
          clear hy hx
          go_wp2_with fail
          go_roundw
          case rel =>
            refine ⟨k + 1, by omega, by go_num, ?_, hbel.setCell hg1 _⟩
            rw [xorRun_take _ _ _ _ hlt, xorAt, ← mapB_set, Nat.zero_add, HX.out, HY.out]
            exact (hown.stored k (.bool (y != x))).1
          case measure => simp [intOf]; omega
        · obtain rfl : k = ss.length := by omega
          rw [List.take_length] at hown
          generalize hB : xorRun (bs ++ List.replicate ps.length false) 0 ss = b0 at hown
          have hb0 : b0.length = bs.length + ps.length := by rw [← hB, xorRun_length]; simp
          have HB := Lib.hid hB
          clear hB
          go_wp2_with fail
          go_loopw [42] (fun i wr => ∃ k : Nat, k ≤ bs.length ∧ i = .int .i64 k ∧ wr.ownsRow w.heap.size 4 1 (.slice (some ⟨g, 0, none⟩) (bs.length + ps.length) cap) (bs.length + ps.length) ((leftGo ps b0 k).map Value.bool) ∧ Below w.heap.size w wr)
            (fun i _ => bs.length - (intOf i).toNat)
          case atStart => exact ⟨0, Nat.zero_le _, rfl, hown, hbel⟩
          case round =>
            rename_i wr1 _ _ _
            clear hown hbel
            obtain ⟨k, hk, rfl, hown, hbel⟩ := hrel
            have hc2 := hown.cellAt k
            by_cases hlt : k < bs.length
            · have hc2 := hown.cellAt k (by omega)
              rw [mapB_get _ k (by rw [leftGo_length]; omega)] at hc2
              generalize hL : leftGo ps b0 k = b1 at hown hc2
              have hb1l : b1.length = bs.length + ps.length := by rw [← hL, leftGo_length, hb0]
              have hstep : leftGo ps b0 (k + 1) = if b1.getD k false then xorRun b1 (k + 1) ps else b1 := by rw [leftGo, hL]
              have HL := Lib.hid hstep
              clear hL hstep
              cases hbit : b1.getD k false with
              | false =>
                rw [hbit] at hc2
                have HB := Lib.hid hbit
                clear hbit
                go_wp2_with fail
                go_roundw
                case rel =>
                  refine ⟨k + 1, by omega, by go_num, ?_, hbel⟩
                  rw [HL.out, HB.out]
                  exact hown
                case measure => simp [intOf]; omega
              | true =>
                rw [hbit] at hc2
                have HB := Lib.hid hbit
                clear hbit
                go_wp2_with fail
                rename_i wr2 _ _ _
                go_loopw [51] (fun i wr => ∃ j : Nat, j ≤ ps.length ∧ i = .int .i64 j ∧ wr.ownsRow w.heap.size 4 1 (.slice (some ⟨g, 0, none⟩) (bs.length + ps.length) cap) (bs.length + ps.length) ((xorRun b1 (k + 1) (ps.take j)).map Value.bool) ∧ Below w.heap.size w wr)
                  (fun i _ => ps.length - (intOf i).toNat)
                case atStart => exact ⟨0, Nat.zero_le _, rfl, hown, hbel⟩
                case round =>
                  rename_i wr3 _ _ _ _ _
                  clear hown hbel hc2
                  obtain ⟨j, hj, rfl, hown, hbel⟩ := hrel
                  by_cases hlj : j < ps.length
                  · obtain ⟨sb, so, rfl, hsb, hsx⟩ := Hp3.out (by omega)
                    have hc1 := (hbel.cell (p := ⟨sb, so + j, none⟩) hsb).trans (hsx j _ (mapB_get ps j hlj))
                    have hc2 := hown.cellAt (k + 1 + j) (by omega)
                    rw [mapB_get _ (k + 1 + j) (by rw [xorRun_length]; omega)] at hc2
                    have hc3 := hown.frozenAt (k + 1 + j)
                    clear hsx
                    generalize hy : (xorRun b1 (k + 1) (ps.take j)).getD (k + 1 + j) false = y at hc2
                    generalize hx : ps.getD j false = x at hc1
                    have HY := Lib.hid hy
                    have HX := Lib.hid hx
                    clear hy hx
                    go_wp2_with fail
                    go_roundw
                    case rel =>
                      refine ⟨j + 1, by omega, by go_num, ?_, hbel.setCell hg1 _⟩
                      rw [xorRun_take _ _ _ _ hlj, xorAt, ← mapB_set, HX.out, HY.out]
                      exact (hown.stored (k + 1 + j) (.bool (y != x))).1
                    case measure => simp [intOf]; omega
                  · obtain rfl : j = ps.length := by omega
                    rw [List.take_length] at hown
                    go_wp2_with fail
                    go_roundw
                    case rel =>
                      refine ⟨k + 1, by omega, by go_num, ?_, hbel⟩
                      rw [HL.out, HB.out]
                      exact hown
                    case measure => simp [intOf]; omega
            · obtain rfl : k = bs.length := by omega
              have hcap := own_cap hown
              clear hc2
              go_wp2_with fail
              go_ret
              refine ⟨_, rfl, ?_, hbel⟩
              have hd := Reads.drop hown (k := bs.length) (by omega)
              rw [← List.map_drop, Nat.add_sub_cancel_left, ← HB.out] at hd
              exact hd
end Go.Proofs.YtekmnhplhoejdaaDoor

/- Contracts: crc.feed at uint8 and uint16. -/
namespace Go.Proofs.YtekmnhplhoejdaaDoor
open Go.RowKit
set_option linter.unusedVariables false

/-- one bit into a register -/
def feedStep (c : Nat) (r : Nat) (bit : Bool) : Nat := if (r % 2 == 1) != bit then (r / 2) ^^^ c else r / 2
def feedN (c n : Nat) (r : Nat) : Nat → Nat
  | 0 => r
  | k + 1 => feedStep c (feedN c n r k) (decide (n / 2 ^ k % 2 = 1))

theorem xor_lt (a b m : Nat) (ha : a < 2 ^ m) (hb : b < 2 ^ m) : a ^^^ b < 2 ^ m := Nat.xor_lt_two_pow ha hb
theorem feedStep_lt {c r m : Nat} (hr : r < 2 ^ m) (hc : c < 2 ^ m) (b : Bool) : feedStep c r b < 2 ^ m := by
  unfold feedStep
  split
  · exact xor_lt _ _ _ (by omega) hc
  · omega
theorem feedN_lt {c n r m : Nat} (hr : r < 2 ^ m) (hc : c < 2 ^ m) (k : Nat) : feedN c n r k < 2 ^ m := by
  induction k with
  | zero => exact hr
  | succ k ih => exact feedStep_lt ih hc _

theorem feed8_test (x n p : Nat) (hx : x < 256) (hn : n < 65536) (hp : 1 ≤ p) :
    (Go.bits .and .u8 (x : Int) 1 != Go.bits .and .u16 ((n : Int) / p) 1 % 256) = ((x % 2 == 1) != decide (n / p % 2 = 1)) := by
  have h1 : n / p < 65536 := Nat.lt_of_le_of_lt (Nat.div_le_self _ _) hn
  have e1 : Go.bits .and .u8 (x : Int) 1 = ((x &&& 1 : Nat) : Int) := u8_and_nat x 1 hx (by decide)
  have e2 : Go.bits .and .u16 ((n : Int) / p) 1 = ((n / p &&& 1 : Nat) : Int) := by
    have := u16_and_nat (n / p) 1 h1 (by decide)
    simpa using this
  rw [e1, e2, nat_mask1, nat_mask1]
  generalize n / p = q
  rcases Nat.mod_two_eq_zero_or_one q with h | h <;> rcases Nat.mod_two_eq_zero_or_one x with h' | h' <;> rw [h, h'] <;> rfl
set_option maxHeartbeats 400000 in
theorem feed8_any (r c n m : Nat) (hr : r < 256) (hc : c < 256) (hn : n < 65536) (hm : m ≤ 16) (w : World) :
    Calls Tryd.prog 157 #[.int .u8 r, .int .u8 c, .int .u16 n, .int .i64 m] w fun e w' => e = .returned (.int .u8 (feedN c n r m : Nat)) ∧ w = w' := by
  go_enter Tryd.func157, Tryd.ntmps157
  go_wp2
  go_loop [0, 12] (fun v i => ∃ k : Nat, k ≤ m ∧ i = .int .i64 k ∧ v = .int .u8 (feedN c n r k : Nat)) (fun _ i => m - (intOf i).toNat)
  case atStart => exact ⟨0, Nat.zero_le _, rfl, rfl⟩
  case round =>
    obtain ⟨k, hk, rfl, rfl⟩ := hrel
    by_cases hlt : k < m
    · have hlt0 := feedN_lt (n := n) (m := 8) hr hc k
      have hstep : feedN c n r (k + 1) = feedStep c (feedN c n r k) (decide (n / 2 ^ k % 2 = 1)) := rfl
      generalize feedN c n r k = x at hlt0 hstep ⊢
      have hx2 : x / 2 < 256 := by omega
      have ht := feed8_test x n (2 ^ k) (by omega) hn Nat.one_le_two_pow
      have hxor := u8_xor_nat (x / 2) c hx2 hc
      push_cast at ht
      unfold feedStep at hstep
      rw [← ht] at hstep
      have HS := Lib.hid hstep
      have HX := Lib.hid hxor
      clear hstep hxor ht
      go_wp2
      all_goals go_round
      all_goals try (case measure => simp [intOf]; omega)
      all_goals try (case rel =>
        refine ⟨k + 1, by omega, by go_num, ?_⟩
        have hh := HS.out
        first
          | (rw [if_pos (by assumption)] at hh; rw [hh]; simpa using HX.out)
          | (rw [if_neg (by rw [Bool.not_eq_true]; assumption)] at hh; rw [hh]; simp))
    · obtain rfl : k = m := by omega
      go_wp2
      go_ret
      exact ⟨rfl, rfl⟩
theorem feed16_test (x n p : Nat) (hx : x < 65536) (hn : n < 65536) (hp : 1 ≤ p) :
    (Go.bits .and .u16 (x : Int) 1 != Go.bits .and .u16 ((n : Int) / p) 1) = ((x % 2 == 1) != decide (n / p % 2 = 1)) := by
  have h1 : n / p < 65536 := Nat.lt_of_le_of_lt (Nat.div_le_self _ _) hn
  have e1 : Go.bits .and .u16 (x : Int) 1 = ((x &&& 1 : Nat) : Int) := u16_and_nat x 1 hx (by decide)
  have e2 : Go.bits .and .u16 ((n : Int) / p) 1 = ((n / p &&& 1 : Nat) : Int) := by
    have := u16_and_nat (n / p) 1 h1 (by decide)
    simpa using this
  rw [e1, e2, nat_mask1, nat_mask1]
  generalize n / p = q
  rcases Nat.mod_two_eq_zero_or_one q with h | h <;> rcases Nat.mod_two_eq_zero_or_one x with h' | h' <;> rw [h, h'] <;> rfl
set_option maxHeartbeats 400000 in
theorem feed16_any (r c n m : Nat) (hr : r < 65536) (hc : c < 65536) (hn : n < 65536) (hm : m ≤ 16) (w : World) :
    Calls Tryd.prog 158 #[.int .u16 r, .int .u16 c, .int .u16 n, .int .i64 m] w fun e w' => e = .returned (.int .u16 (feedN c n r m : Nat)) ∧ w = w' := by
  go_enter Tryd.func158, Tryd.ntmps158
  go_wp2
  go_loop [0, 12] (fun v i => ∃ k : Nat, k ≤ m ∧ i = .int .i64 k ∧ v = .int .u16 (feedN c n r k : Nat)) (fun _ i => m - (intOf i).toNat)
  case atStart => exact ⟨0, Nat.zero_le _, rfl, rfl⟩
  case round =>
    obtain ⟨k, hk, rfl, rfl⟩ := hrel
    by_cases hlt : k < m
    · have hlt0 := feedN_lt (n := n) (m := 16) hr hc k
      have hstep : feedN c n r (k + 1) = feedStep c (feedN c n r k) (decide (n / 2 ^ k % 2 = 1)) := rfl
      generalize feedN c n r k = x at hlt0 hstep ⊢
      have hx2 : x / 2 < 65536 := by omega
      have ht := feed16_test x n (2 ^ k) (by omega) hn Nat.one_le_two_pow
      have hxor := u16_xor_nat (x / 2) c hx2 hc
      push_cast at ht
      unfold feedStep at hstep
      rw [← ht] at hstep
      have HS := Lib.hid hstep
      have HX := Lib.hid hxor
      clear hstep hxor ht
      go_wp2
      all_goals go_round
      all_goals try (case measure => simp [intOf]; omega)
      all_goals try (case rel =>
        refine ⟨k + 1, by omega, by go_num, ?_⟩
        have hh := HS.out
        first
          | (rw [if_pos (by assumption)] at hh; rw [hh]; simpa using HX.out)
          | (rw [if_neg (by rw [Bool.not_eq_true]; assumption)] at hh; rw [hh]; simp))
    · obtain rfl : k = m := by omega
      go_wp2
      go_ret
      exact ⟨rfl, rfl⟩
end Go.Proofs.YtekmnhplhoejdaaDoor

/- Contracts: turnedNum, Five and More of both packages, Sixteen. -/
namespace Go.Proofs.YtekmnhplhoejdaaDoor
open Go.RowKit
set_option linter.unusedVariables false

/-- bits, all turned, as a number, the lowest first -/
def turnedL : List Bool → Nat
  | [] => 0
  | b :: bs => (if b then 0 else 1) + 2 * turnedL bs
theorem turnedL_snoc (l : List Bool) (b : Bool) : turnedL (l ++ [b]) = turnedL l + (if b then 0 else 2 ^ l.length) := by
  induction l with
  | nil => cases b <;> simp [turnedL]
  | cons c l ih => simp only [List.cons_append, turnedL, ih, List.length_cons, Nat.pow_succ]; cases b <;> simp <;> omega
theorem turnedL_lt (l : List Bool) : turnedL l < 2 ^ l.length := by
  induction l with
  | nil => simp [turnedL]
  | cons c l ih => simp only [turnedL, List.length_cons, Nat.pow_succ]; split <;> omega

set_option maxHeartbeats 400000 in
theorem turnedNum_any (vb : Value) (bs : List Bool) (w : World) (hb : Reads w 1 vb bs.length (bs.map Value.bool)) (hl : bs.length ≤ 61) :
    Calls Tryd.prog 138 #[vb] w fun e w' => e = .returned (.int .i64 (turnedL bs : Nat)) ∧ w = w' := by
  obtain ⟨ab, kb, rfl, -, hb1, hb2, hb3⟩ := hb.open
  unfold maxLen at hb2
  have Hb3 := Lib.hid hb3
  clear hb3
  go_enter Tryd.func138, Tryd.ntmps138
  go_wp2
  go_loop [3, 8] (fun v i => ∃ k : Nat, k ≤ bs.length ∧ i = .int .i64 k ∧ v = .int .i64 (turnedL (bs.take k) : Nat)) (fun _ i => bs.length - (intOf i).toNat)
  case atStart => exact ⟨0, Nat.zero_le _, rfl, rfl⟩
  case round =>
    obtain ⟨k, hk, rfl, rfl⟩ := hrel
    by_cases hlt : k < bs.length
    · obtain ⟨sb, so, rfl, hsb, hsx⟩ := Hb3.out (by omega)
      have hc1 := hsx k _ (mapB_get bs k hlt)
      clear hsx
      have hstep := turnedL_snoc (bs.take k) (bs.getD k false)
      rw [← take_snocB bs k hlt, List.length_take, Nat.min_eq_left (by omega)] at hstep
      have hlt1 := turnedL_lt (bs.take k)
      rw [List.length_take, Nat.min_eq_left (by omega)] at hlt1
      have hp1 : 2 ^ k ≤ 2 ^ 60 := Nat.pow_le_pow_right (by omega) (by omega)
      have HT := fun w0 => two_any k (by omega) w0
      generalize turnedL (bs.take k) = x at hlt1 hstep ⊢
      generalize 2 ^ k = p at hp1 hlt1 hstep HT
      have hp2 : p ≤ 1152921504606846976 := by omega
      have HT := Lib.hid HT
      cases hbit : bs.getD k false with
      | true =>
        rw [hbit] at hc1 hstep
        clear hbit
        have HS := Lib.hid hstep
        clear hstep
        go_wp2_with (go_at_call 136; refine (HT.out _).mono ?_; rintro e w' ⟨rfl, rfl⟩)
        go_round
        case rel => exact ⟨k + 1, by omega, by go_num, by rw [HS.out]; simp⟩
        case measure => simp [intOf]; omega
      | false =>
        rw [hbit] at hc1 hstep
        clear hbit
        have HS := Lib.hid hstep
        clear hstep
        go_wp2_with (go_at_call 136; refine (HT.out _).mono ?_; rintro e w' ⟨rfl, rfl⟩)
        go_round
        case rel => exact ⟨k + 1, by omega, by go_num, by rw [HS.out]; simp⟩
        case measure => simp [intOf]; omega
    · obtain rfl : k = bs.length := by omega
      rw [List.take_length]
      go_wp2_with fail
      go_ret
      exact ⟨rfl, rfl⟩

def fiveC (n : Nat) : Nat := if 2047 < n then 0 else feedN 20 n 31 11 ^^^ 31
def fiveE (n : Nat) : Int := if 2047 < n then 1 else 0
theorem feed8_five (n : Nat) (hn : n < 65536) (w : World) :
    Calls Tryd.prog 157 #[.int .u8 31, .int .u8 20, .int .u16 n, .int .i64 11] w fun e w' => e = .returned (.int .u8 (feedN 20 n 31 11 : Nat)) ∧ w = w' := by
  have h := feed8_any 31 20 n 11 (by decide) (by decide) hn (by decide) w
  simpa only [Int.cast_ofNat_Int] using h
theorem fiveP_any (n : Nat) (hn : n < 65536) (w : World) :
    Calls Tryd.prog 129 #[.int .u16 n] w fun e w' => e = .returned (.tuple #[.int .u8 (fiveC n : Nat), .int .i64 (fiveE n)]) ∧ w = w' := by
  by_cases h : 2047 < n
  · have e1 : fiveC n = 0 := if_pos h
    have e2 : fiveE n = 1 := if_pos h
    rw [e1, e2]
    clear e1 e2
    go_enter Tryd.func129, Tryd.ntmps129
    go_wp2
    go_ret2
    exact ⟨ret_ii rfl rfl, rfl⟩
  · have e1 : fiveC n = feedN 20 n 31 11 ^^^ 31 := if_neg h
    have e2 : fiveE n = 0 := if_neg h
    rw [e1, e2]
    clear e1 e2
    have hx := u8_xor_nat (feedN 20 n 31 11) 31 (feedN_lt (m := 8) (by decide) (by decide) 11) (by decide)
    have HF := Lib.hid (feed8_five n hn)
    generalize feedN 20 n 31 11 = x at hx HF ⊢
    have HX := Lib.hid hx
    clear hx
    go_enter Tryd.func129, Tryd.ntmps129
    go_wp2_with (go_at_call 157; refine (HF.out _).mono ?_; rintro e w' ⟨rfl, rfl⟩)
    go_ret2
    exact ⟨ret_ii HX.out rfl, rfl⟩

def crcByte (r : Nat) (b : UInt8) : Nat := feedN 40961 b.toNat r 8
def moreC (r : Nat) (l : List UInt8) : Nat := l.foldl crcByte r
theorem crcByte_lt (r : Nat) (b : UInt8) (h : r < 65536) : crcByte r b < 65536 := feedN_lt (m := 16) (c := 40961) (n := b.toNat) (r := r) h (by decide) 8
theorem moreC_snoc (l : List UInt8) (b : UInt8) (r : Nat) : moreC r (l ++ [b]) = crcByte (moreC r l) b := by
  unfold moreC
  rw [List.foldl_append]
  rfl
theorem moreC_lt (l : List UInt8) : ∀ r, r < 65536 → moreC r l < 65536 := by
  unfold moreC
  induction l with
  | nil => intro r h; exact h
  | cons c l ih =>
    intro r h
    rw [List.foldl_cons]
    exact ih _ (crcByte_lt r c h)
theorem take_snoc (s : ByteArray) (k : Nat) (h : k < s.size) : s.data.toList.take (k + 1) = s.data.toList.take k ++ [s[k]] := by
  rw [List.take_succ_eq_append_getElem (by simpa using h)]; rfl

theorem feed16_more (r : Nat) (b : UInt8) (hr : r < 65536) (w : World) :
    Calls Tryd.prog 158 #[.int .u16 r, .int .u16 40961, .int .u16 b.toNat, .int .i64 8] w fun e w' => e = .returned (.int .u16 (crcByte r b : Nat)) ∧ w = w' := by
  have h := feed16_any r 40961 b.toNat 8 hr (by decide) (Nat.lt_trans b.toNat_lt (by decide)) (by decide) w
  unfold crcByte
  simpa only [Int.cast_ofNat_Int] using h
theorem not16 (r : Nat) (hr : r < 65536) : Go.bits .xor .u16 IntKind.u16.max (r : Int) = ((65535 - r : Nat) : Int) := by
  have h := u16_xor_nat 65535 r (by decide) hr
  have e : (65535 ^^^ r) = 65535 - r := by
    have hb : ∀ q : Fin 65536, (65535 ^^^ q.val) = 65535 - q.val := by
      intro q
      have h2 := BitVec.toNat_not (x := BitVec.ofFin (w := 16) q)
      have h3 : (~~~(BitVec.ofFin (w := 16) q)) = (65535#16 ^^^ BitVec.ofFin (w := 16) q) := by
        rw [← BitVec.allOnes_xor]; rfl
      rw [h3] at h2
      simpa using h2
    exact hb ⟨r, hr⟩
  rw [e] at h
  exact h

set_option maxHeartbeats 400000 in
theorem moreP_any (sum : Nat) (hsum : sum < 65536) (s : ByteArray) (hs : s.size ≤ maxLen) (w : World) :
    Calls Tryd.prog 130 #[.int .u16 sum, .string s] w fun e w' => e = .returned (.int .u16 (65535 - moreC (65535 - sum) s.data.toList : Nat)) ∧ w = w' := by
  unfold maxLen at hs
  have hn0 := not16 sum hsum
  go_enter Tryd.func130, Tryd.ntmps130
  go_wp2
  clear hn0
  go_loop [5, 11] (fun v i => ∃ k : Nat, k ≤ s.size ∧ i = .int .i64 k ∧ v = .int .u16 (moreC (65535 - sum) (s.data.toList.take k) : Nat)) (fun _ i => s.size - (intOf i).toNat)
  case atStart => exact ⟨0, Nat.zero_le _, rfl, rfl⟩
  case round =>
    obtain ⟨k, hk, rfl, rfl⟩ := hrel
    have hr := moreC_lt (s.data.toList.take k) (65535 - sum) (by omega)
    by_cases hlt : k < s.size
    · have hstep := moreC_snoc (s.data.toList.take k) s[k] (65535 - sum)
      rw [← take_snoc s k hlt] at hstep
      generalize moreC (65535 - sum) (s.data.toList.take k) = r at hr hstep ⊢
      have HS := Lib.hid hstep
      clear hstep
      have hb : s[k].toNat < 256 := s[k].toNat_lt
      go_wp2_with (go_at_call 158; refine (feed16_more r s[k] hr _).mono ?_; rintro e w' ⟨rfl, rfl⟩)
      go_round
      case rel => exact ⟨k + 1, by omega, by go_num, by rw [HS.out]⟩
      case measure => simp [intOf]; omega
    · obtain rfl : k = s.size := by omega
      have ht : s.data.toList.take s.size = s.data.toList := List.take_of_length_le (by simp)
      rw [ht] at hr ⊢
      have hn1 := not16 _ hr
      go_wp2_with fail
      go_ret
      exact ⟨rfl, rfl⟩
theorem sixteen_any (s : ByteArray) (hs : s.size ≤ maxLen) (w : World) :
    Calls Tryd.prog 102 #[.string s] w fun e w' => e = .returned (.int .u16 (65535 - moreC 65535 s.data.toList : Nat)) ∧ w = w' := by
  have h0 := fun w0 => moreP_any 0 (by decide) s hs w0
  have H := Lib.hid h0
  clear h0
  go_enter Tryd.func102, Tryd.ntmps102
  go_wp2_with (go_at_call 130; refine (H.out _).mono ?_; rintro e w' ⟨rfl, rfl⟩)
  go_ret
  exact ⟨rfl, rfl⟩
end Go.Proofs.YtekmnhplhoejdaaDoor

/- Contracts: Five and More of package plugref. -/
namespace Go.Proofs.YtekmnhplhoejdaaDoor
open Go.RowKit
set_option linter.unusedVariables false

def fiveR (n : Nat) : Nat := if 2048 ≤ n then 0 else turnedL (leftL (bitsL n 11) (bitsL 31 5) [false, false, true, false, true])
set_option maxRecDepth 100000
theorem leftL_length (bs ss ps : List Bool) : (leftL bs ss ps).length = ps.length := by
  unfold leftL
  rw [List.length_drop, leftGo_length, xorRun_length]
  simp

set_option maxHeartbeats 400000 in
theorem fiveR_any (n : Nat) (hn : n < 65536) (w : World) :
    Calls Tryd.prog 109 #[.int .u16 n] w fun e w' => e = .returned (.tuple #[.int .u8 (fiveR n : Nat), .int .i64 (fiveE n)]) ∧ Below w.heap.size w w' := by
  by_cases h : 2048 ≤ n
  · have e1 : fiveR n = 0 := if_pos h
    have e2 : fiveE n = 1 := if_pos (by omega)
    rw [e1, e2]
    clear e1 e2
    go_enter Tryd.func109, Tryd.ntmps109
    go_wp2
    go_ret2
    exact ⟨ret_ii rfl rfl, Below.refl _ _⟩
  · have e1 : fiveR n = turnedL (leftL (bitsL n 11) (bitsL 31 5) [false, false, true, false, true]) := if_neg h
    have e2 : fiveE n = 0 := if_neg (by omega)
    rw [e1, e2]
    clear e1 e2
    have hb1 := bitsOf_any n 11 (by omega) (by decide)
    have hb2 := bitsOf_any 31 5 (by decide) (by decide)
    simp only [Int.cast_ofNat_Int] at hb1 hb2
    have l1 : (bitsL n 11).length = 11 := bitsL_length _ _
    have l2 : (bitsL 31 5).length = 5 := bitsL_length _ _
    have HB1 := Lib.hid hb1
    have HB2 := Lib.hid hb2
    clear hb1 hb2
    generalize bitsL n 11 = bs at *
    generalize bitsL 31 5 = ss at *
    have L1 := Lib.hid l1
    have L2 := Lib.hid l2
    clear l1 l2
    go_enter Tryd.func109, Tryd.ntmps109
    go_wp2_with fail
    refine (HB1.out _).mono ?_
    rintro e w1 ⟨v1, rfl, ho1, hbel1⟩
    have hz1 := hbel1.size
    go_wp2_with fail
    refine (HB2.out _).mono ?_
    rintro e w2 ⟨v2, rfl, ho2, hbel2⟩
    have hz2 := hbel2.size
    go_wp2_with fail
    have hl := Reads.lit w2 4 1 5 ([false, false, true, false, true].map Value.bool) rfl (by decide)
    have hr1 := ((Reads.of_own ho1).below hbel2 (Nat.le_refl _)).alloc (.cells ([false, false, true, false, true].map Value.bool).toArray 4)
    have hr2 := (Reads.of_own ho2).alloc (.cells ([false, false, true, false, true].map Value.bool).toArray 4)
    refine (left_any _ _ _ bs ss [false, false, true, false, true] _ (by rw [L1.out]; exact hr1) (by rw [L2.out]; exact hr2) hl (by decide) (by rw [L2.out]; simp) (by rw [L1.out]; simp)).mono ?_
    rintro e w3 ⟨v3, rfl, hr3, hbel3⟩
    have l3 := leftL_length bs ss [false, false, true, false, true]
    generalize hR : leftL bs ss [false, false, true, false, true] = rs at *
    have L3 := Lib.hid l3
    have HR := Lib.hid hR
    clear l3 hl hr1 hr2 ho1 ho2 hR
    go_wp2_with fail
    refine (turnedNum_any _ rs _ (by rw [L3.out]; exact hr3) (by rw [L3.out]; simp)).mono ?_
    rintro e w4 ⟨rfl, rfl⟩
    have hlt : turnedL rs < 32 := by have := turnedL_lt rs; rw [L3.out] at this; exact this
    generalize hX : turnedL rs = x at *
    have HX := Lib.hid hX
    clear hX
    go_wp2_with fail
    go_ret2
    refine ⟨ret_ii (by rw [HR.out, HX.out]) rfl, ?_⟩
    have b2 : Below w.heap.size w (w2.alloc (.cells ([false, false, true, false, true].map Value.bool).toArray 4)) := (hbel1.trans (hbel2.mono hz1)).alloc (by omega) _
    exact b2.trans (hbel3.mono (by simp; omega))

def bitsS (l : List UInt8) : List Bool := l.flatMap fun b => bitsL b.toNat 8
theorem bitsS_snoc (l : List UInt8) (b : UInt8) : bitsS (l ++ [b]) = bitsS l ++ bitsL b.toNat 8 := by simp [bitsS]
theorem bitsS_length (l : List UInt8) : (bitsS l).length = 8 * l.length := by
  induction l with
  | nil => rfl
  | cons b l ih => simp only [bitsS, List.flatMap_cons, List.length_append, bitsL_length, List.length_cons] at ih ⊢; omega
def poly16 : List Bool := [true, false, false, false, false, false, false, false, false, false, false, false, false, true, false, true]
def moreR (sum : Nat) (l : List UInt8) : Nat := turnedL (leftL (bitsS l) (bitsL (65535 - sum) 16) poly16)
theorem bitsOf_byte (b : UInt8) (w : World) :
    Calls Tryd.prog 140 #[.int .i64 b.toNat, .int .i64 8] w fun e w' =>
      ∃ v, e = .returned v ∧ w'.ownsRow w.heap.size 4 1 v 8 ((bitsL b.toNat 8).map Value.bool) ∧ Below w.heap.size w w' := by
  have h := bitsOf_any b.toNat 8 (Nat.le_trans (Nat.le_of_lt b.toNat_lt) (by decide)) (by decide) w
  simpa only [Int.cast_ofNat_Int] using h

theorem make16 (w : World) : (Instr.makeSlice 178 (.int .i64 16) (.int .i64 16)).run Tryd.prog w = .ok (.slice (some ⟨w.heap.size, 0, none⟩) 16 16) (w.alloc (.cells #[.bool false, .bool false, .bool false, .bool false, .bool false, .bool false, .bool false, .bool false, .bool false, .bool false, .bool false, .bool false, .bool false, .bool false, .bool false, .bool false] 4)) := by kernel_rfl
set_option maxHeartbeats 400000 in
theorem moreR_any (sum : Nat) (hsum : sum < 65536) (s : ByteArray) (hs : s.size ≤ 1048576) (w : World) :
    Calls Tryd.prog 112 #[.int .u16 sum, .string s] w fun e w' => e = .returned (.int .u16 (moreR sum s.data.toList : Nat)) ∧ Below w.heap.size w w' := by
  go_enter Tryd.func112, Tryd.ntmps112
  go_wp2
  go_loopw [5, 10] (fun v i wr => ∃ k : Nat, k ≤ s.size ∧ i = .int .i64 k ∧ wr.ownsRow w.heap.size 4 1 v (8 * k) ((bitsS (s.data.toList.take k)).map Value.bool) ∧ Below w.heap.size w wr)
    (fun _ i _ => s.size - (intOf i).toNat)
  case atStart => exact ⟨0, Nat.zero_le _, rfl, World.ownsRow_nil _ _ _ _, Below.refl _ _⟩
  case round =>
    obtain ⟨k, hk, rfl, hown, hbel⟩ := hrel
    have hsz := hbel.size
    by_cases hlt : k < s.size
    · have hbyte : s[k].toNat < 256 := s[k].toNat_lt
      go_wp2_with fail
      refine (bitsOf_byte s[k] _).mono ?_
      rintro e w1 ⟨v1, rfl, ho1, hb1⟩
      have hz1 := hb1.size
      have hown1 := own_below hown hb1
      go_wp2_with (at_builtin; refine appR_bool rfl _ _ rfl w.heap.size _ (8 * k) _ rfl hown1 _ 8 _ rfl (Reads.of_own ho1) (by omega) (by omega) ?_; intro v2 w2 hown2 _ _ hb2)
      go_roundw
      case rel =>
        refine ⟨k + 1, by omega, by go_num, ?_, (hbel.trans (hb1.mono hsz)).trans hb2⟩
        rw [take_snoc s k hlt, bitsS_snoc, List.map_append]
        exact hown2
      case measure => simp [intOf]; omega
    · obtain rfl : k = s.size := by omega
      have ht : s.data.toList.take s.size = s.data.toList := List.take_of_length_le (by simp)
      rw [ht] at hown
      have hmk := make16
      have hs16 := bitsL_length (65535 - sum) 16
      have hb2 := bitsOf_any (65535 - sum) 16 (by omega) (by decide)
      rw [show ((65535 - sum : Nat) : Int) = 65535 - (sum : Int) from by omega] at hb2
      simp only [Int.cast_ofNat_Int] at hb2
      have hlen : (bitsS s.data.toList).length = 8 * s.size := by rw [bitsS_length]; simp
      have HB2 := Lib.hid hb2
      clear hb2
      have HR : Hid (moreR sum s.data.toList = turnedL (leftL (bitsS s.data.toList) (bitsL (65535 - sum) 16) poly16)) := rfl
      generalize bitsS s.data.toList = bs at *
      generalize bitsL (65535 - sum) 16 = ss at *
      have HL := Lib.hid hlen
      have HS := Lib.hid hs16
      clear hlen hs16
      go_wp2_with fail
      refine (HB2.out _).mono ?_
      rintro e w1 ⟨v1, rfl, ho1, hb1⟩
      have hz1 := hb1.size
      have hr0 := ((Reads.of_own hown).alloc (.cells (poly16.map Value.bool).toArray 4)).below hb1 (Nat.le_refl _)
      have hr2 := (Reads.lit wr 4 1 16 (poly16.map Value.bool) rfl (by decide)).below hb1 (Nat.le_refl _)
      go_wp2_with fail
      refine (left_any _ _ _ bs ss poly16 _ (by rw [HL.out]; exact hr0) (by rw [HS.out]; exact Reads.of_own ho1) hr2 (by decide) (by rw [HS.out]; exact Nat.le_trans (Nat.le_add_left 16 _) (Nat.le_refl _)) (by rw [HL.out]; show 8 * s.size + 16 ≤ _; omega)).mono ?_
      rintro e w3 ⟨v3, rfl, hr3, hbel3⟩
      have l3 := leftL_length bs ss poly16
      generalize hR : leftL bs ss poly16 = rs at *
      have L3 := Lib.hid l3
      have HR2 := Lib.hid hR
      clear l3 hr0 hr2 ho1 hown hR
      go_wp2_with fail
      refine (turnedNum_any _ rs _ (by rw [L3.out]; exact hr3) (by rw [L3.out]; decide)).mono ?_
      rintro e w4 ⟨rfl, rfl⟩
      have hlt2 : turnedL rs < 65536 := by have := turnedL_lt rs; rw [L3.out] at this; exact this
      generalize hX : turnedL rs = x at *
      have HX := Lib.hid hX
      clear hX
      go_wp2_with fail
      go_ret
      refine ⟨ret_i (by rw [HR.out]), ?_⟩
      have b2 : Below w.heap.size w (wr.alloc (.cells (poly16.map Value.bool).toArray 4)) := hbel.alloc hsz _
      have z2 : wr.heap.size ≤ (wr.alloc (.cells (poly16.map Value.bool).toArray 4)).heap.size := by simp
      exact (b2.trans (hb1.mono (Nat.le_trans hsz z2))).trans (hbel3.mono (Nat.le_trans hsz (Nat.le_trans z2 hz1)))
end Go.Proofs.YtekmnhplhoejdaaDoor

/- The plain law: long division of bits leaves what the register holds, turned. -/
namespace Go.Proofs.YtekmnhplhoejdaaDoor
open Go.RowKit
set_option linter.unusedVariables false

def zipX : List Bool → List Bool → List Bool
  | [], _ => []
  | x :: t, [] => x :: t
  | x :: t, p :: ps => (x != p) :: zipX t ps
def zipN : List Bool → Nat → List Bool
  | [], _ => []
  | x :: t, r => (x != (r % 2 == 1)) :: zipN t (r / 2)
def divStep (ps : List Bool) : List Bool → List Bool
  | [] => []
  | x :: t => if x then xorRun t 0 ps else t
def divGo (ps : List Bool) (b : List Bool) : Nat → List Bool
  | 0 => b
  | i + 1 => divStep ps (divGo ps b i)

theorem xorRun_pre (ps : List Bool) : ∀ (x : Bool) (t : List Bool) (k : Nat), xorRun (x :: t) (k + 1) ps = x :: xorRun t k ps := by
  induction ps with
  | nil => intro x t k; rfl
  | cons p ps ih =>
    intro x t k
    simp only [xorRun, xorAt, List.set_cons_succ, List.getD_cons_succ]
    exact ih _ _ _
theorem xorRun_zip (ps : List Bool) : ∀ t, xorRun t 0 ps = zipX t ps := by
  induction ps with
  | nil => intro t; cases t <;> rfl
  | cons p ps ih =>
    intro t
    cases t with
    | nil =>
      have h : ∀ (qs : List Bool) (k : Nat), xorRun [] k qs = [] := by
        intro qs
        induction qs with
        | nil => intro k; rfl
        | cons q qs ih => intro k; simp only [xorRun, xorAt, List.set_nil]; exact ih _
      rw [h]; rfl
    | cons x t =>
      have e : xorAt (x :: t) 0 p = (x != p) :: t := rfl
      rw [xorRun, e, Nat.zero_add, xorRun_pre, ih]
      rfl
theorem leftGo_drop (ps b : List Bool) (i : Nat) (hi : i ≤ b.length) : (leftGo ps b i).drop i = divGo ps b i := by
  induction i with
  | zero => rfl
  | succ i ih =>
    have h := ih (by omega)
    have hl := leftGo_length ps b i
    generalize hg : leftGo ps b i = g at h hl
    rw [divGo, ← h]
    have hlt : i < g.length := by omega
    rw [List.drop_eq_getElem_cons hlt, divStep, leftGo, hg]
    have e : g.getD i false = g[i] := by simp [List.getD, hlt]
    rw [e]
    cases hb : g[i] with
    | false => simp
    | true =>
      simp only [if_true]
      have key : ∀ (k : Nat) (l : List Bool) (q : Nat), k ≤ l.length → (xorRun l (k + q) ps).drop k = xorRun (l.drop k) q ps := by
        intro k
        induction k with
        | zero => intro l q _; rw [Nat.zero_add]; rfl
        | succ k ih2 =>
          intro l q hk
          cases l with
          | nil => simp at hk
          | cons y l =>
            rw [show k + 1 + q = (k + q) + 1 from by omega, xorRun_pre, List.drop_succ_cons, List.drop_succ_cons]
            exact ih2 l q (by simpa using hk)
      have := key (i + 1) g 0 (by omega)
      simpa using this
theorem zipX_bits (n : Nat) : ∀ (t : List Bool) (x : Nat), x < 2 ^ n → zipX t (bitsL x n) = zipN t x := by
  induction n with
  | zero =>
    intro t x hx
    have hz : ∀ t : List Bool, t = zipN t 0 := by
      intro t
      induction t with
      | nil => rfl
      | cons y t ih => rw [zipN]; simp; exact ih
    obtain rfl : x = 0 := by simpa using hx
    cases t with
    | nil => rfl
    | cons y t => exact hz _
  | succ n ih =>
    intro t x hx
    have e : bitsL x (n + 1) = decide (x % 2 = 1) :: bitsL (x / 2) n := by
      unfold bitsL
      rw [List.range_succ_eq_map, List.map_cons, List.map_map]
      congr 1
      · simp
      · apply List.map_congr_left
        intro k _
        simp only [Function.comp_apply]
        rw [Nat.pow_succ', Nat.div_div_eq_div_mul]
    rw [e]
    cases t with
    | nil => rfl
    | cons y t =>
      rw [zipX, zipN, ih _ _ (by rw [Nat.pow_succ] at hx; omega)]
      congr 1
theorem zipN_zipN (t : List Bool) : ∀ a b, zipN (zipN t a) b = zipN t (a ^^^ b) := by
  induction t with
  | nil => intro a b; rfl
  | cons x t ih =>
    intro a b
    simp only [zipN, ih]
    have e1 : (a ^^^ b) % 2 = (a % 2) ^^^ (b % 2) := by
      have := Nat.xor_mod_two_pow (a := a) (b := b) (n := 1)
      simpa using this
    have e2 : (a ^^^ b) / 2 = (a / 2) ^^^ (b / 2) := by
      have := Nat.xor_div_two_pow (a := a) (b := b) (n := 1)
      simpa using this
    rw [e2]
    congr 1
    rw [e1]
    rcases Nat.mod_two_eq_zero_or_one a with h | h <;> rcases Nat.mod_two_eq_zero_or_one b with h' | h' <;> rw [h, h'] <;> cases x <;> rfl
theorem divStep_zip (ps t : List Bool) (x : Bool) (r c : Nat) (hps : ∀ t, xorRun t 0 ps = zipN t c) : divStep ps (zipN (x :: t) r) = zipN t (feedStep c r x) := by
  rw [zipN, divStep, hps]
  unfold feedStep
  have e : ((r % 2 == 1) != x) = (x != (r % 2 == 1)) := by cases x <;> cases (r % 2 == 1) <;> rfl
  rw [e]
  cases (x != (r % 2 == 1)) with
  | true => simp only [if_true]; exact zipN_zipN _ _ _
  | false => rfl
theorem divGo_zip (ps : List Bool) (c : Nat) (hps : ∀ t, xorRun t 0 ps = zipN t c) (m : List Bool) : ∀ (z : List Bool) (r : Nat), divGo ps (zipN (m ++ z) r) m.length = zipN z (m.foldl (feedStep c) r) := by
  have comm : ∀ (k : Nat) (b : List Bool), divGo ps b (k + 1) = divGo ps (divStep ps b) k := by
    intro k
    induction k with
    | zero => intro b; rfl
    | succ k ih => intro b; rw [divGo, ih]; rfl
  induction m with
  | nil => intro z r; rfl
  | cons x m ih =>
    intro z r
    rw [List.length_cons, comm, List.cons_append, divStep_zip ps _ x r c hps, ih, List.foldl_cons]
theorem turnedL_zip (n : Nat) : ∀ r, r < 2 ^ n → turnedL (zipN (List.replicate n false) r) = 2 ^ n - 1 - r := by
  induction n with
  | zero => intro r hr; simp [zipN, turnedL]
  | succ n ih =>
    intro r hr
    rw [List.replicate_succ, zipN, turnedL, ih (r / 2) (by rw [Nat.pow_succ] at hr; omega)]
    rw [Nat.pow_succ] at hr ⊢
    rcases Nat.mod_two_eq_zero_or_one r with h | h <;> rw [h] <;> simp <;> omega
theorem foldl_feed (c x r k : Nat) : (bitsL x k).foldl (feedStep c) r = feedN c x r k := by
  induction k with
  | zero => rfl
  | succ k ih => rw [bitsL_succ, List.foldl_append, ih]; rfl
theorem foldl_lt (c n : Nat) (hc : c < 2 ^ n) (m : List Bool) : ∀ r, r < 2 ^ n → m.foldl (feedStep c) r < 2 ^ n := by
  induction m with
  | nil => intro r h; exact h
  | cons x m ih => intro r h; rw [List.foldl_cons]; exact ih _ (feedStep_lt h hc x)

/-- THE LAW -/
theorem left_turned (m : List Bool) (n c s : Nat) (hc : c < 2 ^ n) (hs : s < 2 ^ n) :
    turnedL (leftL m (bitsL s n) (bitsL c n)) = 2 ^ n - 1 - m.foldl (feedStep c) s := by
  have hps : ∀ t, xorRun t 0 (bitsL c n) = zipN t c := fun t => by rw [xorRun_zip, zipX_bits n t c hc]
  unfold leftL
  rw [leftGo_drop _ _ _ (by rw [xorRun_length]; simp), xorRun_zip, zipX_bits n _ s hs, divGo_zip _ c hps, bitsL_length, turnedL_zip n _ (foldl_lt c n hc m s hs)]

theorem five_same (n : Nat) : fiveC n = fiveR n := by
  unfold fiveC fiveR
  by_cases h : 2048 ≤ n
  · rw [if_pos h, if_pos (by omega)]
  · rw [if_neg h, if_neg (by omega)]
    have e : ([false, false, true, false, true] : List Bool) = bitsL 20 5 := by decide
    rw [e, left_turned _ 5 20 31 (by decide) (by decide), foldl_feed]
    have hl : feedN 20 n 31 11 < 32 := feedN_lt (m := 5) (by decide) (by decide) 11
    generalize feedN 20 n 31 11 = r at hl
    have : ∀ q : Fin 32, q.val ^^^ 31 = 2 ^ 5 - 1 - q.val := by decide
    exact this ⟨r, hl⟩
theorem more_same (sum : Nat) (hsum : sum < 65536) (l : List UInt8) : 65535 - moreC (65535 - sum) l = moreR sum l := by
  unfold moreR
  have e : poly16 = bitsL 40961 16 := by decide
  rw [e, left_turned _ 16 40961 (65535 - sum) (by decide) (by omega)]
  have h : ∀ (l : List UInt8) (r : Nat), (bitsS l).foldl (feedStep 40961) r = moreC r l := by
    intro l
    induction l with
    | nil => intro r; rfl
    | cons b l ih =>
      intro r
      have eb : bitsS (b :: l) = bitsL b.toNat 8 ++ bitsS l := rfl
      rw [eb, List.foldl_append, foldl_feed, ih]
      rfl
  rw [h]
end Go.Proofs.YtekmnhplhoejdaaDoor

/- Contracts: kinds of packets, Check (packet) and Packet (plugref). -/
namespace Go.Proofs.YtekmnhplhoejdaaDoor
open Go.RowKit
set_option linter.unusedVariables false

def tokK (k : Int) : Bool := k == 1 || k == 9 || k == 13
def datK (k : Int) : Bool := k == 3 || k == 11
def bareK (k : Int) : Bool := k == 2 || k == 10 || k == 14
def knownK (k : Int) : Bool := tokK k || datK k || k == 5 || k == 2 || k == 10 || k == 14
def tokS : ByteArray := ⟨#[1, 9, 13]⟩
def datS : ByteArray := ⟨#[3, 11]⟩
def bareS : ByteArray := ⟨#[2, 10, 14]⟩

theorem isR_any (k : Int) (hk : -9223372036854775808 ≤ k ∧ k ≤ 9223372036854775807) (l : ByteArray) (b : Bool) (hb : ∀ n : Fin 16, k = (n.val : Int) → decide (0 ≤ Lib.indexByte l.data.toList n.val.toUInt8) = b) (hn : ¬ (0 ≤ k ∧ k < 16) → b = false) (w : World) :
    Calls Tryd.prog 110 #[.int .i64 k, .string l] w fun e w' => e = .returned (.bool b) ∧ w = w' := by
  by_cases h0 : 0 ≤ k
  · by_cases h1 : k < 16
    · obtain ⟨n, rfl⟩ : ∃ n : Nat, k = n := ⟨k.toNat, by omega⟩
      have hb' := hb ⟨n, by omega⟩ rfl
      have HB := Lib.hid hb'
      have HC := fun w0 => Tryd.strings_IndexByte l (n : Int) w0
      rw [Int.toNat_natCast] at HC
      simp only at HB
      generalize Lib.indexByte l.data.toList n.toUInt8 = x at HB HC
      have HC := Lib.hid HC
      clear hb' hb hn
      go_enter Tryd.func110, Tryd.ntmps110
      go_wp2_with (go_at_call 141; refine (HC.out _).mono ?_; rintro e w' ⟨rfl, rfl⟩)
      all_goals go_ret
      all_goals exact ⟨by rw [← HB.out]; simp [*], rfl⟩
    · rw [hn (by omega)]
      clear hb hn
      go_enter Tryd.func110, Tryd.ntmps110
      go_wp2_with fail
      go_ret
      exact ⟨rfl, rfl⟩
  · rw [hn (by omega)]
    clear hb hn
    go_enter Tryd.func110, Tryd.ntmps110
    go_wp2_with fail
    go_ret
    exact ⟨rfl, rfl⟩
theorem isTok_any (k : Int) (hk : -9223372036854775808 ≤ k ∧ k ≤ 9223372036854775807) (w : World) :
    Calls Tryd.prog 110 #[.int .i64 k, .string ⟨#[1, 9, 13]⟩] w fun e w' => e = .returned (.bool (tokK k)) ∧ w = w' := by
  refine isR_any k hk _ _ (fun n hn => ?_) (fun h => ?_) w
  · subst hn; revert n; decide
  · simp [tokK]; omega
theorem isDat_any (k : Int) (hk : -9223372036854775808 ≤ k ∧ k ≤ 9223372036854775807) (w : World) :
    Calls Tryd.prog 110 #[.int .i64 k, .string ⟨#[3, 11]⟩] w fun e w' => e = .returned (.bool (datK k)) ∧ w = w' := by
  refine isR_any k hk _ _ (fun n hn => ?_) (fun h => ?_) w
  · subst hn; revert n; decide
  · simp [datK]; omega
theorem isBare_any (k : Int) (hk : -9223372036854775808 ≤ k ∧ k ≤ 9223372036854775807) (w : World) :
    Calls Tryd.prog 110 #[.int .i64 k, .string ⟨#[2, 10, 14]⟩] w fun e w' => e = .returned (.bool (bareK k)) ∧ w = w' := by
  refine isR_any k hk _ _ (fun n hn => ?_) (fun h => ?_) w
  · subst hn; revert n; decide
  · simp [bareK]; omega
theorem isAll_any (k : Int) (hk : -9223372036854775808 ≤ k ∧ k ≤ 9223372036854775807) (w : World) :
    Calls Tryd.prog 110 #[.int .i64 k, .string ⟨#[1, 9, 13, 3, 11, 2, 10, 14, 5]⟩] w fun e w' => e = .returned (.bool (knownK k)) ∧ w = w' := by
  refine isR_any k hk _ _ (fun n hn => ?_) (fun h => ?_) w
  · subst hn; revert n; decide
  · simp [knownK, tokK, datK]; omega

theorem token_any (k : Int) (w : World) :
    Calls Tryd.prog 98 #[.int .i64 k] w fun e w' => e = .returned (.bool (tokK k)) ∧ w = w' := by
  go_enter Tryd.func98, Tryd.ntmps98
  go_wp2
  all_goals go_ret
  all_goals exact ⟨by simp [tokK, *], rfl⟩
theorem data_any (k : Int) (w : World) :
    Calls Tryd.prog 100 #[.int .i64 k] w fun e w' => e = .returned (.bool (datK k)) ∧ w = w' := by
  go_enter Tryd.func100, Tryd.ntmps100
  go_wp2
  all_goals go_ret
  all_goals exact ⟨by simp [datK, *], rfl⟩
theorem known_any (k : Int) (w : World) :
    Calls Tryd.prog 128 #[.int .i64 k] w fun e w' => e = .returned (.bool (knownK k)) ∧ w = w' := by
  go_enter Tryd.func128, Tryd.ntmps128
  go_wp2_with (first | (go_at_call 98; refine (token_any _ _).mono ?_; rintro e w' ⟨rfl, rfl⟩) | (go_at_call 100; refine (data_any _ _).mono ?_; rintro e w' ⟨rfl, rfl⟩))
  all_goals go_ret
  all_goals exact ⟨by simp [knownK, *], rfl⟩
end Go.Proofs.YtekmnhplhoejdaaDoor

/- Contract of plugref.TwoBytes. -/
namespace Go.Proofs.YtekmnhplhoejdaaDoor
open Go.RowKit
set_option linter.unusedVariables false
set_option maxRecDepth 100000

def twoL (n : Nat) : List UInt8 := [UInt8.ofNat n, UInt8.ofNat (n / 256)]
theorem twoBytes_any (n : Nat) (h : n ≤ 9223372036854775807) (w : World) : Calls Tryd.prog 111 #[.int .i64 n] w fun e w' => e = .returned (.string ⟨(twoL n).toArray⟩) ∧ Below w.heap.size w w' := by
  have hc := conv2 (P := Tryd.prog) Tryd.underlying83 Tryd.underlying5 Tryd.underlying9
  go_enter Tryd.func111, Tryd.ntmps111
  go_wp2
  go_ret
  exact ⟨ret_s (nums_eq (nums2 (by omega) (by omega))), (Below.refl _ _).alloc (Nat.le_refl _) _⟩

end Go.Proofs.YtekmnhplhoejdaaDoor

/- A region that draws its order, walked once: each operation's result is told by a relation that later operations keep; each operation is shown once, from the results of those that it waits for. -/
namespace Go.Proofs.YtekmnhplhoejdaaDoor
open Go.RowKit
set_option linter.unusedVariables false

def upd (x : Nat → Value) (i : Nat) (v : Value) : Nat → Value := fun j => if j = i then v else x j
def cntN (f : Nat → Bool) : Nat → Nat
  | 0 => 0
  | n + 1 => (if f n then 0 else 1) + cntN f n
theorem cntN_eq (f g : Nat → Bool) : ∀ n, (∀ j, j < n → f j = g j) → cntN f n = cntN g n
  | 0, _ => rfl
  | n + 1, h => by rw [cntN, cntN, h n (by omega), cntN_eq f g n (fun j hj => h j (by omega))]
theorem cntN_set (f g : Nat → Bool) (i : Nat) (hi : f i = false) (gi : g i = true) (hne : ∀ j, j ≠ i → g j = f j) : ∀ n, i < n → cntN g n + 1 = cntN f n
  | 0, h => by omega
  | n + 1, h => by
    rw [cntN, cntN]
    by_cases e : n = i
    · subst e
      rw [hi, gi, cntN_eq g f n (fun j hj => hne j (by omega))]
      simp; omega
    · rw [hne n e]
      have := cntN_set f g i hi gi hne n (by omega)
      omega
theorem cntN_zero (f : Nat → Bool) : ∀ n, cntN f n = 0 → ∀ j, j < n → f j = true
  | 0, _, j, hj => by omega
  | n + 1, h, j, hj => by
    rw [cntN] at h
    by_cases e : j = n
    · subst e
      cases hf : f j with
      | true => rfl
      | false => rw [hf] at h; simp at h
    · exact cntN_zero f n (by omega) j (by omega)

/-- the results of the operations that this one waits for -/
def DepsOk (R : Nat → Value → World → Prop) (x : Nat → Value) (w : World) : List Edge → Prop
  | [] => True
  | e :: es => (Region.binds .any e = true → R e.on (x e.on) w) ∧ DepsOk R x w es
theorem DepsOk.of {R : Nat → Value → World → Prop} {x : Nat → Value} {w : World} : ∀ (es : List Edge), (∀ e ∈ es, Region.binds .any e = true → R e.on (x e.on) w) → DepsOk R x w es
  | [], _ => trivial
  | e :: es, h => ⟨h e (by simp), DepsOk.of es (fun e' he => h e' (by simp [he]))⟩
/-- one operation: from any world that meets S and results that meet R, it comes to such ones -/
structure OpOk (P : Program) (ops : Array Oper) (Q : Exit → Act → World → Prop) (F : (Nat → Value) → Act) (S : World → Prop) (R : Nat → Value → World → Prop) (i : Nat) (o : Oper) : Prop where
  ok : ∀ (x : Nat → Value) (w : World), S w → DepsOk R x w o.after.toList → ∀ K : Act → World → Prop,
    (∀ v w', R i v w' → S w' → Below w.heap.size w w' → K ((F x).put o.dst v) w') →
    if Region.wanted o (yielded ops (F x).tmps) then o.wp P (F x) w K Q else K ((F x).put o.dst undef) w
def OpsOk (P : Program) (ops : Array Oper) (Q : Exit → Act → World → Prop) (F : (Nat → Value) → Act) (S : World → Prop) (R : Nat → Value → World → Prop) : Nat → List Oper → Prop
  | _, [] => True
  | i, o :: l => OpOk P ops Q F S R i o ∧ OpsOk P ops Q F S R (i + 1) l
theorem OpsOk.get {P : Program} {ops : Array Oper} {Q : Exit → Act → World → Prop} {F : (Nat → Value) → Act} {S : World → Prop} {R : Nat → Value → World → Prop} :
    ∀ (l : List Oper) (k : Nat), OpsOk P ops Q F S R k l → ∀ (i : Nat) (o : Oper), l[i]? = some o → OpOk P ops Q F S R (k + i) o
  | [], _, _, i, o, h => by simp at h
  | o' :: l, k, hk, 0, o, h => by simp at h; subst h; exact hk.1
  | o' :: l, k, hk, i + 1, o, h => by
    have := OpsOk.get l (k + 1) hk.2 i o (by simpa using h)
    rwa [show k + 1 + i = k + (i + 1) from by omega] at this
/-- each edge leads back -/
def backward (ops : List Oper) : Bool := (ops.zipIdx).all fun p => p.1.after.toList.all fun e => decide (e.on < p.2)
theorem backward_get {ops : List Oper} (h : backward ops = true) (i : Nat) (o : Oper) (ho : ops[i]? = some o) : ∀ e ∈ o.after, e.on < i := by
  intro e he
  unfold backward at h
  rw [List.all_eq_true] at h
  have hm : (o, i) ∈ ops.zipIdx := by
    rw [List.mem_zipIdx_iff_getElem?]
    exact ho
  have h2 := h _ hm
  rw [List.all_eq_true] at h2
  have h3 := h2 e (by simpa using he)
  simpa using h3
def AllRel (R : Nat → Value → World → Prop) (x : Nat → Value) (w : World) : Nat → Nat → Prop
  | _, 0 => True
  | i, n + 1 => R i (x i) w ∧ AllRel R x w (i + 1) n
theorem AllRel.of {R : Nat → Value → World → Prop} {x : Nat → Value} {w : World} : ∀ (n i : Nat), (∀ j, i ≤ j → j < i + n → R j (x j) w) → AllRel R x w i n
  | 0, _, _ => trivial
  | n + 1, i, h => ⟨h i (Nat.le_refl _) (by omega), AllRel.of n (i + 1) (fun j h1 h2 => h j (by omega) (by omega))⟩

theorem wp_region_rel {P : Program} {id : Nat} {l : List Oper} {Q : Exit → Act → World → Prop} {a : Act} {w : World} (hm : P.follows .mixedOrders = true) (hb : backward l = true)
    (F : (Nat → Value) → Act) (x0 : Nat → Value) (ha : a = F x0) (S : World → Prop) (R : Nat → Value → World → Prop)
    (hstab : ∀ i v w w', R i v w → S w → S w' → Below w.heap.size w w' → R i v w')
    (hput : ∀ i o x v, l[i]? = some o → (F x).put o.dst v = F (upd x i v))
    (hS0 : S w.drew) (hop : OpsOk P l.toArray Q F S R 0 l)
    (hend : ∀ x w', S w' → AllRel R x w' 0 l.length → Q .normal (F x) w') : (Code.region id l.toArray true).wp P Q a w := by
  refine wp_region_any hm ?_
  subst ha
  have main : ∀ (fuel : Nat) (listed : Array Bool) (x : Nat → Value) (w : World), listed.size = l.length → cntN (fun j => listed.getD j true) l.length ≤ fuel → S w →
      (∀ j, j < l.length → listed.getD j true = true → R j (x j) w) → wpAny P .any l.toArray Q fuel listed (F x) w := by
    intro fuel
    have fin : ∀ (listed : Array Bool) (x : Nat → Value) (w : World), listed.size = l.length → S w → (∀ j, j < l.length → listed.getD j true = true → R j (x j) w) → Region.ready .any l.toArray listed = [] → Q .normal (F x) w := by
      intro listed x w hsz hS hR hr
      refine hend x w hS (AllRel.of _ 0 (fun j _ hj => hR j (by omega) ?_))
      have all : ∀ k, k < l.length → listed.getD k true = true := by
        intro k
        induction k using Nat.strongRecOn with
        | ind k ih =>
          intro hk
          cases hf : listed.getD k true with
          | true => rfl
          | false =>
            exfalso
            have : k ∈ Region.ready .any l.toArray listed := by
              refine mem_ready.2 ⟨hf, l[k], by simp [hk], fun e he _ => ?_⟩
              have hlt := backward_get hb k l[k] (by simp [hk]) e he
              have := ih e.on hlt (by omega)
              have hin : e.on < listed.size := by omega
              simp only [Array.getD, hin, dif_pos] at this ⊢
              exact this
            rw [hr] at this
            cases this
      exact all j (by omega)
    induction fuel with
    | zero =>
      intro listed x w hsz hc hS hR
      have all := cntN_zero _ _ (Nat.le_zero.1 hc)
      have hr : Region.ready .any l.toArray listed = [] := by
        apply List.eq_nil_iff_forall_not_mem.2
        intro k hk
        obtain ⟨h1, o, ho, _⟩ := mem_ready.1 hk
        have hlt : k < l.length := by
          have := (Array.getElem?_eq_some_iff.1 ho).1
          simpa using this
        rw [all k hlt] at h1
        cases h1
      exact ⟨hr, fin listed x w hsz hS hR hr⟩
    | succ fuel ih =>
      intro listed x w hsz hc hS hR
      refine ⟨fin listed x w hsz hS hR, fun i hi => ?_⟩
      obtain ⟨h1, o, ho, hdep⟩ := mem_ready.1 hi
      have ho' : l[i]? = some o := by simpa using ho
      have hlt : i < l.length := (List.getElem?_eq_some_iff.1 ho').1
      have hok := OpsOk.get l 0 hop i o ho'
      rw [Nat.zero_add] at hok
      have deps : DepsOk R x w o.after.toList := by
        refine DepsOk.of _ (fun e he hb' => ?_)
        have hin := backward_get hb i o ho' e (by simpa using he)
        refine hR e.on (by omega) ?_
        have := hdep e (by simpa using he) hb'
        have hin2 : e.on < listed.size := by omega
        simp only [Array.getD, hin2, dif_pos] at this ⊢
        exact this
      have step := hok.ok x w hS deps (wpAny P .any l.toArray Q fuel (listed.setIfInBounds i true)) (fun v w' hv hS' hle => by
        rw [hput i o x v ho']
        refine ih _ (upd x i v) w' (by simpa using hsz) ?_ hS' ?_
        · have hset := cntN_set (fun j => listed.getD j true) (fun j => (listed.setIfInBounds i true).getD j true) i h1 (by
            have : i < listed.size := by omega
            simp [Array.getD, this]) (fun j hj => getD_set_ne true (Ne.symm hj)) l.length hlt
          omega
        · intro j hj hlj
          unfold upd
          by_cases e : j = i
          · rw [if_pos e]; subst e; exact hv
          · rw [if_neg e]
            rw [getD_set_ne true (Ne.symm e)] at hlj
            exact hstab j _ w w' (hR j hj hlj) hS hS' hle)
      unfold wpOp
      rw [ho]
      simp only
      split
      · rename_i hw
        rw [if_pos hw] at step
        exact .inl step
      · rename_i hw
        rw [if_neg hw] at step
        exact step
  refine main _ _ x0 _ (by simp) ?_ hS0 (fun j hj hl => ?_)
  · have : ∀ n, cntN (fun j => (Array.replicate l.toArray.size false).getD j true) n ≤ n := by
      intro n
      induction n with
      | zero => exact Nat.le_refl _
      | succ n ih => rw [cntN]; split <;> omega
    simpa using this l.length
  · exfalso
    simp [Array.getD, hj] at hl

/-- the frame with every operation's result in its slot -/
def putAll (x : Nat → Value) : Nat → List Oper → Act → Act
  | _, [], a => a
  | i, o :: l, a => putAll x (i + 1) l (a.put o.dst (x i))
theorem put_same (a : Act) (d : Option Tmp) : a.put d (match d with | some t => a.tmps.getD t undef | none => undef) = a := by
  cases d with
  | none => rfl
  | some t =>
    simp only [Act.put]
    cases a with
    | mk tmps defers =>
      simp only [Act.mk.injEq, and_true]
      rw [Array.setIfInBounds]
      split
      · rename_i h
        apply Array.ext
        · simp
        · intro j h1 h2
          simp only [Array.getElem_set]
          split
          · rename_i e
            subst e
            simp
          · rfl
      · rfl
theorem putAll_same (a : Act) (x : Nat → Value) : ∀ (l : List Oper) (i : Nat), (∀ j o, l[j]? = some o → x (i + j) = (match o.dst with | some t => a.tmps.getD t undef | none => undef)) → putAll x i l a = a
  | [], _, _ => rfl
  | o :: l, i, h => by
    have h0 := h 0 o rfl
    rw [Nat.add_zero] at h0
    rw [putAll, h0, put_same]
    exact putAll_same a x l (i + 1) (fun j o' hj => by
      have := h (j + 1) o' (by simpa using hj)
      rwa [show i + (j + 1) = i + 1 + j from by omega] at this)
theorem put_put (a : Act) (d : Option Tmp) (u v : Value) : (a.put d u).put d v = a.put d v := by
  cases d with
  | none => rfl
  | some t => simp [Act.put]
def apartFrom (d : Option Tmp) (l : List Oper) : Bool := match d with | none => true | some t => l.all fun o => decide (o.dst ≠ some t)
theorem putAll_comm (d : Option Tmp) (v : Value) (x : Nat → Value) : ∀ (l : List Oper) (k : Nat) (a : Act), apartFrom d l = true → (putAll x k l a).put d v = putAll x k l (a.put d v)
  | [], _, _, _ => rfl
  | o :: l, k, a, h => by
    have h2 : apartFrom d l = true := by
      cases d with
      | none => rfl
      | some t => simp only [apartFrom, List.all_cons, Bool.and_eq_true] at h; exact h.2
    have h1 : ∀ t, o.dst = some t → d ≠ some t := by
      intro t ht hd
      subst hd
      simp only [apartFrom, List.all_cons, Bool.and_eq_true, decide_eq_true_eq] at h
      exact h.1 ht
    rw [putAll, putAll, putAll_comm d v x l (k + 1) _ h2, Act.put_comm a (x k) v h1]
theorem putAll_upd (x : Nat → Value) (i : Nat) (v : Value) : ∀ (l : List Oper) (k : Nat) (a : Act), i < k → putAll (upd x i v) k l a = putAll x k l a
  | [], _, _, _ => rfl
  | o :: l, k, a, h => by
    rw [putAll, putAll, putAll_upd x i v l (k + 1) _ (by omega)]
    unfold upd
    rw [if_neg (by omega)]
def lone : List Oper → Bool
  | [] => true
  | o :: l => apartFrom o.dst l && lone l
theorem apart_of {o : Oper} {l : List Oper} {i : Nat} {o' : Oper} (h : apartFrom o.dst l = true) (ho : l[i]? = some o') : ∀ t, o'.dst = some t → o.dst ≠ some t := by
  intro t ht hd
  rw [hd] at h
  simp only [apartFrom, List.all_eq_true, decide_eq_true_eq] at h
  exact h o' (List.mem_of_getElem? ho) ht
theorem putAll_put (v : Value) : ∀ (l : List Oper) (k i : Nat) (o : Oper) (x : Nat → Value) (a : Act), lone l = true → l[i]? = some o → (putAll x k l a).put o.dst v = putAll (upd x (k + i) v) k l a
  | [], _, _, _, _, _, _, h => by simp at h
  | o' :: l, k, 0, o, x, a, hl, h => by
    simp at h
    subst h
    simp only [lone, Bool.and_eq_true] at hl
    rw [putAll, putAll, putAll_comm _ _ _ _ _ _ hl.1, put_put]
    simp only [Nat.add_zero]
    rw [putAll_upd x k v l (k + 1) _ (by omega)]
    unfold upd
    rw [if_pos rfl]
  | o' :: l, k, i + 1, o, x, a, hl, h => by
    simp only [lone, Bool.and_eq_true] at hl
    have h' : l[i]? = some o := by simpa using h
    rw [putAll, putAll, putAll_put v l (k + 1) i o x _ hl.2 h', show k + 1 + i = k + (i + 1) from by omega]
    congr 1
    unfold upd
    rw [if_neg (by omega)]
theorem wp_region_relF {P : Program} {id : Nat} {l : List Oper} {Q : Exit → Act → World → Prop} {a : Act} {w : World} (hm : P.follows .mixedOrders = true) (hb : (backward l && lone l) = true)
    (S : World → Prop) (R : Nat → Value → World → Prop)
    (hstab : ∀ i v w w', R i v w → S w → S w' → Below w.heap.size w w' → R i v w')
    (hS0 : S w.drew) (hop : OpsOk P l.toArray Q (fun x => putAll x 0 l a) S R 0 l)
    (hend : ∀ x w', S w' → AllRel R x w' 0 l.length → Q .normal (putAll x 0 l a) w') : (Code.region id l.toArray true).wp P Q a w :=
  wp_region_rel hm (by rw [Bool.and_eq_true] at hb; exact hb.1) (fun x => putAll x 0 l a) (fun i => match l[i]? with | some o => (match o.dst with | some t => a.tmps.getD t undef | none => undef) | none => undef)
    (putAll_same a _ l 0 (fun j o hj => by simp only [Nat.zero_add, hj])).symm S R hstab (fun i o x v ho => by have := putAll_put v l 0 i o x a (by rw [Bool.and_eq_true] at hb; exact hb.2) ho; rwa [Nat.zero_add] at this) hS0 hop hend

/-- from index k on each operation waits for all that stand ahead of it -/
def forced (k : Nat) : List Oper → Bool
  | [] => true
  | o :: t => (List.range k).all (fun j => o.after.toList.any fun e => e.on == j && Region.binds .any e) && forced (k + 1) t
theorem forced_get : ∀ (t : List Oper) (k : Nat), forced k t = true → ∀ (i : Nat) (o : Oper), t[i]? = some o → ∀ j, j < k + i → ∃ e ∈ o.after, e.on = j ∧ Region.binds .any e = true
  | [], _, _, i, o, h => by simp at h
  | o' :: t, k, hf, 0, o, h => by
    simp at h
    subst h
    intro j hj
    simp only [forced, Bool.and_eq_true, List.all_eq_true, List.mem_range] at hf
    have := hf.1 j (by omega)
    rw [List.any_eq_true] at this
    obtain ⟨e, he, h2⟩ := this
    simp only [Bool.and_eq_true, beq_iff_eq] at h2
    exact ⟨e, by simpa using he, h2.1, h2.2⟩
  | o' :: t, k, hf, i + 1, o, h => by
    intro j hj
    simp only [forced, Bool.and_eq_true] at hf
    exact forced_get t (k + 1) hf.2 i o (by simpa using h) j (by omega)
theorem ready_tail {ops : List Oper} {listed : Array Bool} {k : Nat} (hk : k < ops.length) (hsz : listed.size = ops.length) (hlo : ∀ j, j < k → listed.getD j true = true) (hhi : ∀ j, k ≤ j → j < ops.length → listed.getD j true = false)
    (hb : backward ops = true) (hf : ∀ i o, ops[i]? = some o → k ≤ i → ∀ j, j < i → ∃ e ∈ o.after, e.on = j ∧ Region.binds .any e = true) :
    ∀ i, i ∈ Region.ready .any ops.toArray listed ↔ i = k := by
  intro i
  rw [mem_ready]
  constructor
  · rintro ⟨h1, o, ho, hd⟩
    have ho' : ops[i]? = some o := by simpa using ho
    have hlt : i < ops.length := (List.getElem?_eq_some_iff.1 ho').1
    rcases Nat.lt_trichotomy i k with h | h | h
    · rw [hlo i h] at h1; cases h1
    · exact h
    · obtain ⟨e, he, hon, hbd⟩ := hf i o ho' (by omega) k h
      have := hd e he hbd
      rw [hon] at this
      have h3 := hhi k (Nat.le_refl _) hk
      have hin : k < listed.size := by omega
      simp only [Array.getD, hin, dif_pos] at this h3
      rw [h3] at this; cases this
  · rintro rfl
    refine ⟨hhi i (Nat.le_refl _) hk, ops[i], by simp [hk], fun e he _ => ?_⟩
    have := backward_get hb i ops[i] (by simp [hk]) e he
    have h3 := hlo e.on this
    have hin : e.on < listed.size := by omega
    simp only [Array.getD, hin, dif_pos] at h3 ⊢
    exact h3
theorem wpAny_tail {P : Program} {ops : List Oper} {Q : Exit → Act → World → Prop} (hb : backward ops = true) :
    ∀ (t : List Oper) (k : Nat) (fuel : Nat) (listed : Array Bool) (a : Act) (w : World), k + t.length = ops.length → (∀ i, t[i]? = ops[k + i]?) → t.length ≤ fuel → listed.size = ops.length → (∀ j, j < k → listed.getD j true = true) → (∀ j, k ≤ j → j < ops.length → listed.getD j true = false) →
      (∀ i o, ops[i]? = some o → k ≤ i → ∀ j, j < i → ∃ e ∈ o.after, e.on = j ∧ Region.binds .any e = true) → wpList P ops.toArray Q t a w → wpAny P .any ops.toArray Q fuel listed a w
  | [], k, fuel, listed, a, w, hkl, ht, hfu, hsz, hlo, hhi, hf, h => by
    have hr : Region.ready .any ops.toArray listed = [] := by
      apply List.eq_nil_iff_forall_not_mem.2
      intro i hi
      obtain ⟨h1, o, ho, _⟩ := mem_ready.1 hi
      have hlt : i < ops.length := by
        have := (Array.getElem?_eq_some_iff.1 ho).1
        simpa using this
      rw [hlo i (by simp at hkl; omega)] at h1
      cases h1
    exact wpAny_done hr h fuel
  | o :: t, k, 0, listed, a, w, hkl, ht, hfu, hsz, hlo, hhi, hf, h => by simp at hfu
  | o :: t, k, fuel + 1, listed, a, w, hkl, ht, hfu, hsz, hlo, hhi, hf, h => by
    have hk : k < ops.length := by simp at hkl; omega
    have hr := ready_tail hk hsz hlo hhi hb hf
    have hk0 : ops[k]? = some o := by have := ht 0; simpa using this.symm
    refine ⟨fun h0 => ?_, fun i hi => ?_⟩
    · have := (hr k).2 rfl
      rw [h0] at this
      cases this
    · obtain rfl := (hr i).1 hi
      have cont : ∀ a w, wpList P ops.toArray Q t a w → wpAny P .any ops.toArray Q fuel (listed.setIfInBounds i true) a w := fun a w h =>
        wpAny_tail hb t (i + 1) fuel _ a w (by simp at hkl; omega) (fun j => by have := ht (j + 1); simp at this; rw [this]; congr 1; omega) (by simp at hfu; omega) (by simpa using hsz)
          (fun j hj => by
            by_cases e : j = i
            · subst e
              have : j < listed.size := by omega
              simp [Array.getD, this]
            · rw [getD_set_ne true (Ne.symm e)]; exact hlo j (by omega))
          (fun j hj hl => by rw [getD_set_ne true (by omega)]; exact hhi j (by omega) hl)
          (fun i' o' ho' hk' => hf i' o' ho' (by omega)) h
      unfold wpOp
      have : ops.toArray[i]? = some o := by simpa using hk0
      rw [this]
      simp only
      unfold wpList at h
      split at h
      · rename_i hw
        rw [if_pos hw]
        rcases h with h | h
        · exact .inl (Oper.wp_mono cont h)
        · exact .inr h
      · rename_i hw
        rw [if_neg hw]
        exact cont _ _ h

/-- THE LAW, with a tail of operations that come last in every order: these are left to the plain walk -/
theorem wp_region_relT {P : Program} {id : Nat} (l t : List Oper) {ops : List Oper} (hops : ops = l ++ t) {Q : Exit → Act → World → Prop} {a : Act} {w : World} (hm : P.follows .mixedOrders = true) (hb : (backward ops && lone l && forced l.length t) = true)
    (S : World → Prop) (R : Nat → Value → World → Prop)
    (hstab : ∀ i v w w', R i v w → S w → S w' → Below w.heap.size w w' → R i v w')
    (hS0 : S w.drew) (hop : OpsOk P ops.toArray Q (fun x => putAll x 0 l a) S R 0 l)
    (hend : ∀ x w', S w' → AllRel R x w' 0 l.length → wpList P ops.toArray Q t (putAll x 0 l a) w') : (Code.region id ops.toArray true).wp P Q a w := by
  simp only [Bool.and_eq_true] at hb
  obtain ⟨⟨hb, hlone⟩, hforce⟩ := hb
  refine wp_region_any hm ?_
  have hlen : ops.length = l.length + t.length := by rw [hops, List.length_append]
  have hf : ∀ i o, ops[i]? = some o → l.length ≤ i → ∀ j, j < i → ∃ e ∈ o.after, e.on = j ∧ Region.binds .any e = true := by
    intro i o ho hi j hj
    rw [hops, List.getElem?_append_right hi] at ho
    exact forced_get t l.length hforce (i - l.length) o ho j (by omega)
  have main : ∀ (fuel : Nat) (listed : Array Bool) (x : Nat → Value) (w : World), listed.size = ops.length → cntN (fun j => listed.getD j true) l.length + t.length ≤ fuel → S w →
      (∀ j, l.length ≤ j → j < ops.length → listed.getD j true = false) →
      (∀ j, j < l.length → listed.getD j true = true → R j (x j) w) → wpAny P .any ops.toArray Q fuel listed (putAll x 0 l a) w := by
    intro fuel
    have fin : ∀ (fuel : Nat) (listed : Array Bool) (x : Nat → Value) (w : World), listed.size = ops.length → t.length ≤ fuel → S w → (∀ j, l.length ≤ j → j < ops.length → listed.getD j true = false) → (∀ j, j < l.length → listed.getD j true = true → R j (x j) w) →
        (∀ j, j < l.length → listed.getD j true = true) → wpAny P .any ops.toArray Q fuel listed (putAll x 0 l a) w := by
      intro fuel listed x w hsz hfu hS hhi hR all
      refine wpAny_tail hb t l.length fuel listed _ w (by omega) (fun i => ?_) hfu hsz all hhi hf (hend x w hS (AllRel.of _ 0 (fun j _ hj => hR j (by omega) (all j (by omega)))))
      rw [hops, List.getElem?_append_right (by omega)]
      congr 1; omega
    induction fuel with
    | zero =>
      intro listed x w hsz hc hS hhi hR
      exact fin 0 listed x w hsz (by omega) hS hhi hR (cntN_zero _ _ (by omega))
    | succ fuel ih =>
      intro listed x w hsz hc hS hhi hR
      by_cases hall : cntN (fun j => listed.getD j true) l.length = 0
      · exact fin _ listed x w hsz (by omega) hS hhi hR (cntN_zero _ _ hall)
      · -- some operation of l has not come up: the least of these is ready; no operation of the tail is
        have hex : ∃ k, k < l.length ∧ listed.getD k true = false ∧ ∀ j, j < k → listed.getD j true = true := by
          have : ∀ n, n ≤ l.length → cntN (fun j => listed.getD j true) n ≠ 0 → ∃ k, k < n ∧ listed.getD k true = false ∧ ∀ j, j < k → listed.getD j true = true := by
            intro n
            induction n with
            | zero => intro _ h; exact absurd rfl h
            | succ n ihn =>
              intro hn h
              by_cases h0 : cntN (fun j => listed.getD j true) n = 0
              · have hl := cntN_zero _ _ h0
                refine ⟨n, by omega, ?_, hl⟩
                rw [cntN, h0] at h
                cases hv : listed.getD n true with
                | false => rfl
                | true => rw [hv] at h; simp at h
              · obtain ⟨k, h1, h2⟩ := ihn (by omega) h0
                exact ⟨k, by omega, h2⟩
          exact this l.length (Nat.le_refl _) hall
        obtain ⟨k, hk, hkf, hkl⟩ := hex
        refine ⟨fun h0 => ?_, fun i hi => ?_⟩
        · exfalso
          have hko : k < ops.length := by omega
          have : k ∈ Region.ready .any ops.toArray listed := by
            refine mem_ready.2 ⟨hkf, ops[k], by simp [hko], fun e he _ => ?_⟩
            have hlt := backward_get hb k ops[k] (by simp [hko]) e he
            have h3 := hkl e.on hlt
            have hin : e.on < listed.size := by omega
            simp only [Array.getD, hin, dif_pos] at h3 ⊢
            exact h3
          rw [h0] at this
          cases this
        · obtain ⟨h1, o, ho, hdep⟩ := mem_ready.1 hi
          have ho' : ops[i]? = some o := by simpa using ho
          have hlt : i < ops.length := (List.getElem?_eq_some_iff.1 ho').1
          have hil : i < l.length := by
            rcases Nat.lt_or_ge i l.length with h | h
            · exact h
            · exfalso
              obtain ⟨e, he, hon, hbd⟩ := hf i o ho' h k (by omega)
              have := hdep e he hbd
              rw [hon] at this
              have hin : k < listed.size := by omega
              simp only [Array.getD, hin, dif_pos] at this hkf
              rw [hkf] at this; cases this
          have hol : l[i]? = some o := by rw [hops, List.getElem?_append_left hil] at ho'; exact ho'
          have hok := OpsOk.get l 0 hop i o hol
          rw [Nat.zero_add] at hok
          have deps : DepsOk R x w o.after.toList := by
            refine DepsOk.of _ (fun e he hb' => ?_)
            have hin := backward_get hb i o ho' e (by simpa using he)
            refine hR e.on (by omega) ?_
            have := hdep e (by simpa using he) hb'
            have hin2 : e.on < listed.size := by omega
            simp only [Array.getD, hin2, dif_pos] at this ⊢
            exact this
          have step := hok.ok x w hS deps (wpAny P .any ops.toArray Q fuel (listed.setIfInBounds i true)) (fun v w' hv hS' hle => by
            have hp := putAll_put v l 0 i o x a hlone hol
            rw [Nat.zero_add] at hp
            simp only [hp]
            refine ih _ (upd x i v) w' (by simpa using hsz) ?_ hS' ?_ ?_
            · have hset := cntN_set (fun j => listed.getD j true) (fun j => (listed.setIfInBounds i true).getD j true) i h1 (by
                have : i < listed.size := by omega
                simp [Array.getD, this]) (fun j hj => getD_set_ne true (Ne.symm hj)) l.length hil
              omega
            · intro j hj hjl
              rw [getD_set_ne true (by omega)]
              exact hhi j hj hjl
            · intro j hj hlj
              unfold upd
              by_cases e : j = i
              · rw [if_pos e]; subst e; exact hv
              · rw [if_neg e]
                rw [getD_set_ne true (Ne.symm e)] at hlj
                exact hstab j _ w w' (hR j hj hlj) hS hS' hle)
          unfold wpOp
          rw [ho]
          simp only
          split
          · rename_i hw
            rw [if_pos hw] at step
            exact .inl step
          · rename_i hw
            rw [if_neg hw] at step
            exact step
  have h0 := main ops.toArray.size (Array.replicate ops.toArray.size false) (fun i => match l[i]? with | some o => (match o.dst with | some t => a.tmps.getD t undef | none => undef) | none => undef) w.drew (by simp) ?_ hS0 (fun j h1 h2 => by simp [Array.getD, h2]) (fun j hj hl => ?_)
  · rw [putAll_same a _ l 0 (fun j o hj => by simp only [Nat.zero_add, hj])] at h0
    exact h0
  · have : ∀ n, cntN (fun j => (Array.replicate ops.toArray.size false).getD j true) n ≤ n := by
      intro n
      induction n with
      | zero => exact Nat.le_refl _
      | succ n ih => rw [cntN]; split <;> omega
    have := this l.length
    simp at this ⊢
    omega
  · exfalso
    have : j < ops.length := by omega
    simp [Array.getD, this] at hl

/-- an operation that runs by itself -/
theorem ok_run {P : Program} {ops : Array Oper} {Q : Exit → Act → World → Prop} {F : (Nat → Value) → Act} {S : World → Prop} {R : Nat → Value → World → Prop} {i : Nat} {o : Oper} (hg : o.guard = none)
    (h : ∀ x w, S w → DepsOk R x w o.after.toList → ∃ v w', (execOp (F x).eval o).run P w = .ok (.value v) w' ∧ R i v w' ∧ S w' ∧ Below w.heap.size w w') : OpOk P ops Q F S R i o := by
  refine ⟨?_⟩
  intro x w hS hd K hK
  obtain ⟨v, w', hrun, hR, hS', hle⟩ := h x w hS hd
  rw [if_pos (by simp [Region.wanted, hg])]
  unfold Oper.wp
  rw [hrun]
  exact hK v w' hR hS' hle
/-- a store -/
theorem ok_skip {P : Program} {ops : Array Oper} {Q : Exit → Act → World → Prop} {F : (Nat → Value) → Act} {S : World → Prop} {R : Nat → Value → World → Prop} {i : Nat} {o : Oper} (hg : o.guard = none)
    (h : ∀ x w, S w → DepsOk R x w o.after.toList → ∃ w', (execOp (F x).eval o).run P w = .ok .skip w' ∧ R i undef w' ∧ S w' ∧ Below w.heap.size w w') : OpOk P ops Q F S R i o := by
  refine ⟨?_⟩
  intro x w hS hd K hK
  obtain ⟨w', hrun, hR, hS', hle⟩ := h x w hS hd
  rw [if_pos (by simp [Region.wanted, hg])]
  unfold Oper.wp
  rw [hrun]
  exact hK undef w' hR hS' hle
/-- a call of a Go function -/
theorem ok_call {P : Program} {ops : Array Oper} {Q : Exit → Act → World → Prop} {F : (Nat → Value) → Act} {S : World → Prop} {R : Nat → Value → World → Prop} {i : Nat} {o : Oper} (hg : o.guard = none)
    (h : ∀ x w, S w → DepsOk R x w o.after.toList → ∃ f args, (execOp (F x).eval o).run P w = .ok (.enter f args) w ∧ Calls P f args w fun e w' => ∃ v, e = .returned v ∧ R i v w' ∧ S w' ∧ Below w.heap.size w w') : OpOk P ops Q F S R i o := by
  refine ⟨?_⟩
  intro x w hS hd K hK
  obtain ⟨f, args, hrun, hc⟩ := h x w hS hd
  rw [if_pos (by simp [Region.wanted, hg])]
  unfold Oper.wp
  rw [hrun]
  refine hc.mono ?_
  rintro e w' ⟨v, rfl, h1, h2, h3⟩
  exact hK v w' h1 h2 h3
end Go.Proofs.YtekmnhplhoejdaaDoor

/- Contracts: Check (packet) and Packet (plugref): the same error. -/
namespace Go.Proofs.YtekmnhplhoejdaaDoor
open Go.RowKit
set_option linter.unusedVariables false
set_option maxRecDepth 100000

def pktErr (k a e f : Int) (n : Nat) : Int :=
  if knownK k = false then 1
  else if tokK k = true ∧ ¬ (0 ≤ a ∧ a < 128 ∧ 0 ≤ e ∧ e < 16) then 1
  else if tokK k = false ∧ (a ≠ 0 ∨ e ≠ 0) then 1
  else if (k ≠ 5 ∧ f ≠ 0) ∨ f < 0 ∨ 2048 ≤ f ∨ (datK k = false ∧ n ≠ 0) then 1
  else if 64 < n then 2 else 0

/-- the five classes of kinds -/
inductive KCls (k : Int) : Prop
  | tok (h1 : tokK k = true) (h2 : datK k = false) (h3 : bareK k = false) (h4 : knownK k = true) (h5 : (k == 5) = false) (h6 : (k != 5) = true) (h7 : k ≠ 5)
  | dat (h1 : tokK k = false) (h2 : datK k = true) (h3 : bareK k = false) (h4 : knownK k = true) (h5 : (k == 5) = false) (h6 : (k != 5) = true) (h7 : k ≠ 5)
  | bare (h1 : tokK k = false) (h2 : datK k = false) (h3 : bareK k = true) (h4 : knownK k = true) (h5 : (k == 5) = false) (h6 : (k != 5) = true) (h7 : k ≠ 5)
  | sof (h1 : tokK k = false) (h2 : datK k = false) (h3 : bareK k = false) (h4 : knownK k = true) (h5 : (k == 5) = true) (h6 : (k != 5) = false) (h7 : k = 5)
  | other (h1 : tokK k = false) (h2 : datK k = false) (h3 : bareK k = false) (h4 : knownK k = false) (h5 : (k == 5) = false) (h6 : (k != 5) = true) (h7 : k ≠ 5)
theorem kcls (k : Int) : KCls k := by
  by_cases a1 : k = 1; · subst a1; exact .tok rfl rfl rfl rfl rfl rfl (by decide)
  by_cases a2 : k = 9; · subst a2; exact .tok rfl rfl rfl rfl rfl rfl (by decide)
  by_cases a3 : k = 13; · subst a3; exact .tok rfl rfl rfl rfl rfl rfl (by decide)
  by_cases a4 : k = 3; · subst a4; exact .dat rfl rfl rfl rfl rfl rfl (by decide)
  by_cases a5 : k = 11; · subst a5; exact .dat rfl rfl rfl rfl rfl rfl (by decide)
  by_cases a6 : k = 2; · subst a6; exact .bare rfl rfl rfl rfl rfl rfl (by decide)
  by_cases a7 : k = 10; · subst a7; exact .bare rfl rfl rfl rfl rfl rfl (by decide)
  by_cases a8 : k = 14; · subst a8; exact .bare rfl rfl rfl rfl rfl rfl (by decide)
  by_cases a9 : k = 5; · subst a9; exact .sof rfl rfl rfl rfl rfl rfl rfl
  exact .other (by simp [tokK, *]) (by simp [datK, *]) (by simp [bareK, *]) (by simp [knownK, tokK, datK, *]) (by simp [*]) (by simp [*]) a9


set_option maxHeartbeats 4000000 in
theorem checkP_any (k a e f : Int) (d : ByteArray) (hk : I64 k) (ha : I64 a) (he : I64 e) (hf : I64 f) (hd : d.size ≤ maxLen) (w : World) :
    Calls Tryd.prog 97 #[.agg #[.int .i64 k, .int .i64 a, .int .i64 e, .int .i64 f, .string d]] w fun r w' => r = .returned (.int .i64 (pktErr k a e f d.size)) ∧ Below w.heap.size w w' := by
  have HT := token_any k
  have HD := data_any k
  have HB := known_any k
  unfold maxLen at hd
  unfold I64 at hk ha he hf
  rcases kcls k with ⟨h1, h2, h3, h4, h5, h6, h7⟩ | ⟨h1, h2, h3, h4, h5, h6, h7⟩ | ⟨h1, h2, h3, h4, h5, h6, h7⟩ | ⟨h1, h2, h3, h4, h5, h6, h7⟩ | ⟨h1, h2, h3, h4, h5, h6, h7⟩
  all_goals
    rw [h1] at HT
    rw [h2] at HD
    rw [h4] at HB
    have GT := Lib.hid HT
    have GD := Lib.hid HD
    have GB := Lib.hid HB
    have H1 := Lib.hid h1
    have H2 := Lib.hid h2
    have H4 := Lib.hid h4
    have H7 := Lib.hid h7
    clear HT HD HB h1 h2 h3 h4 h7
    go_enter Tryd.func97, Tryd.ntmps97
    go_wp2_with (first | (go_at_call 98; with_reducible refine (GT.out _).mono ?_; rintro r w' ⟨rfl, rfl⟩) | (go_at_call 100; with_reducible refine (GD.out _).mono ?_; rintro r w' ⟨rfl, rfl⟩) | (go_at_call 128; with_reducible refine (GB.out _).mono ?_; rintro r w' ⟨rfl, rfl⟩))
    all_goals go_ret
    all_goals refine ⟨ret_i ?_, (Below.refl _ _).alloc (Nat.le_refl _) _⟩
    all_goals
      clear GT GD GB
      have K7 := H7.out
      unfold pktErr
      simp only [H1.out, H2.out, H4.out, Bool.true_eq_false, Bool.false_eq_true, if_false, if_true, true_and, false_and, and_false, or_false, false_or, not_true_eq_false, not_false_eq_true, and_true, ne_eq]
      all_goals clear H1 H2 H4 H7 h5 h6
      all_goals (try simp only [bne_iff_ne, ne_eq, bne_eq_false_iff_eq, beq_iff_eq, beq_eq_false_iff_ne, Bool.not_eq_true', Bool.not_eq_false', toList_isEmpty, toList_nil, decide_eq_true_eq, decide_eq_false_iff_not] at *)
      all_goals ((repeat' split) <;> omega)
end Go.Proofs.YtekmnhplhoejdaaDoor

/- Contracts: word, sealed, Write (packet), PacketText (plugref). -/
namespace Go.Proofs.YtekmnhplhoejdaaDoor
open Go.RowKit
set_option linter.unusedVariables false
set_option maxRecDepth 100000

theorem word_any (n : Nat) (h : n < 65536) (w : World) : Calls Tryd.prog 101 #[.int .u16 n] w fun e w' => e = .returned (.string ⟨(twoL n).toArray⟩) ∧ Below w.heap.size w w' := by
  have hc := conv2 (P := Tryd.prog) Tryd.underlying83 Tryd.underlying5 Tryd.underlying9
  go_enter Tryd.func101, Tryd.ntmps101
  go_wp2
  go_ret
  exact ⟨ret_s (nums_eq (nums2 (by omega) (by omega))), (Below.refl _ _).alloc (Nat.le_refl _) _⟩
theorem sealed_any (n : Nat) (h : n < 2048) (w : World) : Calls Tryd.prog 99 #[.int .u16 n] w fun e w' => e = .returned (.string ⟨(twoL (n + 2048 * fiveC n)).toArray⟩) ∧ Below w.heap.size w w' := by
  have h5 := fiveP_any n (by omega)
  have hlt : fiveC n < 32 := by
    unfold fiveC
    rw [if_neg (by omega)]
    exact Nat.xor_lt_two_pow (n := 5) (feedN_lt (m := 5) (by decide) (by decide) 11) (by decide)
  generalize hx : fiveC n = x at *
  have hor := u16_or_nat n (x * 2048) (by omega) (by omega)
  rw [or_add n x 11 h] at hor
  have hw := word_any (n + x * 2048) (by omega)
  have H5 := Lib.hid h5
  have HW := Lib.hid hw
  have e : (((n + x * 2048 : Nat)) : Int) = (n : Int) + x * 2048 := by omega
  have hor2 : Go.bits .or .u16 (n : Int) ((x : Int) * 2048) = ((n + x * 2048 : Nat) : Int) := by simpa using hor
  clear h5 hw hor e hx
  go_enter Tryd.func99, Tryd.ntmps99
  go_wp2_with fail
  refine (H5.out _).mono ?_
  rintro e w1 ⟨rfl, rfl⟩
  go_wp2_with fail
  refine (HW.out _).mono ?_
  rintro e w2 ⟨rfl, hb⟩
  go_wp2_with fail
  go_ret
  exact ⟨ret_s (by rw [Nat.mul_comm 2048 x]), hb⟩
-- FROM HERE BY rel_packet.py
def headL (k : Nat) : List UInt8 := [UInt8.ofNat (16 * (15 - k) + k)]
def sealL (n : Nat) : List UInt8 := twoL (n + 2048 * fiveC n)
def dataL (l : List UInt8) : List UInt8 := twoL (65535 - moreC 65535 l)
theorem head_bits (k : Nat) (hk : k < 16) : Go.bits .or .i64 (k : Int) (Go.bits .xor .i64 (k : Int) 15 * 16) = ((16 * (15 - k) + k : Nat) : Int) := by
  have e1 : Go.bits .xor .i64 (k : Int) 15 = ((15 - k : Nat) : Int) := by
    have := i64_xor_nat k 15 (by omega) (by decide)
    have e : k ^^^ 15 = 15 - k := by
      have : ∀ q : Fin 16, q.val ^^^ 15 = 15 - q.val := by decide
      exact this ⟨k, hk⟩
    rw [e] at this
    simpa using this
  rw [e1]
  have := i64_or_nat k ((15 - k) * 16) (by omega) (by omega)
  rw [or_add k (15 - k) 4 (by omega)] at this
  have e2 : k + (15 - k) * 2 ^ 4 = 16 * (15 - k) + k := by omega
  rw [e2] at this
  simpa using this
theorem head_nums (k : Nat) (hk : k < 16) (x : Int) (hx : x = ((16 * (15 - k) + k : Nat) : Int)) : strOfNums [x] = ⟨(headL k).toArray⟩ := by
  subst hx
  rfl
theorem headE (k : Nat) (hk : k < 16) : strOfNums [16 * (((15 - k : Nat)) : Int) + k] = ⟨(headL k).toArray⟩ := head_nums k hk _ (by omega)
theorem headSize (k : Nat) : (strOfNums [16 * (((15 - k : Nat)) : Int) + k]).size = 1 := by rw [strOfNums_size]; rfl
theorem sealSize (n : Nat) : (sealL n).length ≤ 2 := Nat.le_refl _
theorem dataSize (l : List UInt8) : (dataL l).length ≤ 2 := Nat.le_refl _
theorem string_list (d : ByteArray) : d = ⟨d.data.toList.toArray⟩ := rfl

set_option maxHeartbeats 300000 in
theorem writeP_bare (k  : Nat) (d : ByteArray) (hk16 : k < 16) (hcls : tokK k = false ∧ datK k = false ∧ ((k : Int) == 5) = false)  (hE : pktErr k 0 0 0 d.size = 0) (hd : d.size ≤ 64) (w : World) :
    Calls Tryd.prog 63 #[.agg #[.int .i64 k, .int .i64 0, .int .i64 0, .int .i64 0, .string d]] w fun r w' => r = .returned (.tuple #[.string ⟨(headL k).toArray⟩, .int .i64 0]) ∧ Below w.heap.size w w' := by
  have hck := checkP_any k 0 0 0 d (by unfold I64; omega) (by unfold I64; omega) (by unfold I64; omega) (by unfold I64; omega) (by unfold maxLen; omega)
  rw [hE] at hck
  have HK := Lib.hid hck
  have HH := Lib.hid (head_bits k hk16)
  have hcv := conv1 (P := Tryd.prog) Tryd.underlying83 Tryd.underlying5 Tryd.underlying9
  have htk := token_any (k : Int)
  have hdt := data_any (k : Int)
  obtain ⟨hc1, hc2, hc3⟩ := hcls
  rw [hc1] at htk
  rw [hc2] at hdt
  have HT := Lib.hid htk
  have HD := Lib.hid hdt
  clear hck htk hdt hE hc1 hc2
  have hxk : Go.bits .xor .i64 (k : Int) 15 = ((15 - k : Nat) : Int) := by
    have := i64_xor_nat k 15 (by omega) (by decide)
    have e : k ^^^ 15 = 15 - k := by
      have : ∀ q : Fin 16, q.val ^^^ 15 = 15 - q.val := by decide
      exact this ⟨k, hk16⟩
    rw [e] at this
    simpa using this
  have hor : Go.bits .or .i64 (k : Int) (((15 - k : Nat) : Int) * 16) = ((16 * (15 - k) + k : Nat) : Int) := by
    rw [← hxk]; exact HH.out

  go_enter Tryd.func63, Tryd.ntmps63
  go_wp2_with fail
  refine (HK.out _).mono ?_
  rintro r w1 ⟨rfl, hb1⟩
  have hz1 : w.heap.size < w1.heap.size := by have := hb1.size; simp at this; omega
  have c0 : w1.cell? ⟨w.heap.size, 0, none⟩ = some (.int .i64 k) := (hb1.cell (by simp)).trans (by simp)
  have c1 : w1.cell? ⟨w.heap.size, 1, none⟩ = some (.int .i64 0) := (hb1.cell (by simp)).trans (by simp)
  have c2 : w1.cell? ⟨w.heap.size, 2, none⟩ = some (.int .i64 0) := (hb1.cell (by simp)).trans (by simp)
  have c3 : w1.cell? ⟨w.heap.size, 3, none⟩ = some (.int .i64 0) := (hb1.cell (by simp)).trans (by simp)
  have c4 : w1.cell? ⟨w.heap.size, 4, none⟩ = some (.string d) := (hb1.cell (by simp)).trans (by simp)
  have B1 : Below w.heap.size w w1 := ((Below.refl _ _).alloc (Nat.le_refl _) _).trans (hb1.mono (by simp))
  clear hb1
  go_wp2_with (first | (go_at_call 98; with_reducible refine (HT.out _).mono ?_; rintro r w2 ⟨rfl, rfl⟩) | (go_at_call 100; with_reducible refine (HD.out _).mono ?_; rintro r w2 ⟨rfl, rfl⟩))
  go_ret2
  exact ⟨ret_si (headE k hk16) rfl, B1.alloc B1.size _⟩

set_option maxHeartbeats 300000 in
theorem writeP_tok (k a e : Nat) (d : ByteArray) (hk16 : k < 16) (hcls : tokK k = true ∧ datK k = false ∧ ((k : Int) == 5) = false) (ha : a < 128) (he : e < 16) (hE : pktErr k a e 0 d.size = 0) (hd : d.size ≤ 64) (w : World) :
    Calls Tryd.prog 63 #[.agg #[.int .i64 k, .int .i64 a, .int .i64 e, .int .i64 0, .string d]] w fun r w' => r = .returned (.tuple #[.string ⟨(headL k ++ sealL (a + e * 128)).toArray⟩, .int .i64 0]) ∧ Below w.heap.size w w' := by
  have hck := checkP_any k a e 0 d (by unfold I64; omega) (by unfold I64; omega) (by unfold I64; omega) (by unfold I64; omega) (by unfold maxLen; omega)
  rw [hE] at hck
  have HK := Lib.hid hck
  have HH := Lib.hid (head_bits k hk16)
  have hcv := conv1 (P := Tryd.prog) Tryd.underlying83 Tryd.underlying5 Tryd.underlying9
  have htk := token_any (k : Int)
  have hdt := data_any (k : Int)
  obtain ⟨hc1, hc2, hc3⟩ := hcls
  rw [hc1] at htk
  rw [hc2] at hdt
  have HT := Lib.hid htk
  have HD := Lib.hid hdt
  clear hck htk hdt hE hc1 hc2
  have hxk : Go.bits .xor .i64 (k : Int) 15 = ((15 - k : Nat) : Int) := by
    have := i64_xor_nat k 15 (by omega) (by decide)
    have e : k ^^^ 15 = 15 - k := by
      have : ∀ q : Fin 16, q.val ^^^ 15 = 15 - q.val := by decide
      exact this ⟨k, hk16⟩
    rw [e] at this
    simpa using this
  have hor : Go.bits .or .i64 (k : Int) (((15 - k : Nat) : Int) * 16) = ((16 * (15 - k) + k : Nat) : Int) := by
    rw [← hxk]; exact HH.out
  have hor2 : Go.bits .or .i64 (a : Int) ((e : Int) * 128) = ((a + e * 128 : Nat) : Int) := by
    have := i64_or_nat a (e * 128) (by omega) (by omega)
    rw [or_add a e 7 ha] at this
    simpa using this
  have HS : Hid (∀ w, Calls Tryd.prog 99 #[.int .u16 (a + e * 128 : Nat)] w fun r w' => r = .returned (.string ⟨(sealL (a + e * 128)).toArray⟩) ∧ Below w.heap.size w w') := sealed_any (a + e * 128) (by omega)
  have hw16 : ((a + e * 128 : Nat) : Int) = (a : Int) + e * 128 := by omega
  rw [hw16] at hor2 HS
  clear hw16
  go_enter Tryd.func63, Tryd.ntmps63
  go_wp2_with fail
  refine (HK.out _).mono ?_
  rintro r w1 ⟨rfl, hb1⟩
  have hz1 : w.heap.size < w1.heap.size := by have := hb1.size; simp at this; omega
  have c0 : w1.cell? ⟨w.heap.size, 0, none⟩ = some (.int .i64 k) := (hb1.cell (by simp)).trans (by simp)
  have c1 : w1.cell? ⟨w.heap.size, 1, none⟩ = some (.int .i64 a) := (hb1.cell (by simp)).trans (by simp)
  have c2 : w1.cell? ⟨w.heap.size, 2, none⟩ = some (.int .i64 e) := (hb1.cell (by simp)).trans (by simp)
  have c3 : w1.cell? ⟨w.heap.size, 3, none⟩ = some (.int .i64 0) := (hb1.cell (by simp)).trans (by simp)
  have c4 : w1.cell? ⟨w.heap.size, 4, none⟩ = some (.string d) := (hb1.cell (by simp)).trans (by simp)
  have B1 : Below w.heap.size w w1 := ((Below.refl _ _).alloc (Nat.le_refl _) _).trans (hb1.mono (by simp))
  clear hb1
  go_wp2_with (first | (go_at_call 98; with_reducible refine (HT.out _).mono ?_; rintro r w2 ⟨rfl, rfl⟩) | (go_at_call 100; with_reducible refine (HD.out _).mono ?_; rintro r w2 ⟨rfl, rfl⟩))
  refine (HS.out _).mono ?_
  rintro r w3 ⟨rfl, hb3⟩
  have hz := sealSize (a + e * 128)
  have hz2 := headSize k
  go_wp2_with fail
  go_ret2
  refine ⟨ret_si ?_ rfl, Below.trans (B1.alloc B1.size _) (hb3.mono (by have := B1.size; simp; omega))⟩
  rw [headE k hk16]
  exact str_append _ _

set_option maxHeartbeats 300000 in
theorem writeP_sof (k f : Nat) (d : ByteArray) (hk16 : k < 16) (hcls : tokK k = false ∧ datK k = false ∧ ((k : Int) == 5) = true) (hf : f < 2048) (hE : pktErr k 0 0 f d.size = 0) (hd : d.size ≤ 64) (w : World) :
    Calls Tryd.prog 63 #[.agg #[.int .i64 k, .int .i64 0, .int .i64 0, .int .i64 f, .string d]] w fun r w' => r = .returned (.tuple #[.string ⟨(headL k ++ sealL f).toArray⟩, .int .i64 0]) ∧ Below w.heap.size w w' := by
  have hck := checkP_any k 0 0 f d (by unfold I64; omega) (by unfold I64; omega) (by unfold I64; omega) (by unfold I64; omega) (by unfold maxLen; omega)
  rw [hE] at hck
  have HK := Lib.hid hck
  have HH := Lib.hid (head_bits k hk16)
  have hcv := conv1 (P := Tryd.prog) Tryd.underlying83 Tryd.underlying5 Tryd.underlying9
  have htk := token_any (k : Int)
  have hdt := data_any (k : Int)
  obtain ⟨hc1, hc2, hc3⟩ := hcls
  rw [hc1] at htk
  rw [hc2] at hdt
  have HT := Lib.hid htk
  have HD := Lib.hid hdt
  clear hck htk hdt hE hc1 hc2
  have hxk : Go.bits .xor .i64 (k : Int) 15 = ((15 - k : Nat) : Int) := by
    have := i64_xor_nat k 15 (by omega) (by decide)
    have e : k ^^^ 15 = 15 - k := by
      have : ∀ q : Fin 16, q.val ^^^ 15 = 15 - q.val := by decide
      exact this ⟨k, hk16⟩
    rw [e] at this
    simpa using this
  have hor : Go.bits .or .i64 (k : Int) (((15 - k : Nat) : Int) * 16) = ((16 * (15 - k) + k : Nat) : Int) := by
    rw [← hxk]; exact HH.out
  have HS : Hid (∀ w, Calls Tryd.prog 99 #[.int .u16 f] w fun r w' => r = .returned (.string ⟨(sealL f).toArray⟩) ∧ Below w.heap.size w w') := sealed_any f hf
  go_enter Tryd.func63, Tryd.ntmps63
  go_wp2_with fail
  refine (HK.out _).mono ?_
  rintro r w1 ⟨rfl, hb1⟩
  have hz1 : w.heap.size < w1.heap.size := by have := hb1.size; simp at this; omega
  have c0 : w1.cell? ⟨w.heap.size, 0, none⟩ = some (.int .i64 k) := (hb1.cell (by simp)).trans (by simp)
  have c1 : w1.cell? ⟨w.heap.size, 1, none⟩ = some (.int .i64 0) := (hb1.cell (by simp)).trans (by simp)
  have c2 : w1.cell? ⟨w.heap.size, 2, none⟩ = some (.int .i64 0) := (hb1.cell (by simp)).trans (by simp)
  have c3 : w1.cell? ⟨w.heap.size, 3, none⟩ = some (.int .i64 f) := (hb1.cell (by simp)).trans (by simp)
  have c4 : w1.cell? ⟨w.heap.size, 4, none⟩ = some (.string d) := (hb1.cell (by simp)).trans (by simp)
  have B1 : Below w.heap.size w w1 := ((Below.refl _ _).alloc (Nat.le_refl _) _).trans (hb1.mono (by simp))
  clear hb1
  go_wp2_with (first | (go_at_call 98; with_reducible refine (HT.out _).mono ?_; rintro r w2 ⟨rfl, rfl⟩) | (go_at_call 100; with_reducible refine (HD.out _).mono ?_; rintro r w2 ⟨rfl, rfl⟩))
  refine (HS.out _).mono ?_
  rintro r w3 ⟨rfl, hb3⟩
  have hz := sealSize (f)
  have hz2 := headSize k
  go_wp2_with fail
  go_ret2
  refine ⟨ret_si ?_ rfl, Below.trans (B1.alloc B1.size _) (hb3.mono (by have := B1.size; simp; omega))⟩
  rw [headE k hk16]
  exact str_append _ _

set_option maxHeartbeats 300000 in
theorem writeP_dat (k  : Nat) (d : ByteArray) (hk16 : k < 16) (hcls : tokK k = false ∧ datK k = true ∧ ((k : Int) == 5) = false)  (hE : pktErr k 0 0 0 d.size = 0) (hd : d.size ≤ 64) (w : World) :
    Calls Tryd.prog 63 #[.agg #[.int .i64 k, .int .i64 0, .int .i64 0, .int .i64 0, .string d]] w fun r w' => r = .returned (.tuple #[.string ⟨(headL k ++ d.data.toList ++ dataL d.data.toList).toArray⟩, .int .i64 0]) ∧ Below w.heap.size w w' := by
  have hck := checkP_any k 0 0 0 d (by unfold I64; omega) (by unfold I64; omega) (by unfold I64; omega) (by unfold I64; omega) (by unfold maxLen; omega)
  rw [hE] at hck
  have HK := Lib.hid hck
  have HH := Lib.hid (head_bits k hk16)
  have hcv := conv1 (P := Tryd.prog) Tryd.underlying83 Tryd.underlying5 Tryd.underlying9
  have htk := token_any (k : Int)
  have hdt := data_any (k : Int)
  obtain ⟨hc1, hc2, hc3⟩ := hcls
  rw [hc1] at htk
  rw [hc2] at hdt
  have HT := Lib.hid htk
  have HD := Lib.hid hdt
  clear hck htk hdt hE hc1 hc2
  have hxk : Go.bits .xor .i64 (k : Int) 15 = ((15 - k : Nat) : Int) := by
    have := i64_xor_nat k 15 (by omega) (by decide)
    have e : k ^^^ 15 = 15 - k := by
      have : ∀ q : Fin 16, q.val ^^^ 15 = 15 - q.val := by decide
      exact this ⟨k, hk16⟩
    rw [e] at this
    simpa using this
  have hor : Go.bits .or .i64 (k : Int) (((15 - k : Nat) : Int) * 16) = ((16 * (15 - k) + k : Nat) : Int) := by
    rw [← hxk]; exact HH.out
  have HX := Lib.hid (sixteen_any d (by unfold maxLen; omega))
  have HY : Hid (∀ w, Calls Tryd.prog 101 #[.int .u16 (65535 - moreC 65535 d.data.toList : Nat)] w fun r w' => r = .returned (.string ⟨(dataL d.data.toList).toArray⟩) ∧ Below w.heap.size w w') := word_any _ (by omega)
  go_enter Tryd.func63, Tryd.ntmps63
  go_wp2_with fail
  refine (HK.out _).mono ?_
  rintro r w1 ⟨rfl, hb1⟩
  have hz1 : w.heap.size < w1.heap.size := by have := hb1.size; simp at this; omega
  have c0 : w1.cell? ⟨w.heap.size, 0, none⟩ = some (.int .i64 k) := (hb1.cell (by simp)).trans (by simp)
  have c1 : w1.cell? ⟨w.heap.size, 1, none⟩ = some (.int .i64 0) := (hb1.cell (by simp)).trans (by simp)
  have c2 : w1.cell? ⟨w.heap.size, 2, none⟩ = some (.int .i64 0) := (hb1.cell (by simp)).trans (by simp)
  have c3 : w1.cell? ⟨w.heap.size, 3, none⟩ = some (.int .i64 0) := (hb1.cell (by simp)).trans (by simp)
  have c4 : w1.cell? ⟨w.heap.size, 4, none⟩ = some (.string d) := (hb1.cell (by simp)).trans (by simp)
  have B1 : Below w.heap.size w w1 := ((Below.refl _ _).alloc (Nat.le_refl _) _).trans (hb1.mono (by simp))
  clear hb1
  go_wp2_with (first | (go_at_call 98; with_reducible refine (HT.out _).mono ?_; rintro r w2 ⟨rfl, rfl⟩) | (go_at_call 100; with_reducible refine (HD.out _).mono ?_; rintro r w2 ⟨rfl, rfl⟩))
  have hs1 := headSize k
  have hs2 := dataSize d.data.toList
  have q1 : ¬ 9223372036854775807 < 1 + d.size := by omega
  have q2 : ¬ 9223372036854775807 < 1 + d.size + (dataL d.data.toList).length := by omega
  have hcells : Hid (∀ w', Below (w1.heap.size + 1) (w1.alloc (.cells #[.int .u8 (16 * ((15 - k : Nat) : Int) + k)] 5)) w' → w'.cell? ⟨w.heap.size, 4, none⟩ = some (.string d)) :=
    fun w' h => (h.cell (by show w.heap.size < w1.heap.size + 1; omega)).trans ((((Below.refl w1.heap.size w1).alloc (Nat.le_refl _) _).cell hz1).trans c4)
  have hz0 : w1.heap.size + 1 ≤ (w1.alloc (.cells #[.int .u8 (16 * ((15 - k : Nat) : Int) + k)] 5)).heap.size := by simp
  refine wp_region_relF (by kernel_rfl) (by rfl) (fun w' => Below (w1.heap.size + 1) (w1.alloc (.cells #[.int .u8 (16 * ((15 - k : Nat) : Int) + k)] 5)) w')
    (fun i v w' => match i with
      | 0 => v = .string (strOfNums [16 * ((15 - k : Nat) : Int) + k])
      | 1 => v = .pointer (some ⟨w.heap.size, 4, none⟩)
      | 2 => v = .string d
      | 3 => v = .string (strOfNums [16 * ((15 - k : Nat) : Int) + k] ++ d)
      | 4 => v = .pointer (some ⟨w.heap.size, 4, none⟩)
      | 5 => v = .string d
      | 6 => v = .int .u16 (65535 - moreC 65535 d.data.toList : Nat)
      | 7 => v = .string ⟨(dataL d.data.toList).toArray⟩
      | 8 => v = .string (strOfNums [16 * ((15 - k : Nat) : Int) + k] ++ d ++ ⟨(dataL d.data.toList).toArray⟩)
      | 9 => v = .string (strOfNums [16 * ((15 - k : Nat) : Int) + k] ++ d ++ ⟨(dataL d.data.toList).toArray⟩)
      | 10 => v = .int .i64 0
      | _ => True) ?_ ?_ ?_ ?_
  · intro i v wq w2 h hS hS' hle
    match i, h with
    | 0, h => exact h
    | 1, h => exact h
    | 2, h => exact h
    | 3, h => exact h
    | 4, h => exact h
    | 5, h => exact h
    | 6, h => exact h
    | 7, h => exact h
    | 8, h => exact h
    | 9, h => exact h
    | 10, h => exact h
    | n + 11, h => trivial
  · exact (Below.refl _ _).drew
  · refine ⟨?_, ?_, ?_, ?_, ?_, ?_, ?_, ?_, ?_, ?_, ?_, trivial⟩
    · refine ok_run rfl (fun x wq hS hd => ⟨.string (strOfNums [16 * ((15 - k : Nat) : Int) + k]), wq, ?_, rfl, hS, Below.refl _ _⟩)
      simp [putAll, Act.put, go_sem]
    · refine ok_run rfl (fun x wq hS hd => ⟨.pointer (some ⟨w.heap.size, 4, none⟩), wq, ?_, rfl, hS, Below.refl _ _⟩)
      simp [putAll, Act.put, go_sem]
    · refine ok_run rfl (fun x wq hS hd => ⟨.string d, wq, ?_, rfl, hS, Below.refl _ _⟩)
      have d1 : (x 1) = .pointer (some ⟨w.heap.size, 4, none⟩) := hd.1 rfl
      have x4 := hcells.out _ hS
      simp [putAll, Act.put, go_sem, d1, x4]
    · refine ok_run rfl (fun x wq hS hd => ⟨.string (strOfNums [16 * ((15 - k : Nat) : Int) + k] ++ d), wq, ?_, rfl, hS, Below.refl _ _⟩)
      have d0 : (x 0) = .string (strOfNums [16 * ((15 - k : Nat) : Int) + k]) := hd.1 rfl
      have d2 : (x 2) = .string d := hd.2.1 rfl
      simp [putAll, Act.put, go_sem, d0, d2, q1, q2, hs1, hs2]
    · refine ok_run rfl (fun x wq hS hd => ⟨.pointer (some ⟨w.heap.size, 4, none⟩), wq, ?_, rfl, hS, Below.refl _ _⟩)
      simp [putAll, Act.put, go_sem]
    · refine ok_run rfl (fun x wq hS hd => ⟨.string d, wq, ?_, rfl, hS, Below.refl _ _⟩)
      have d4 : (x 4) = .pointer (some ⟨w.heap.size, 4, none⟩) := hd.1 rfl
      have x4 := hcells.out _ hS
      simp [putAll, Act.put, go_sem, d4, x4]
    · refine ok_call rfl (fun x wq hS hd => ⟨102, #[.string d], ?_, (HX.out wq).mono ?_⟩)
      · have d5 : (x 5) = .string d := hd.1 rfl
        simp [putAll, Act.put, go_sem, d5]
      · rintro e w2 ⟨rfl, rfl⟩
        exact ⟨_, rfl, rfl, hS, Below.refl _ _⟩
    · refine ok_call rfl (fun x wq hS hd => ⟨101, #[.int .u16 (65535 - moreC 65535 d.data.toList : Nat)], ?_, (HY.out wq).mono ?_⟩)
      · have d6 : (x 6) = .int .u16 (65535 - moreC 65535 d.data.toList : Nat) := hd.1 rfl
        simp [putAll, Act.put, go_sem, d6]
      · rintro e w2 ⟨rfl, hb⟩
        exact ⟨_, rfl, rfl, hS.trans (hb.mono (Nat.le_trans hz0 hS.size)), hb⟩
    · refine ok_run rfl (fun x wq hS hd => ⟨.string (strOfNums [16 * ((15 - k : Nat) : Int) + k] ++ d ++ ⟨(dataL d.data.toList).toArray⟩), wq, ?_, rfl, hS, Below.refl _ _⟩)
      have d3 : (x 3) = .string (strOfNums [16 * ((15 - k : Nat) : Int) + k] ++ d) := hd.1 rfl
      have d7 : (x 7) = .string ⟨(dataL d.data.toList).toArray⟩ := hd.2.1 rfl
      simp [putAll, Act.put, go_sem, d3, d7, q1, q2, hs1, hs2]
    · refine ok_run rfl (fun x wq hS hd => ⟨.string (strOfNums [16 * ((15 - k : Nat) : Int) + k] ++ d ++ ⟨(dataL d.data.toList).toArray⟩), wq, ?_, rfl, hS, Below.refl _ _⟩)
      have d8 : (x 8) = .string (strOfNums [16 * ((15 - k : Nat) : Int) + k] ++ d ++ ⟨(dataL d.data.toList).toArray⟩) := hd.1 rfl
      have d7 : (x 7) = .string ⟨(dataL d.data.toList).toArray⟩ := hd.2.1 rfl
      have d0 : (x 0) = .string (strOfNums [16 * ((15 - k : Nat) : Int) + k]) := hd.2.2.1 rfl
      have d1 : (x 1) = .pointer (some ⟨w.heap.size, 4, none⟩) := hd.2.2.2.1 rfl
      have d2 : (x 2) = .string d := hd.2.2.2.2.1 rfl
      have d3 : (x 3) = .string (strOfNums [16 * ((15 - k : Nat) : Int) + k] ++ d) := hd.2.2.2.2.2.1 rfl
      have d4 : (x 4) = .pointer (some ⟨w.heap.size, 4, none⟩) := hd.2.2.2.2.2.2.1 rfl
      have d5 : (x 5) = .string d := hd.2.2.2.2.2.2.2.1 rfl
      have d6 : (x 6) = .int .u16 (65535 - moreC 65535 d.data.toList : Nat) := hd.2.2.2.2.2.2.2.2.1 rfl
      simp [putAll, Act.put, go_sem, d0, d1, d2, d3, d4, d5, d6, d7, d8]
    · refine ok_run rfl (fun x wq hS hd => ⟨.int .i64 0, wq, ?_, rfl, hS, Below.refl _ _⟩)
      have d9 : (x 9) = .string (strOfNums [16 * ((15 - k : Nat) : Int) + k] ++ d ++ ⟨(dataL d.data.toList).toArray⟩) := hd.1 rfl
      have d0 : (x 0) = .string (strOfNums [16 * ((15 - k : Nat) : Int) + k]) := hd.2.1 rfl
      have d1 : (x 1) = .pointer (some ⟨w.heap.size, 4, none⟩) := hd.2.2.1 rfl
      have d2 : (x 2) = .string d := hd.2.2.2.1 rfl
      have d3 : (x 3) = .string (strOfNums [16 * ((15 - k : Nat) : Int) + k] ++ d) := hd.2.2.2.2.1 rfl
      have d4 : (x 4) = .pointer (some ⟨w.heap.size, 4, none⟩) := hd.2.2.2.2.2.1 rfl
      have d5 : (x 5) = .string d := hd.2.2.2.2.2.2.1 rfl
      have d6 : (x 6) = .int .u16 (65535 - moreC 65535 d.data.toList : Nat) := hd.2.2.2.2.2.2.2.1 rfl
      have d7 : (x 7) = .string ⟨(dataL d.data.toList).toArray⟩ := hd.2.2.2.2.2.2.2.2.1 rfl
      have d8 : (x 8) = .string (strOfNums [16 * ((15 - k : Nat) : Int) + k] ++ d ++ ⟨(dataL d.data.toList).toArray⟩) := hd.2.2.2.2.2.2.2.2.2.1 rfl
      simp [putAll, Act.put, go_sem, d0, d1, d2, d3, d4, d5, d6, d7, d8, d9]
  · intro x wq hS hall
    have q9 : (x 9) = .string (strOfNums [16 * ((15 - k : Nat) : Int) + k] ++ d ++ ⟨(dataL d.data.toList).toArray⟩) := hall.2.2.2.2.2.2.2.2.2.1
    have q10 : (x 10) = .int .i64 0 := hall.2.2.2.2.2.2.2.2.2.2.1
    clear hall
    simp only [putAll, Act.put, List.setIfInBounds_toArray, List.set_cons_succ, List.set_cons_zero, q9, q10]
    go_wp2_with fail
    go_ret2
    refine ⟨ret_si ?_ rfl, Below.trans (B1.alloc B1.size _) (hS.mono (by have := B1.size; omega))⟩
    rw [headE k hk16]
    have e1 : (⟨(headL k).toArray⟩ : ByteArray) ++ d = ⟨(headL k ++ d.data.toList).toArray⟩ := str_append (headL k) d.data.toList
    rw [e1]
    exact str_append _ _
end Go.Proofs.YtekmnhplhoejdaaDoor

/- Contract: PacketText (plugref). -/
namespace Go.Proofs.YtekmnhplhoejdaaDoor
open Go.RowKit
set_option linter.unusedVariables false
set_option maxRecDepth 100000
-- FROM HERE BY rel_packet4.py

set_option maxHeartbeats 300000 in
theorem textR_tok (k a e f : Nat) (d : ByteArray) (hk16 : k < 16) (hcls : tokK k = true ∧ datK k = false ∧ ((k : Int) == 5) = false) (ha : a < 128) (he : e < 16) (hn : a + 128 * e + f < 2048) (hd : d.size ≤ 64) (w : World) :
    Calls Tryd.prog 69 #[.agg #[.int .i64 k, .int .i64 a, .int .i64 e, .int .i64 f, .string d]] w fun r w' => r = .returned (.string ⟨(headL k ++ sealL (a + 128 * e + f)).toArray⟩) ∧ Below w.heap.size w w' := by
  have hcv := conv1 (P := Tryd.prog) Tryd.underlying83 Tryd.underlying5 Tryd.underlying9
  have hcv2 : ∀ (w : World) (o : Obj) (x0 : Int), (convert 83 9 (.slice (some ⟨w.heap.size + 1, 0, none⟩) 1 1)).run Tryd.prog ((w.alloc o).alloc (.cells #[.int .u8 x0] 5)) = .ok (.string (strOfNums [x0])) ((w.alloc o).alloc (.cells #[.int .u8 x0] 5)) := by
    intro w o x0
    have h := hcv (w.alloc o) x0
    rw [show (w.alloc o).heap.size = w.heap.size + 1 by simp] at h
    exact h
  clear hcv
  have htk := isTok_any k (by omega)
  have hdt := isDat_any k (by omega)
  obtain ⟨hc1, hc2, hc3⟩ := hcls
  rw [hc1] at htk
  rw [hc2] at hdt
  have HT := Lib.hid htk
  have HD := Lib.hid hdt
  have h5 := fiveR_any (a + 128 * e + f) (by omega)
  have hlt : fiveR (a + 128 * e + f) < 32 := by
    rw [← five_same]
    unfold fiveC
    rw [if_neg (by omega)]
    exact Nat.xor_lt_two_pow (n := 5) (feedN_lt (m := 5) (by decide) (by decide) 11) (by decide)
  have HF := Lib.hid (five_same (a + 128 * e + f))
  generalize hx : fiveR (a + 128 * e + f) = x at *
  have he2 : fiveE (a + 128 * e + f) = 0 := if_neg (by omega)
  rw [he2] at h5
  have hn1 : ((a + 128 * e + f : Nat) : Int) = (a : Int) + 128 * e + f := by omega
  rw [hn1] at h5
  have H5 := Lib.hid h5
  clear htk hdt hc1 hc2 h5 hx he2 hn1
  have HB := Lib.hid (twoBytes_any (a + 128 * e + f + 2048 * x) (by omega))
  have hn2 : ((a + 128 * e + f + 2048 * x : Nat) : Int) = (a : Int) + 128 * e + f + 2048 * x := by omega
  rw [hn2] at HB
  clear hn2
  have hs2 : (twoL (a + 128 * e + f + 2048 * x)).length ≤ 2 := Nat.le_refl _
  have hz := headSize k
  have hsum : (16 * (15 - (k : Int)) + k) = 16 * (((15 - k : Nat)) : Int) + k := by omega
  rw [← hsum] at hz
  have HSUM := Lib.hid hsum
  clear hsum
  go_enter Tryd.func69, Tryd.ntmps69
  go_wp2_with fail
  refine (H5.out _).mono ?_
  rintro r w1 ⟨rfl, hb1⟩
  have hz1 : w.heap.size < w1.heap.size := by have := hb1.size; simp at this; omega
  have c0 : w1.cell? ⟨w.heap.size, 0, none⟩ = some (.int .i64 k) := (hb1.cell (by simp; omega)).trans (by simp)
  have c4 : w1.cell? ⟨w.heap.size, 4, none⟩ = some (.string d) := (hb1.cell (by simp; omega)).trans (by simp)
  have B1 : Below w.heap.size w w1 := (((Below.refl _ _).alloc (Nat.le_refl _) _).alloc (by simp) _).trans (hb1.mono (by simp; omega))
  clear hb1
  go_wp2_with (first | (go_at_call 110; first | (with_reducible refine (HT.out _).mono ?_; rintro r w2 ⟨rfl, rfl⟩) | (with_reducible refine (HD.out _).mono ?_; rintro r w2 ⟨rfl, rfl⟩)))
  refine (HB.out _).mono ?_
  rintro r w2 ⟨rfl, hb2⟩
  go_wp2_with fail
  go_ret
  refine ⟨ret_s ?_, Below.trans B1 (hb2.mono B1.size)⟩
  rw [HSUM.out, headE k hk16]
  have e1 : twoL (a + 128 * e + f + 2048 * x) = sealL (a + 128 * e + f) := by unfold sealL; rw [HF.out]
  rw [e1]
  exact str_append _ _

set_option maxHeartbeats 300000 in
theorem textR_sof (k a e f : Nat) (d : ByteArray) (hk16 : k < 16) (hcls : tokK k = false ∧ datK k = false ∧ ((k : Int) == 5) = true) (ha : a < 128) (he : e < 16) (hn : a + 128 * e + f < 2048) (hd : d.size ≤ 64) (w : World) :
    Calls Tryd.prog 69 #[.agg #[.int .i64 k, .int .i64 a, .int .i64 e, .int .i64 f, .string d]] w fun r w' => r = .returned (.string ⟨(headL k ++ sealL (a + 128 * e + f)).toArray⟩) ∧ Below w.heap.size w w' := by
  have hcv := conv1 (P := Tryd.prog) Tryd.underlying83 Tryd.underlying5 Tryd.underlying9
  have hcv2 : ∀ (w : World) (o : Obj) (x0 : Int), (convert 83 9 (.slice (some ⟨w.heap.size + 1, 0, none⟩) 1 1)).run Tryd.prog ((w.alloc o).alloc (.cells #[.int .u8 x0] 5)) = .ok (.string (strOfNums [x0])) ((w.alloc o).alloc (.cells #[.int .u8 x0] 5)) := by
    intro w o x0
    have h := hcv (w.alloc o) x0
    rw [show (w.alloc o).heap.size = w.heap.size + 1 by simp] at h
    exact h
  clear hcv
  have htk := isTok_any k (by omega)
  have hdt := isDat_any k (by omega)
  obtain ⟨hc1, hc2, hc3⟩ := hcls
  rw [hc1] at htk
  rw [hc2] at hdt
  have HT := Lib.hid htk
  have HD := Lib.hid hdt
  have h5 := fiveR_any (a + 128 * e + f) (by omega)
  have hlt : fiveR (a + 128 * e + f) < 32 := by
    rw [← five_same]
    unfold fiveC
    rw [if_neg (by omega)]
    exact Nat.xor_lt_two_pow (n := 5) (feedN_lt (m := 5) (by decide) (by decide) 11) (by decide)
  have HF := Lib.hid (five_same (a + 128 * e + f))
  generalize hx : fiveR (a + 128 * e + f) = x at *
  have he2 : fiveE (a + 128 * e + f) = 0 := if_neg (by omega)
  rw [he2] at h5
  have hn1 : ((a + 128 * e + f : Nat) : Int) = (a : Int) + 128 * e + f := by omega
  rw [hn1] at h5
  have H5 := Lib.hid h5
  clear htk hdt hc1 hc2 h5 hx he2 hn1
  have HB := Lib.hid (twoBytes_any (a + 128 * e + f + 2048 * x) (by omega))
  have hn2 : ((a + 128 * e + f + 2048 * x : Nat) : Int) = (a : Int) + 128 * e + f + 2048 * x := by omega
  rw [hn2] at HB
  clear hn2
  have hs2 : (twoL (a + 128 * e + f + 2048 * x)).length ≤ 2 := Nat.le_refl _
  have hz := headSize k
  have hsum : (16 * (15 - (k : Int)) + k) = 16 * (((15 - k : Nat)) : Int) + k := by omega
  rw [← hsum] at hz
  have HSUM := Lib.hid hsum
  clear hsum
  go_enter Tryd.func69, Tryd.ntmps69
  go_wp2_with fail
  refine (H5.out _).mono ?_
  rintro r w1 ⟨rfl, hb1⟩
  have hz1 : w.heap.size < w1.heap.size := by have := hb1.size; simp at this; omega
  have c0 : w1.cell? ⟨w.heap.size, 0, none⟩ = some (.int .i64 k) := (hb1.cell (by simp; omega)).trans (by simp)
  have c4 : w1.cell? ⟨w.heap.size, 4, none⟩ = some (.string d) := (hb1.cell (by simp; omega)).trans (by simp)
  have B1 : Below w.heap.size w w1 := (((Below.refl _ _).alloc (Nat.le_refl _) _).alloc (by simp) _).trans (hb1.mono (by simp; omega))
  clear hb1
  go_wp2_with (first | (go_at_call 110; first | (with_reducible refine (HT.out _).mono ?_; rintro r w2 ⟨rfl, rfl⟩) | (with_reducible refine (HD.out _).mono ?_; rintro r w2 ⟨rfl, rfl⟩)))
  refine (HB.out _).mono ?_
  rintro r w2 ⟨rfl, hb2⟩
  go_wp2_with fail
  go_ret
  refine ⟨ret_s ?_, Below.trans B1 (hb2.mono B1.size)⟩
  rw [HSUM.out, headE k hk16]
  have e1 : twoL (a + 128 * e + f + 2048 * x) = sealL (a + 128 * e + f) := by unfold sealL; rw [HF.out]
  rw [e1]
  exact str_append _ _

set_option maxHeartbeats 300000 in
theorem textR_bare (k a e f : Nat) (d : ByteArray) (hk16 : k < 16) (hcls : tokK k = false ∧ datK k = false ∧ ((k : Int) == 5) = false) (ha : a < 128) (he : e < 16) (hn : a + 128 * e + f < 2048) (hd : d.size ≤ 64) (w : World) :
    Calls Tryd.prog 69 #[.agg #[.int .i64 k, .int .i64 a, .int .i64 e, .int .i64 f, .string d]] w fun r w' => r = .returned (.string ⟨(headL k).toArray⟩) ∧ Below w.heap.size w w' := by
  have hcv := conv1 (P := Tryd.prog) Tryd.underlying83 Tryd.underlying5 Tryd.underlying9
  have hcv2 : ∀ (w : World) (o : Obj) (x0 : Int), (convert 83 9 (.slice (some ⟨w.heap.size + 1, 0, none⟩) 1 1)).run Tryd.prog ((w.alloc o).alloc (.cells #[.int .u8 x0] 5)) = .ok (.string (strOfNums [x0])) ((w.alloc o).alloc (.cells #[.int .u8 x0] 5)) := by
    intro w o x0
    have h := hcv (w.alloc o) x0
    rw [show (w.alloc o).heap.size = w.heap.size + 1 by simp] at h
    exact h
  clear hcv
  have htk := isTok_any k (by omega)
  have hdt := isDat_any k (by omega)
  obtain ⟨hc1, hc2, hc3⟩ := hcls
  rw [hc1] at htk
  rw [hc2] at hdt
  have HT := Lib.hid htk
  have HD := Lib.hid hdt
  have h5 := fiveR_any (a + 128 * e + f) (by omega)
  have hlt : fiveR (a + 128 * e + f) < 32 := by
    rw [← five_same]
    unfold fiveC
    rw [if_neg (by omega)]
    exact Nat.xor_lt_two_pow (n := 5) (feedN_lt (m := 5) (by decide) (by decide) 11) (by decide)
  have HF := Lib.hid (five_same (a + 128 * e + f))
  generalize hx : fiveR (a + 128 * e + f) = x at *
  have he2 : fiveE (a + 128 * e + f) = 0 := if_neg (by omega)
  rw [he2] at h5
  have hn1 : ((a + 128 * e + f : Nat) : Int) = (a : Int) + 128 * e + f := by omega
  rw [hn1] at h5
  have H5 := Lib.hid h5
  clear htk hdt hc1 hc2 h5 hx he2 hn1
  go_enter Tryd.func69, Tryd.ntmps69
  go_wp2_with fail
  refine (H5.out _).mono ?_
  rintro r w1 ⟨rfl, hb1⟩
  have hz1 : w.heap.size < w1.heap.size := by have := hb1.size; simp at this; omega
  have c0 : w1.cell? ⟨w.heap.size, 0, none⟩ = some (.int .i64 k) := (hb1.cell (by simp; omega)).trans (by simp)
  have c4 : w1.cell? ⟨w.heap.size, 4, none⟩ = some (.string d) := (hb1.cell (by simp; omega)).trans (by simp)
  have B1 : Below w.heap.size w w1 := (((Below.refl _ _).alloc (Nat.le_refl _) _).alloc (by simp) _).trans (hb1.mono (by simp; omega))
  clear hb1
  go_wp2_with (first | (go_at_call 110; first | (with_reducible refine (HT.out _).mono ?_; rintro r w2 ⟨rfl, rfl⟩) | (with_reducible refine (HD.out _).mono ?_; rintro r w2 ⟨rfl, rfl⟩)))
  go_ret
  refine ⟨ret_s ?_, B1⟩
  rw [show (16 * (15 - (k : Int)) + k) = 16 * (((15 - k : Nat)) : Int) + k by omega, headE k hk16]

set_option maxHeartbeats 300000 in
theorem textR_dat (k a e f : Nat) (d : ByteArray) (hk16 : k < 16) (hcls : tokK k = false ∧ datK k = true ∧ ((k : Int) == 5) = false) (ha : a < 128) (he : e < 16) (hn : a + 128 * e + f < 2048) (hd : d.size ≤ 64) (w : World) :
    Calls Tryd.prog 69 #[.agg #[.int .i64 k, .int .i64 a, .int .i64 e, .int .i64 f, .string d]] w fun r w' => r = .returned (.string ⟨(headL k ++ d.data.toList ++ dataL d.data.toList).toArray⟩) ∧ Below w.heap.size w w' := by
  have hcv := conv1 (P := Tryd.prog) Tryd.underlying83 Tryd.underlying5 Tryd.underlying9
  have hcv2 : ∀ (w : World) (o : Obj) (x0 : Int), (convert 83 9 (.slice (some ⟨w.heap.size + 1, 0, none⟩) 1 1)).run Tryd.prog ((w.alloc o).alloc (.cells #[.int .u8 x0] 5)) = .ok (.string (strOfNums [x0])) ((w.alloc o).alloc (.cells #[.int .u8 x0] 5)) := by
    intro w o x0
    have h := hcv (w.alloc o) x0
    rw [show (w.alloc o).heap.size = w.heap.size + 1 by simp] at h
    exact h
  clear hcv
  have htk := isTok_any k (by omega)
  have hdt := isDat_any k (by omega)
  obtain ⟨hc1, hc2, hc3⟩ := hcls
  rw [hc1] at htk
  rw [hc2] at hdt
  have HT := Lib.hid htk
  have HD := Lib.hid hdt
  have h5 := fiveR_any (a + 128 * e + f) (by omega)
  have hlt : fiveR (a + 128 * e + f) < 32 := by
    rw [← five_same]
    unfold fiveC
    rw [if_neg (by omega)]
    exact Nat.xor_lt_two_pow (n := 5) (feedN_lt (m := 5) (by decide) (by decide) 11) (by decide)
  have HF := Lib.hid (five_same (a + 128 * e + f))
  generalize hx : fiveR (a + 128 * e + f) = x at *
  have he2 : fiveE (a + 128 * e + f) = 0 := if_neg (by omega)
  rw [he2] at h5
  have hn1 : ((a + 128 * e + f : Nat) : Int) = (a : Int) + 128 * e + f := by omega
  rw [hn1] at h5
  have H5 := Lib.hid h5
  clear htk hdt hc1 hc2 h5 hx he2 hn1
  have hsm := more_same 0 (by decide) d.data.toList
  have hlt2 : moreR 0 d.data.toList < 65536 := by rw [← hsm]; omega
  have HSM := Lib.hid hsm
  have HX := Lib.hid (moreR_any 0 (by decide) d (by omega))
  have HY := Lib.hid (twoBytes_any (moreR 0 d.data.toList) (by omega))
  have HM : IntKind.i64.wrap ((moreR 0 d.data.toList : Nat) : Int) = ((moreR 0 d.data.toList : Nat) : Int) := wrap_small _ (by omega)
  have hs2 : (twoL (moreR 0 d.data.toList)).length ≤ 2 := Nat.le_refl _
  have hz := headSize k
  have hsum : (16 * (15 - (k : Int)) + k) = 16 * (((15 - k : Nat)) : Int) + k := by omega
  rw [← hsum] at hz
  have HSUM := Lib.hid hsum
  clear hsum
  have q1 : ¬ 9223372036854775807 < 1 + d.size := by omega
  have q2 : ¬ 9223372036854775807 < 1 + d.size + (twoL (moreR 0 d.data.toList)).length := by omega
  clear hsm
  go_enter Tryd.func69, Tryd.ntmps69
  go_wp2_with fail
  refine (H5.out _).mono ?_
  rintro r w1 ⟨rfl, hb1⟩
  have hz1 : w.heap.size < w1.heap.size := by have := hb1.size; simp at this; omega
  have c0 : w1.cell? ⟨w.heap.size, 0, none⟩ = some (.int .i64 k) := (hb1.cell (by simp; omega)).trans (by simp)
  have c4 : w1.cell? ⟨w.heap.size, 4, none⟩ = some (.string d) := (hb1.cell (by simp; omega)).trans (by simp)
  have B1 : Below w.heap.size w w1 := (((Below.refl _ _).alloc (Nat.le_refl _) _).alloc (by simp) _).trans (hb1.mono (by simp; omega))
  clear hb1
  go_wp2_with (first | (go_at_call 110; first | (with_reducible refine (HT.out _).mono ?_; rintro r w2 ⟨rfl, rfl⟩) | (with_reducible refine (HD.out _).mono ?_; rintro r w2 ⟨rfl, rfl⟩)))
  have hcells : Hid (∀ w', Below w1.heap.size w1 w' → w'.cell? ⟨w.heap.size, 4, none⟩ = some (.string d)) :=
    fun w' h => (h.cell hz1).trans c4
  have hz0 : w1.heap.size ≤ w1.heap.size := Nat.le_refl _
  refine wp_region_relF (by kernel_rfl) (by rfl) (fun w' => Below w1.heap.size w1 w')
    (fun i v w' => match i with
      | 0 => v = .string (strOfNums [16 * (15 - (k : Int)) + k])
      | 1 => v = .pointer (some ⟨w.heap.size, 4, none⟩)
      | 2 => v = .string d
      | 3 => v = .string (strOfNums [16 * (15 - (k : Int)) + k] ++ d)
      | 4 => v = .pointer (some ⟨w.heap.size, 4, none⟩)
      | 5 => v = .string d
      | 6 => v = .int .u16 (moreR 0 d.data.toList : Nat)
      | 7 => v = .int .i64 (moreR 0 d.data.toList : Nat)
      | 8 => v = .string ⟨(twoL (moreR 0 d.data.toList)).toArray⟩
      | 9 => v = .string (strOfNums [16 * (15 - (k : Int)) + k] ++ d ++ ⟨(twoL (moreR 0 d.data.toList)).toArray⟩)
      | 10 => v = .string (strOfNums [16 * (15 - (k : Int)) + k] ++ d ++ ⟨(twoL (moreR 0 d.data.toList)).toArray⟩)
      | _ => True) ?_ ?_ ?_ ?_
  · intro i v wq w2 h hS hS' hle
    match i, h with
    | 0, h => exact h
    | 1, h => exact h
    | 2, h => exact h
    | 3, h => exact h
    | 4, h => exact h
    | 5, h => exact h
    | 6, h => exact h
    | 7, h => exact h
    | 8, h => exact h
    | 9, h => exact h
    | 10, h => exact h
    | n + 11, h => trivial
  · exact (Below.refl _ _).drew
  · refine ⟨?_, ?_, ?_, ?_, ?_, ?_, ?_, ?_, ?_, ?_, ?_, trivial⟩
    · refine ok_run rfl (fun x wq hS hd => ⟨.string (strOfNums [16 * (15 - (k : Int)) + k]), wq, ?_, rfl, hS, Below.refl _ _⟩)
      simp [putAll, Act.put, go_sem]
    · refine ok_run rfl (fun x wq hS hd => ⟨.pointer (some ⟨w.heap.size, 4, none⟩), wq, ?_, rfl, hS, Below.refl _ _⟩)
      simp [putAll, Act.put, go_sem]
    · refine ok_run rfl (fun x wq hS hd => ⟨.string d, wq, ?_, rfl, hS, Below.refl _ _⟩)
      have d1 : (x 1) = .pointer (some ⟨w.heap.size, 4, none⟩) := hd.1 rfl
      have x4 := hcells.out _ hS
      simp [putAll, Act.put, go_sem, d1, x4]
    · refine ok_run rfl (fun x wq hS hd => ⟨.string (strOfNums [16 * (15 - (k : Int)) + k] ++ d), wq, ?_, rfl, hS, Below.refl _ _⟩)
      have d0 : (x 0) = .string (strOfNums [16 * (15 - (k : Int)) + k]) := hd.1 rfl
      have d2 : (x 2) = .string d := hd.2.1 rfl
      simp [putAll, Act.put, go_sem, d0, d2, q1, q2, hz, hs2]
    · refine ok_run rfl (fun x wq hS hd => ⟨.pointer (some ⟨w.heap.size, 4, none⟩), wq, ?_, rfl, hS, Below.refl _ _⟩)
      simp [putAll, Act.put, go_sem]
    · refine ok_run rfl (fun x wq hS hd => ⟨.string d, wq, ?_, rfl, hS, Below.refl _ _⟩)
      have d4 : (x 4) = .pointer (some ⟨w.heap.size, 4, none⟩) := hd.1 rfl
      have x4 := hcells.out _ hS
      simp [putAll, Act.put, go_sem, d4, x4]
    · refine ok_call rfl (fun x wq hS hd => ⟨112, #[.int .u16 0, .string d], ?_, (HX.out wq).mono ?_⟩)
      · have d5 : (x 5) = .string d := hd.1 rfl
        simp [putAll, Act.put, go_sem, d5]
      · rintro e w2 ⟨rfl, hb⟩
        exact ⟨_, rfl, rfl, hS.trans (hb.mono (Nat.le_trans hz0 hS.size)), hb⟩
    · refine ok_run rfl (fun x wq hS hd => ⟨.int .i64 (moreR 0 d.data.toList : Nat), wq, ?_, rfl, hS, Below.refl _ _⟩)
      have d6 : (x 6) = .int .u16 (moreR 0 d.data.toList : Nat) := hd.1 rfl
      simp [putAll, Act.put, go_sem, d6, HM]
    · refine ok_call rfl (fun x wq hS hd => ⟨111, #[.int .i64 (moreR 0 d.data.toList : Nat)], ?_, (HY.out wq).mono ?_⟩)
      · have d7 : (x 7) = .int .i64 (moreR 0 d.data.toList : Nat) := hd.1 rfl
        have d6 : (x 6) = .int .u16 (moreR 0 d.data.toList : Nat) := hd.2.1 rfl
        simp [putAll, Act.put, go_sem, d6, d7]
      · rintro e w2 ⟨rfl, hb⟩
        exact ⟨_, rfl, rfl, hS.trans (hb.mono (Nat.le_trans hz0 hS.size)), hb⟩
    · refine ok_run rfl (fun x wq hS hd => ⟨.string (strOfNums [16 * (15 - (k : Int)) + k] ++ d ++ ⟨(twoL (moreR 0 d.data.toList)).toArray⟩), wq, ?_, rfl, hS, Below.refl _ _⟩)
      have d3 : (x 3) = .string (strOfNums [16 * (15 - (k : Int)) + k] ++ d) := hd.1 rfl
      have d8 : (x 8) = .string ⟨(twoL (moreR 0 d.data.toList)).toArray⟩ := hd.2.1 rfl
      simp [putAll, Act.put, go_sem, d3, d8, q1, q2, hz, hs2]
    · refine ok_run rfl (fun x wq hS hd => ⟨.string (strOfNums [16 * (15 - (k : Int)) + k] ++ d ++ ⟨(twoL (moreR 0 d.data.toList)).toArray⟩), wq, ?_, rfl, hS, Below.refl _ _⟩)
      have d9 : (x 9) = .string (strOfNums [16 * (15 - (k : Int)) + k] ++ d ++ ⟨(twoL (moreR 0 d.data.toList)).toArray⟩) := hd.1 rfl
      have d8 : (x 8) = .string ⟨(twoL (moreR 0 d.data.toList)).toArray⟩ := hd.2.1 rfl
      have d0 : (x 0) = .string (strOfNums [16 * (15 - (k : Int)) + k]) := hd.2.2.1 rfl
      have d1 : (x 1) = .pointer (some ⟨w.heap.size, 4, none⟩) := hd.2.2.2.1 rfl
      have d2 : (x 2) = .string d := hd.2.2.2.2.1 rfl
      have d3 : (x 3) = .string (strOfNums [16 * (15 - (k : Int)) + k] ++ d) := hd.2.2.2.2.2.1 rfl
      have d4 : (x 4) = .pointer (some ⟨w.heap.size, 4, none⟩) := hd.2.2.2.2.2.2.1 rfl
      have d5 : (x 5) = .string d := hd.2.2.2.2.2.2.2.1 rfl
      have d6 : (x 6) = .int .u16 (moreR 0 d.data.toList : Nat) := hd.2.2.2.2.2.2.2.2.1 rfl
      have d7 : (x 7) = .int .i64 (moreR 0 d.data.toList : Nat) := hd.2.2.2.2.2.2.2.2.2.1 rfl
      simp [putAll, Act.put, go_sem, d0, d1, d2, d3, d4, d5, d6, d7, d8, d9]
  · intro x wq hS hall
    have q10 : (x 10) = .string (strOfNums [16 * (15 - (k : Int)) + k] ++ d ++ ⟨(twoL (moreR 0 d.data.toList)).toArray⟩) := hall.2.2.2.2.2.2.2.2.2.2.1
    clear hall
    simp only [putAll, Act.put, List.setIfInBounds_toArray, List.set_cons_succ, List.set_cons_zero, q10]
    go_wp2_with fail
    go_ret
    refine ⟨ret_s ?_, Below.trans B1 (hS.mono B1.size)⟩
    rw [HSUM.out, headE k hk16]
    have e1 : (⟨(headL k).toArray⟩ : ByteArray) ++ d = ⟨(headL k ++ d.data.toList).toArray⟩ := str_append (headL k) d.data.toList
    rw [e1]
    have e2 : dataL d.data.toList = twoL (moreR 0 d.data.toList) := by unfold dataL; rw [← HSM.out]
    rw [e2]
    exact str_append _ _
end Go.Proofs.YtekmnhplhoejdaaDoor
