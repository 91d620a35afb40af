/- Small laws of my own over the kit's, for any program: slices that are read, slices of the call's own that are appended to and written. -/
import Derived.Test.YtkhfbleldchnpaaChecked
import Derived.WalkKit
import Derived.Lib.Hide
import Derived.Outline
import Derived.Deep.AppendLies
import Derived.Laws.AppendOwnNone
import Derived.Deep.QuietTactic
import Derived.BigQuiet
import Derived.Handy
namespace Go.Proofs.Ytkhfbleldchnpaa
open Go.RowKit
set_option linter.unusedVariables false

theorem addr_add (b off j : Nat) : (⟨b, off, none⟩ : Addr).add j = ⟨b, off + j, none⟩ := by
  unfold Addr.add
  split <;> simp_all

theorem hid_mk {p : Prop} (h : p) : Hid p := h

/-- a slice value (elements of 'size' cells) reads as these cells -/
def Reads (w : World) (size : Nat) (v : Value) (n : Nat) (xs : List Value) : Prop :=
  xs.length = n * size ∧ ∃ a cap, v = .slice a n cap ∧ n ≤ cap ∧ cap ≤ maxLen ∧ (0 < n → ∃ b off, a = some ⟨b, off, none⟩ ∧ b < w.heap.size ∧ ∀ i x, xs[i]? = some x → w.cell? ⟨b, off + i, none⟩ = some x)

theorem Reads.nil (w : World) (size : Nat) : Reads w size (.slice none 0 0) 0 [] := ⟨by simp, none, 0, rfl, Nat.le_refl _, Nat.zero_le _, fun h => absurd h (by omega)⟩

theorem Reads.open {w : World} {size : Nat} {v : Value} {n : Nat} {xs : List Value} (h : Reads w size v n xs) :
    ∃ a cap, v = .slice a n cap ∧ xs.length = n * size ∧ n ≤ cap ∧ cap ≤ maxLen ∧ (0 < n → ∃ b off, a = some ⟨b, off, none⟩ ∧ b < w.heap.size ∧ ∀ i x, xs[i]? = some x → w.cell? ⟨b, off + i, none⟩ = some x) := by
  obtain ⟨h1, a, cap, h2, h3, h4, h5⟩ := h
  exact ⟨a, cap, h2, h1, h3, h4, h5⟩

theorem Reads.keep {w w' : World} {size : Nat} {v : Value} {n : Nat} {xs : List Value} (h : Reads w size v n xs) (hs : w.heap.size ≤ w'.heap.size)
    (hc : ∀ b o, b < w.heap.size → v.ownBlock = some b → w'.cell? ⟨b, o, none⟩ = w.cell? ⟨b, o, none⟩) : Reads w' size v n xs := by
  obtain ⟨h1, a, cap, rfl, h3, h4, h5⟩ := h
  refine ⟨h1, a, cap, rfl, h3, h4, fun h0 => ?_⟩
  obtain ⟨b, off, rfl, hb, hx⟩ := h5 h0
  exact ⟨b, off, rfl, by omega, fun i x hi => by rw [hc b _ hb rfl]; exact hx i x hi⟩

theorem Reads.below {w w' : World} {size : Nat} {v : Value} {n : Nat} {xs : List Value} (h : Reads w size v n xs) {B : Nat} (hb : Below B w w') (hB : w.heap.size ≤ B) : Reads w' size v n xs :=
  h.keep hb.size (fun b o hlt _ => hb.cell (p := ⟨b, o, none⟩) (show b < B by omega))

theorem Reads.belowOf {w w' : World} {size : Nat} {v : Value} {n : Nat} {xs : List Value} (h : Reads w size v n xs) {B : Nat} (hb : Below B w w') (hv : ∀ b, v.ownBlock = some b → b < B) : Reads w' size v n xs :=
  h.keep hb.size (fun b o _ e => hb.cell (p := ⟨b, o, none⟩) (hv b e))

theorem Reads.grown {w w' : World} {size : Nat} {v : Value} {n : Nat} {xs : List Value} (h : Reads w size v n xs) {row : Option Nat} (hg : w.grownBy w' row) (hne : v.ownBlock = none ∨ v.ownBlock ≠ row) : Reads w' size v n xs :=
  h.keep hg.size (fun b o hlt e => World.cell?_of_block (w := w) (a := ⟨b, o, none⟩) (hg.block b hlt (fun e' => hne.elim (fun h => by rw [h] at e; cases e) (fun h => h (e.trans e')))))

theorem Reads.of_own {w : World} {B : Nat} {e : TypeId} {size : Nat} {v : Value} {n : Nat} {xs : List Value} (h : w.ownsRow B e size v n xs) : Reads w size v n xs := by
  refine ⟨h.1, ?_⟩
  rcases h.2 with ⟨rfl, rfl⟩ | ⟨g, cap, cur, rfl, hb, hg, hnc, hcm, hcs, htake⟩
  · exact ⟨none, 0, rfl, Nat.le_refl _, Nat.zero_le _, fun h => absurd h (by omega)⟩
  · refine ⟨_, cap, rfl, hnc, hcm, fun h0 => ⟨g, 0, rfl, ?_, fun i x hi => ?_⟩⟩
    · rcases Nat.lt_or_ge g w.heap.size with hlt | hge
      · exact hlt
      · rw [Array.getElem?_eq_none hge] at hg; cases hg
    · have hi' : i < n * size := by have := h.1; rcases List.getElem?_eq_some_iff.1 hi with ⟨hlt, _⟩; omega
      simp only [Nat.zero_add]
      rw [World.ownsRow.cellAt h i hi']
      exact hi

theorem Reads.cell {w : World} {size : Nat} {b off n cap : Nat} {xs : List Value} (h : Reads w size (.slice (some ⟨b, off, none⟩) n cap) n xs) {i : Nat} {x : Value} (hi : xs[i]? = some x) : w.cell? ⟨b, off + i, none⟩ = some x := by
  obtain ⟨h1, a, cap', h2, h3, h4, h5⟩ := h
  have hlt : i < n * size := by rcases List.getElem?_eq_some_iff.1 hi with ⟨hlt, _⟩; omega
  have h0 : 0 < n := by rcases Nat.eq_zero_or_pos n with h | h; · subst h; omega
                        · exact h
  simp only [Value.slice.injEq] at h2
  obtain ⟨rfl, -, rfl⟩ := h2
  obtain ⟨b', off', he, _, hx⟩ := h5 h0
  simp only [Option.some.injEq, Addr.mk.injEq, and_true] at he
  obtain ⟨rfl, rfl⟩ := he
  exact hx i x hi

theorem Reads.cell0 {w : World} {size : Nat} {b n cap : Nat} {xs : List Value} (h : Reads w size (.slice (some ⟨b, 0, none⟩) n cap) n xs) {i : Nat} {x : Value} (hi : xs[i]? = some x) : w.cell? ⟨b, i, none⟩ = some x := by
  have := h.cell hi
  rwa [Nat.zero_add] at this

/-- a literal's row, just laid -/
theorem Reads.lit (w : World) (e : TypeId) (size n : Nat) (cs : List Value) (h : cs.length = n * size) (hn : n ≤ maxLen) :
    Reads (w.alloc (.cells cs.toArray e)) size (.slice (some ⟨w.heap.size, 0, none⟩) n n) n cs := by
  refine ⟨h, _, _, rfl, Nat.le_refl _, hn, fun _ => ⟨w.heap.size, 0, rfl, by simp, fun i x hi => ?_⟩⟩
  rw [World.cell?_alloc_at _ _ _ _ rfl]
  simpa using hi

theorem Reads.litAt (w : World) (e : TypeId) (size n : Nat) (cs : List Value) (h : cs.length = n * size) (hn : n ≤ maxLen) (b : Nat) (hb : b = w.heap.size) :
    Reads (w.alloc (.cells cs.toArray e)) size (.slice (some ⟨b, 0, none⟩) n n) n cs := by
  rw [hb]; exact Reads.lit w e size n cs h hn

theorem Reads.alloc {w : World} {size : Nat} {v : Value} {n : Nat} {xs : List Value} (h : Reads w size v n xs) (o : Obj) : Reads (w.alloc o) size v n xs :=
  h.below ((Below.refl w.heap.size w).alloc (Nat.le_refl _) o) (Nat.le_refl _)

theorem own_cap {w : World} {B : Nat} {e : TypeId} {size g n cap : Nat} {xs : List Value} (h : w.ownsRow B e size (.slice (some ⟨g, 0, none⟩) n cap) n xs) : n ≤ cap ∧ cap ≤ maxLen ∧ B ≤ g ∧ g < w.heap.size := by
  rcases h.2 with ⟨h', _⟩ | ⟨g', cap', cur, h', hb, hg, hnc, hcm, hcs, htake⟩
  · simp at h'
  · simp only [Value.slice.injEq, Option.some.injEq, Addr.mk.injEq, and_true, true_and] at h'
    obtain ⟨rfl, rfl⟩ := h'
    refine ⟨hnc, hcm, hb, ?_⟩
    rcases Nat.lt_or_ge g w.heap.size with hlt | hge
    · exact hlt
    · rw [Array.getElem?_eq_none hge] at hg; cases hg

theorem own_below {B : Nat} {e : TypeId} {k : Nat} {v : Value} {n : Nat} {xs : List Value} {w w' : World} (h : w.ownsRow B e k v n xs) (hb : Below w.heap.size w w') : w'.ownsRow B e k v n xs :=
  h.kept (w' := w') (row := none) ⟨hb.os, hb.tape, hb.output, hb.size, fun j hj _ => hb.block j hj⟩ (by cases v.ownBlock <;> simp)

/-- 's[k:]' of an owned row -/
theorem Reads.drop {w : World} {B : Nat} {e : TypeId} {g n cap k : Nat} {xs : List Value} (h : w.ownsRow B e 1 (.slice (some ⟨g, 0, none⟩) n cap) n xs) (hk : k ≤ n) :
    Reads w 1 (.slice (some ⟨g, k, none⟩) (n - k) (cap - k)) (n - k) (xs.drop k) := by
  have hc := own_cap h
  refine ⟨by simp [h.1], _, _, rfl, by omega, by omega, fun _ => ⟨g, k, rfl, hc.2.2.2, fun i x hi => ?_⟩⟩
  rw [List.getElem?_drop] at hi
  have hlt : k + i < n * 1 := by have := h.1; rcases List.getElem?_eq_some_iff.1 hi with ⟨hlt, _⟩; omega
  rw [World.ownsRow.cellAt h (k + i) hlt]
  exact hi

/-- 'append(s, x)' of one new element (its cells have just been laid) on a slice of the call's own. -/
theorem wpList_app1 {P : Program} {w : World} {ops : Array Oper} {rest : List Oper} {o : Oper} {a : Act} {Q : Exit → Act → World → Prop} (hgd : o.guard = none) (s x : Operand) (t : TypeId)
    (ho : o.op = .call { callee := .builtin .append, args := #[s, x], argTypes := #[t, t] })
    (B : Nat) (e : TypeId) (z : Value) (size bytes : Nat) (ht : P.underlying t = some (.slice e)) (hinfo : (P.info? e).map (fun i => (i.zero, i.size, i.bytes)) = some (some z, size, bytes)) (hzs : z.cells.size = size) (hsz : 0 < size) (hb : bytes ≤ 4096)
    (v : Value) (n : Nat) (xs : List Value) (hs : a.eval s = v) (hown : w.ownsRow B e size v n xs) (us : List Value) (hx : a.eval x = .slice (some ⟨w.heap.size, 0, none⟩) 1 1) (hul : us.length = size) (hu : ∀ u ∈ us, u.oneCell' = true)
    (hn : n ≤ 17179869184) (hB : B ≤ w.heap.size)
    (h : ∀ v' w', w'.ownsRow B e size v' (n + 1) (xs ++ us) → (w.alloc (.cells us.toArray e)).grownBy w' v.ownBlock → (v'.ownBlock = v.ownBlock ∨ ∃ g, v'.ownBlock = some g ∧ w.heap.size ≤ g) → Below B w w' → wpList P ops Q rest (a.put o.dst v') w') :
    wpList P ops Q (o :: rest) a (w.alloc (.cells us.toArray e)) := by
  obtain ⟨i, hi, hz, hsize, hby⟩ := info_parts hinfo
  refine wpList_append_lies _ hgd s x t ho B e i z size bytes ht hi hz hsize hby hzs hsz v n xs hs (hown.alloc _) ⟨w.heap.size, 0, none⟩ 1 1 us hx (by omega) ?_ hu (by decide) ?_ ?_ ?_ _ rfl ?_
  · intro j y hj
    have hlt : j < us.length := by rcases List.getElem?_eq_some_iff.1 hj with ⟨hlt, _⟩; exact hlt
    rw [addr_add, World.cell?_alloc_at _ _ _ _ rfl]
    simpa using hj
  · unfold maxLen; omega
  · calc (n + 1) * bytes ≤ (n + 1) * 4096 := Nat.mul_le_mul_left _ hb
      _ ≤ 140737488355328 := by omega
  · simp; omega
  · intro g cap w' h1 h2 h3 _
    refine h _ w' h1 h2 ?_ ?_
    · rcases h3 with h3 | h3
      · exact .inl (by rw [h3]; rfl)
      · exact .inr ⟨g, rfl, by simp at h3; omega⟩
    · exact ((Below.refl B w).alloc hB _).grown h2 (by simp; omega) (fun k hk => (hown.lt k hk).1)

/-- 'append(s, xs...)' of a slice that reads as known on a slice of the call's own. -/
theorem wpList_appR {P : Program} {w : World} {ops : Array Oper} {rest : List Oper} {o : Oper} {a : Act} {Q : Exit → Act → World → Prop} (hgd : o.guard = none) (s x : Operand) (t : TypeId)
    (ho : o.op = .call { callee := .builtin .append, args := #[s, x], argTypes := #[t, t] })
    (B : Nat) (e : TypeId) (z : Value) (size bytes : Nat) (ht : P.underlying t = some (.slice e)) (hinfo : (P.info? e).map (fun i => (i.zero, i.size, i.bytes)) = some (some z, size, bytes)) (hzs : z.cells.size = size) (hsz : 0 < size) (hb : bytes ≤ 4096)
    (v : Value) (n : Nat) (xs : List Value) (hs : a.eval s = v) (hown : w.ownsRow B e size v n xs) (xv : Value) (m : Nat) (us : List Value) (hx : a.eval x = xv) (hr : Reads w size xv m us) (hu : ∀ u ∈ us, u.oneCell' = true)
    (hnm : n + m ≤ 17179869184) (hB : B ≤ w.heap.size)
    (h : ∀ v' w', w'.ownsRow B e size v' (n + m) (xs ++ us) → w.grownBy w' v.ownBlock → (v'.ownBlock = v.ownBlock ∨ ∃ g, v'.ownBlock = some g ∧ w.heap.size ≤ g) → Below B w w' → wpList P ops Q rest (a.put o.dst v') w') :
    wpList P ops Q (o :: rest) a w := by
  obtain ⟨i, hi, hz, hsize, hby⟩ := info_parts hinfo
  obtain ⟨ad, cap, rfl, hl, hmc, hcm, hcell⟩ := hr.open
  have fin : ∀ v' w', w'.ownsRow B e size v' (n + m) (xs ++ us) → w.grownBy w' v.ownBlock → (v'.ownBlock = v.ownBlock ∨ ∃ g, v'.ownBlock = some g ∧ w.heap.size ≤ g) → wpList P ops Q rest (a.put o.dst v') w' :=
    fun v' w' h1 h2 h3 => h v' w' h1 h2 h3 ((Below.refl B w).grown h2 hB (fun k hk => (hown.lt k hk).1))
  by_cases hm : m = 0
  · subst hm
    obtain rfl : us = [] := List.length_eq_zero_iff.1 (by omega)
    have hown' : w.ownsRow B e size v (n + 0) (xs ++ []) := by simpa using hown
    cases ad with
    | none =>
      by_cases hc : cap = 0
      · subst hc
        exact wpList_append_own_none hgd s x t ho B e i size ht hi v n xs hs hown hx (fin v w hown' (World.grownBy.refl _ _) (.inl rfl))
      · refine wpList_plain hgd fun K hK => ?_
        have hrun : (Builtin.append_ #[t, t] o.type #[v, .slice none 0 cap]).run P w = .ok v w := by
          rcases hown.2 with ⟨rfl, rfl⟩ | ⟨g, cp, cur, rfl, _, _, hnc, _⟩
          · simp [Builtin.append_, run_underlying ht, sizeOf, typeInfo, hi, Builtin.lenOf, Builtin.firstCells]
          · simp [Builtin.append_, run_underlying ht, sizeOf, typeInfo, hi, Builtin.lenOf, Builtin.firstCells, hnc, storeCells]
        unfold Oper.wp
        simp [execOp, ho, resolve, invoke, builtin, hs, hx, hrun, Result.andThen]
        exact hK _ _ (fin v w hown' (World.grownBy.refl _ _) (.inl rfl))
    | some ad =>
      refine wpList_append_own_at w hgd s x t ho B e i z size bytes ht hi hz hsize hby hzs hsz v n xs hs hown ad 0 cap [] hx (by simp) (fun j u hj => by simp at hj) (fun u hu => by simp at hu) ?_ ?_ hB ?_
      · unfold maxLen; omega
      · calc (n + 0) * bytes ≤ (n + 0) * 4096 := Nat.mul_le_mul_left _ hb
          _ ≤ 140737488355328 := by omega
      · intro v' w' h1 h2 _ h4
        refine fin v' w' h1 h2 ?_
        rcases h4 with h4 | h4
        · exact .inl h4
        · exact .inr ⟨_, h4, Nat.le_refl _⟩
  · obtain ⟨b, off, rfl, hb2, hx2⟩ := hcell (by omega)
    refine wpList_append_own_at w hgd s x t ho B e i z size bytes ht hi hz hsize hby hzs hsz v n xs hs hown ⟨b, off, none⟩ m cap us hx hl (fun j u hj => by rw [addr_add]; exact hx2 j u hj) hu ?_ ?_ hB ?_
    · unfold maxLen; omega
    · calc (n + m) * bytes ≤ (n + m) * 4096 := Nat.mul_le_mul_left _ hb
        _ ≤ 140737488355328 := by omega
    · intro v' w' h1 h2 _ h4
      refine fin v' w' h1 h2 ?_
      rcases h4 with h4 | h4
      · exact .inl h4
      · exact .inr ⟨_, h4, Nat.le_refl _⟩

/-- 'string(b)' of a slice of bytes that reads as these numbers -/
theorem conv_reads {P : Program} {w : World} (src e : TypeId) (hs : P.underlying src = some (.slice e)) (he : P.underlying e = some (.int .u8)) (dst : TypeId) (hd : P.underlying dst = some .string)
    {v : Value} {n : Nat} {xs : List Int} (h : Reads w 1 v n (xs.map (Value.int .u8))) : (convert src dst v).run P w = .ok (.string (strOfNums xs)) w := by
  obtain ⟨a, cap, rfl, hl, hc, hm, hx⟩ := h.open
  by_cases h0 : n = 0
  · subst h0
    obtain rfl : xs = [] := by simpa using hl
    cases a with
    | none => rw [run_convert_bytes_nil w src e hs he 0 cap dst hd]; rfl
    | some a =>
      rw [run_convert_bytes_string w src dst e _ 0 cap hs he hd, run_bytesToString w _ 0 cap [] (by simpa using run_loadCells_list (P := P) w a [] (fun j v hj => by simp at hj))]
      rfl
  · obtain ⟨b, off, rfl, _, hx⟩ := hx (by omega)
    refine run_convert_bytes_arg w src e hs he b off n cap xs (by simpa using hl) (fun i hi => ?_) dst hd
    have hi' : i < xs.length := by have : xs.length = n * 1 := by simpa using hl
                                   omega
    rw [hx i (.int .u8 (xs.getD i 0))]
    simp [List.getD, hi']
theorem conv_lit {P : Program} (src e : TypeId) (hs : P.underlying src = some (.slice e)) (he : P.underlying e = some (.int .u8)) (dst : TypeId) (hd : P.underlying dst = some .string)
    (w : World) (b : Nat) (hb : b = w.heap.size) (xs : List Int) (n : Nat) (hn : xs.length = n) (hm : n ≤ maxLen) : (convert src dst (.slice (some ⟨b, 0, none⟩) n n)).run P (w.alloc (.cells (xs.map (Value.int .u8)).toArray e)) = .ok (.string (strOfNums xs)) (w.alloc (.cells (xs.map (Value.int .u8)).toArray e)) :=
  conv_reads src e hs he dst hd (Reads.litAt w e 1 n (xs.map (Value.int .u8)) (by simpa using hn) hm b hb)
theorem conv1 {P : Program} {src e : TypeId} (hs : P.underlying src = some (.slice e)) (he : P.underlying e = some (.int .u8)) {dst : TypeId} (hd : P.underlying dst = some .string) (w : World) (x0 : Int) :
    (convert src dst (.slice (some ⟨w.heap.size, 0, none⟩) 1 1)).run P (w.alloc (.cells #[.int .u8 x0] e)) = .ok (.string (strOfNums [x0])) (w.alloc (.cells #[.int .u8 x0] e)) := conv_lit src e hs he dst hd w _ rfl [x0] 1 rfl (by decide)
theorem conv2 {P : Program} {src e : TypeId} (hs : P.underlying src = some (.slice e)) (he : P.underlying e = some (.int .u8)) {dst : TypeId} (hd : P.underlying dst = some .string) (w : World) (x0 x1 : Int) :
    (convert src dst (.slice (some ⟨w.heap.size, 0, none⟩) 2 2)).run P (w.alloc (.cells #[.int .u8 x0, .int .u8 x1] e)) = .ok (.string (strOfNums [x0, x1])) (w.alloc (.cells #[.int .u8 x0, .int .u8 x1] e)) := conv_lit src e hs he dst hd w _ rfl [x0, x1] 2 rfl (by decide)
theorem conv3 {P : Program} {src e : TypeId} (hs : P.underlying src = some (.slice e)) (he : P.underlying e = some (.int .u8)) {dst : TypeId} (hd : P.underlying dst = some .string) (w : World) (x0 x1 x2 : Int) :
    (convert src dst (.slice (some ⟨w.heap.size, 0, none⟩) 3 3)).run P (w.alloc (.cells #[.int .u8 x0, .int .u8 x1, .int .u8 x2] e)) = .ok (.string (strOfNums [x0, x1, x2])) (w.alloc (.cells #[.int .u8 x0, .int .u8 x1, .int .u8 x2] e)) := conv_lit src e hs he dst hd w _ rfl [x0, x1, x2] 3 rfl (by decide)
theorem conv4 {P : Program} {src e : TypeId} (hs : P.underlying src = some (.slice e)) (he : P.underlying e = some (.int .u8)) {dst : TypeId} (hd : P.underlying dst = some .string) (w : World) (x0 x1 x2 x3 : Int) :
    (convert src dst (.slice (some ⟨w.heap.size, 0, none⟩) 4 4)).run P (w.alloc (.cells #[.int .u8 x0, .int .u8 x1, .int .u8 x2, .int .u8 x3] e)) = .ok (.string (strOfNums [x0, x1, x2, x3])) (w.alloc (.cells #[.int .u8 x0, .int .u8 x1, .int .u8 x2, .int .u8 x3] e)) := conv_lit src e hs he dst hd w _ rfl [x0, x1, x2, x3] 4 rfl (by decide)
theorem ret_s {a b : ByteArray} (h : a = b) : Ending.returned (.string a) = Ending.returned (.string b) := by rw [h]
theorem ret_si {k : IntKind} {a b : ByteArray} {c d : Int} (h : a = b) (h' : c = d) : Ending.returned (.tuple #[.string a, .int k c]) = Ending.returned (.tuple #[.string b, .int k d]) := by rw [h, h']
theorem nums_eq {xs : List Int} {l : List UInt8} (h : xs.map (fun n => UInt8.ofNat n.toNat) = l) : strOfNums xs = ⟨l.toArray⟩ := by rw [← h]; rfl
theorem str_append (l m : List UInt8) : (⟨l.toArray⟩ : ByteArray) ++ ⟨m.toArray⟩ = ⟨(l ++ m).toArray⟩ := by
  apply ByteArray.ext
  simp [ByteArray.data_append]

theorem u8_int (x : Int) (n : Nat) (h : x.toNat % 256 = n % 256) : UInt8.ofNat x.toNat = UInt8.ofNat n := by
  apply UInt8.toNat.inj
  simpa using h
theorem nums1 {x0 : Int} {n0 : Nat} (h0 : x0.toNat % 256 = n0 % 256) : [x0].map (fun n => UInt8.ofNat n.toNat) = [UInt8.ofNat n0] := by
  simp only [List.map_cons, List.map_nil, u8_int x0 n0 h0]
theorem nums2 {x0 x1 : Int} {n0 n1 : Nat} (h0 : x0.toNat % 256 = n0 % 256) (h1 : x1.toNat % 256 = n1 % 256) : [x0, x1].map (fun n => UInt8.ofNat n.toNat) = [UInt8.ofNat n0, UInt8.ofNat n1] := by
  simp only [List.map_cons, List.map_nil, u8_int x0 n0 h0, u8_int x1 n1 h1]
theorem nums3 {x0 x1 x2 : Int} {n0 n1 n2 : Nat} (h0 : x0.toNat % 256 = n0 % 256) (h1 : x1.toNat % 256 = n1 % 256) (h2 : x2.toNat % 256 = n2 % 256) : [x0, x1, x2].map (fun n => UInt8.ofNat n.toNat) = [UInt8.ofNat n0, UInt8.ofNat n1, UInt8.ofNat n2] := by
  simp only [List.map_cons, List.map_nil, u8_int x0 n0 h0, u8_int x1 n1 h1, u8_int x2 n2 h2]
theorem nums4 {x0 x1 x2 x3 : Int} {n0 n1 n2 n3 : Nat} (h0 : x0.toNat % 256 = n0 % 256) (h1 : x1.toNat % 256 = n1 % 256) (h2 : x2.toNat % 256 = n2 % 256) (h3 : x3.toNat % 256 = n3 % 256) : [x0, x1, x2, x3].map (fun n => UInt8.ofNat n.toNat) = [UInt8.ofNat n0, UInt8.ofNat n1, UInt8.ofNat n2, UInt8.ofNat n3] := by
  simp only [List.map_cons, List.map_nil, u8_int x0 n0 h0, u8_int x1 n1 h1, u8_int x2 n2 h2, u8_int x3 n3 h3]

theorem wrap_small (x : Nat) (h : x < 9223372036854775808) : IntKind.i64.wrap (x : Int) = x := by
  simp [IntKind.wrap, IntKind.bits, IntKind.signed]
  omega
theorem i64_or_nat (a b : Nat) (ha : a < 9223372036854775808) (hb : b < 9223372036854775808) : Go.bits .or .i64 (a : Int) (b : Int) = ((a ||| b : Nat) : Int) := by
  have hx : a ||| b < 2 ^ 63 := Nat.or_lt_two_pow (by omega) (by omega)
  show IntKind.i64.wrap ((BitVec.ofInt 64 (a : Int) ||| BitVec.ofInt 64 (b : Int)).toNat : Int) = _
  rw [BitVec.toNat_or, ofInt_u64 a (by omega), ofInt_u64 b (by omega), wrap_small _ (by omega)]
theorem i64_and_nat (a b : Nat) (ha : a < 9223372036854775808) (hb : b < 9223372036854775808) : Go.bits .and .i64 (a : Int) (b : Int) = ((a &&& b : Nat) : Int) := by
  have hx : a &&& b < 2 ^ 63 := Nat.and_lt_two_pow _ (by omega)
  show IntKind.i64.wrap ((BitVec.ofInt 64 (a : Int) &&& BitVec.ofInt 64 (b : Int)).toNat : Int) = _
  rw [BitVec.toNat_and, ofInt_u64 a (by omega), ofInt_u64 b (by omega), wrap_small _ (by omega)]
theorem i64_xor_nat (a b : Nat) (ha : a < 9223372036854775808) (hb : b < 9223372036854775808) : Go.bits .xor .i64 (a : Int) (b : Int) = ((a ^^^ b : Nat) : Int) := by
  have hx : a ^^^ b < 2 ^ 63 := Nat.xor_lt_two_pow (by omega) (by omega)
  show IntKind.i64.wrap ((BitVec.ofInt 64 (a : Int) ^^^ BitVec.ofInt 64 (b : Int)).toNat : Int) = _
  rw [BitVec.toNat_xor, ofInt_u64 a (by omega), ofInt_u64 b (by omega), wrap_small _ (by omega)]
/-- bits that do not meet: 'or' is a sum -/
theorem or_add (x y i : Nat) (hx : x < 2 ^ i) : x ||| y * 2 ^ i = x + y * 2 ^ i := by
  rw [Nat.or_comm, nat_join i (y * 2 ^ i) x (Nat.mul_mod_left _ _) hx, Nat.add_comm]

theorem toList_isEmpty (d : ByteArray) : d.toList.isEmpty = decide (d.size = 0) := by
  rw [Bool.eq_iff_iff]
  have h : d.toList = d.data.toList := ByteArray.toList_eq d
  rw [h]
  have : d.size = d.data.toList.length := by simp
  rw [this]
  cases d.data.toList <;> simp
theorem toList_nil (d : ByteArray) : (d.toList = []) = (d.size = 0) := by
  have h := toList_isEmpty d
  apply propext
  rw [← List.isEmpty_iff, h]
  simp
theorem below_drewN (w : World) (n B : Nat) : Below B w (w.drewN n) := ⟨rfl, rfl, rfl, Nat.le_refl _, fun _ _ => rfl⟩
def I64 (x : Int) : Prop := -9223372036854775808 ≤ x ∧ x ≤ 9223372036854775807
theorem i64_of {x : Int} (h : (Lit.int .i64 x).wf = true) : I64 x := by
  unfold I64
  simpa [Lit.wf, IntKind.min, IntKind.max, IntKind.signed, IntKind.bits] using h
theorem ret_i {k : IntKind} {a b : Int} (h : a = b) : Ending.returned (.int k a) = Ending.returned (.int k b) := by rw [h]
theorem ret_b {a b : Bool} (h : a = b) : Ending.returned (.bool a) = Ending.returned (.bool b) := by rw [h]
theorem ret_ii {k l : IntKind} {a b c d : Int} (h : a = b) (h' : c = d) : Ending.returned (.tuple #[.int k a, .int l c]) = Ending.returned (.tuple #[.int k b, .int l d]) := by rw [h, h']
theorem quiet_same {P : Program} {f : FuncId} {args : Array Value} {w : World} {n : Nat} {v : Value}
    (h : Calls P f args (w.drewN n) fun e w' => e = .returned v ∧ w.drewN n = w') : Calls P f args (w.drewN n) fun e w'' => e = .returned v ∧ ∃ m, w'' = w.drewN m :=
  h.mono fun _ _ ⟨he, hm⟩ => ⟨he, n, hm.symm⟩
end Go.Proofs.Ytkhfbleldchnpaa
