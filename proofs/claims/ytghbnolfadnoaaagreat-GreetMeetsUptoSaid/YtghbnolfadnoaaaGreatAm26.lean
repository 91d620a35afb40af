/- A machine of values, part 22: what is handed in, as data. -/
import Derived.Test.YtghbnolfadnoaaaGreatAm25
import Derived.Test.YtghbnolfadnoaaaGreatRows
import Derived.ProofKit
import Derived.OpenShut
import Derived.Deep.Slices
import Derived.ChangeOld
namespace Go.Proofs.YtghbnolfadnoaaaGreat
open Go Go.RowKit Go.ChangeShapes Go.WideShapes Go.ChangeAt
set_option linter.unusedVariables false
def Sh.good : (s : Sh) → s.T → Prop
 | .int k, x => (Lit.int k x).wf = true
 | .bool, _ => True
 | .str, x => x.length ≤ maxLen
 | .unit, _ => True
 | .pair a b, x => a.good x.1 ∧ b.good x.2
 | .st a, x => a.good x
 | .arr n a, x => x.length = n ∧ ∀ y ∈ x, a.good y
 | .sl a, x => x.length ≤ maxLen ∧ ∀ y ∈ x, a.good y
def sumL {α : Type} (f : α → Nat) : List α → Nat
 | [] => 0
 | x :: l => f x + sumL f l
def Sh.bulk : (s : Sh) → s.T → Nat
 | .int _, _ => 1
 | .bool, _ => 1
 | .str, x => x.length + 1
 | .unit, _ => 0
 | .pair a b, x => a.bulk x.1 + b.bulk x.2
 | .st a, x => a.bulk x + 1
 | .arr n a, x => sumL a.bulk x + 1
 | .sl a, x => sumL a.bulk x + 1
def upTo (o m : Nat) : Nat := (o + m - 1) / m * m
def Sh.la : Sh → Nat → Nat × Nat
 | .int k, o => (upTo o (k.bits / 8) + k.bits / 8, k.bits / 8)
 | .bool, o => (o + 1, 1)
 | .str, o => (upTo o 8 + 16, 8)
 | .unit, o => (o, 1)
 | .pair a b, o => ((b.la (a.la o).1).1, max (a.la o).2 (b.la (a.la o).1).2)
 | .st a, o => (upTo o (a.la 0).2 + upTo (a.la 0).1 (a.la 0).2, (a.la 0).2)
 | .arr n a, o => (upTo o (a.la 0).2 + n * (a.la 0).1, (a.la 0).2)
 | .sl _, o => (upTo o 8 + 24, 8)
def Sh.by (s : Sh) : Nat := (s.la 0).1
def Sh.rch : (s : Sh) → s.T → Prop
 | .int _, _ => True
 | .bool, _ => True
 | .str, x => x.length ≤ 140737488351232
 | .unit, _ => True
 | .pair a b, x => a.rch x.1 ∧ b.rch x.2
 | .st a, x => a.rch x
 | .arr _ a, x => ∀ y ∈ x, a.rch y
 | .sl a, x => x.length * a.by ≤ 140737488351232 ∧ ∀ y ∈ x, a.rch y
abbrev allR (l : List Nat) : Prop := l.all (· ≤ reachBytes) = true
theorem allR_app {a b : List Nat} (h : allR (a ++ b)) : allR a ∧ allR b := by
 unfold allR at *
 rw [List.all_append, Bool.and_eq_true] at h
 exact h
theorem allR_at {H : Type} {P : Program} {e : TypeId} : ∀ {l : List (DataW H)}, allR (DataW.weightsAll P e l) → ∀ d ∈ l, allR (DataW.weights P e d)
 | [], _, d, hd => by simp at hd
 | x :: l, h, d, hd => by
  rw [DataW.weightsAll] at h
  obtain ⟨h1, h2⟩ := allR_app h
  rcases List.mem_cons.1 hd with rfl | hd
  ·exact h1
  ·exact allR_at h2 d hd
theorem sumL_le {H α : Type} (f : α → Nat) : ∀ (l : List α) (ds : List (DataW H)), l.length = ds.length → (∀ (i : Nat) (x : α) (d : DataW H), l[i]? = some x → ds[i]? = some d → f x ≤ Rows.uptoBulk d) → sumL f l ≤ Rows.uptoBulkAll ds
 | [], [], _, _ => Nat.le_refl _
 | x :: l, d :: ds, hl, h => by
  have h0 := h 0 x d rfl rfl
  have h1 := sumL_le f l ds (by simpa using hl) (fun i x d hx hd => h (i + 1) x d (by simpa using hx) (by simpa using hd))
  simp only [sumL, Rows.uptoBulkAll]
  omega
mutual
def tyOk (P : Program) : Nat → TypeId → Sh → Bool
 | 0, _, _ => false
 | n + 1, t, .int k => (match P.underlying t with | some (.int q) => q == k | _ => false)
 | n + 1, t, .bool => (match P.underlying t with | some .bool => true | _ => false)
 | n + 1, t, .str => (match P.underlying t with | some .string => true | _ => false)
 | n + 1, t, .arr m a => (match P.underlying t with | some (.array q e) => q == m && (tyOk P n e a && (P.cellsOf e == a.size && P.cellsOf t == m * a.size)) | _ => false)
 | n + 1, t, .sl a => (match P.underlying t with | some (.slice e) => tyOk P n e a && (P.cellsOf e == a.size && (decide (0 < a.size) && P.bytesOf e == a.by)) | _ => false)
 | n + 1, t, .st a => (match P.underlying t with | some (.struct fs) => fldsOk P n fs.toList a 0 && P.cellsOf t == a.size | _ => false)
 | _ + 1, _, _ => false
def fldsOk (P : Program) : Nat → List Field → Sh → Nat → Bool
 | 0, _, _, _ => false
 | n + 1, [], .unit, _ => true
 | n + 1, [f], s, off => f.offset == off && (tyOk P n f.type s && P.cellsOf f.type == s.size)
 | n + 1, f :: g :: l, .pair a b, off => f.offset == off && (tyOk P n f.type a && (P.cellsOf f.type == a.size && fldsOk P n (g :: l) b (off + a.size)))
 | _, _, _, _ => false
end
abbrev old (w : World) : Nat → Prop := fun b => b < w.heap.size
theorem data_arr {P : Program} {e : TypeId} (a : Sh) {H : Type} {enc : TypeId × Value → H} {w : World} {base : Nat} {spare : Nat → Bool} {held : Bool} {m : Nat}
  (IH : ∀ (cs : List Value) (x : DataW H × List MemPlace), DataW.trod enc P w base spare held m e cs = some x → ∃ d : a.T, ShR w (old w) a d cs ∧ a.good d ∧ a.bulk d ≤ Rows.uptoBulk x.1 ∧ (allR (DataW.weights P e x.1) → a.rch d)) :
  ∀ (n : Nat) (cs : List Value) (xs : List (DataW H × List MemPlace)), xs.length = n → cs.length = n * a.size →
  (∀ i : Nat, i < n → DataW.trod enc P w base spare held m e ((cs.drop (i * a.size)).take a.size) = xs[i]?) → ∃ l : List a.T, l.length = n ∧ CatR (ShR w (old w) a) l cs ∧ (∀ y ∈ l, a.good y) ∧ sumL a.bulk l ≤ Rows.uptoBulkAll (xs.map (·.1)) ∧ (allR (DataW.weightsAll P e (xs.map (·.1))) → ∀ y ∈ l, a.rch y)
 | 0, cs, xs, hx, hc, _ => ⟨[], rfl, List.length_eq_zero_iff.1 (by omega), fun _ h => by simp at h, Nat.zero_le _, fun _ _ h => by simp at h⟩
 | n + 1, cs, xs, hx, hc, hf => by
  match xs, hx with
  | x :: xs, hx =>
   have h0 := hf 0 (by omega)
   simp only [Nat.zero_mul, List.drop_zero] at h0
   obtain ⟨d, hd, hg, hb, hr⟩ := IH _ x (h0.trans rfl)
   obtain ⟨l, hl, hl2, hl3, hl4, hl5⟩ := data_arr a IH n (cs.drop a.size) xs (by simpa using hx) (by rw [List.length_drop, hc, Nat.succ_mul]; omega) (fun i hi => by
    have := hf (i + 1) (by omega)
    rw [List.drop_drop]
    rw [Nat.succ_mul, Nat.add_comm] at this
    simpa using this)
   refine ⟨d :: l, by simp [hl], ⟨_, _, (List.take_append_drop a.size cs).symm, hd, hl2⟩, fun y hy => ?_, ?_, fun h y hy => ?_⟩
   ·rcases List.mem_cons.1 hy with rfl | hy
    ·exact hg
    ·exact hl3 y hy
   ·simp only [List.map_cons, Rows.uptoBulkAll, sumL]
    omega
   ·rw [List.map_cons, DataW.weightsAll] at h
    obtain ⟨h1, h2⟩ := allR_app h
    rcases List.mem_cons.1 hy with rfl | hy
    ·exact hr h1
    ·exact hl5 h2 y hy
theorem catR_of {α : Type} {R : α → List Value → Prop} {k : Nat} (hk : ∀ x c, R x c → c.length = k) {rd : Nat → Option Value} : ∀ (l : List α) (o : Nat), (∀ i x, l[i]? = some x → ∃ c, R x c ∧ ∀ j, j < k → rd (o + i * k + j) = c[j]?) → ∃ cells, CatR R l cells ∧ ∀ i v, cells[i]? = some v → rd (o + i) = some v
 | [], o, _ => ⟨[], rfl, fun i v h => by simp at h⟩
 | x :: l, o, h => by
  obtain ⟨c, h1, h2⟩ := h 0 x rfl
  obtain ⟨cells, h3, h4⟩ := catR_of hk l (o + k) (fun i y hy => by
   obtain ⟨c', g1, g2⟩ := h (i + 1) y (by simpa using hy)
   refine ⟨c', g1, fun j hj => ?_⟩
   rw [← g2 j hj, Nat.succ_mul]
   congr 1; omega)
  have hl := hk _ _ h1
  refine ⟨c ++ cells, ⟨c, cells, rfl, h1, h3⟩, fun i v hi => ?_⟩
  rcases Nat.lt_or_ge i c.length with hlt | hge
  ·rw [List.getElem?_append_left hlt] at hi
   have := h2 i (by omega)
   rw [hi] at this
   simpa using this
  ·rw [List.getElem?_append_right hge] at hi
   have := h4 (i - c.length) v hi
   rw [← this]
   congr 1; omega
mutual
theorem data_ok {P : Program} {H : Type} {enc : TypeId × Value → H} {w : World} {base : Nat} {spare : Nat → Bool} {held : Bool} : ∀ (n : Nat) (T : TypeId) (s : Sh) (fuel : Nat) (cs : List Value) (x : DataW H × List MemPlace), tyOk P n T s = true → DataW.trod enc P w base spare held fuel T cs = some x →
  ∃ a : s.T, ShR w (old w) s a cs ∧ s.good a ∧ s.bulk a ≤ Rows.uptoBulk x.1 ∧ (allR (DataW.weights P T x.1) → s.rch a)
 | 0, T, s, fuel, cs, x, h, ht => by cases s <;> simp [tyOk] at h
 | n + 1, T, .int k, fuel, cs, x, h, ht => by
  simp only [tyOk] at h
  split at h
  ·rename_i q hu
   have : q = k := by simpa using h
   subst this
   obtain ⟨a, rfl, rfl, hw⟩ := DataW.trod_int hu ht
   exact ⟨a, rfl, hw, by simp [Rows.uptoBulk, Sh.bulk], fun _ => trivial⟩
  ·cases h
 | n + 1, T, .bool, fuel, cs, x, h, ht => by
  simp only [tyOk] at h
  split at h
  ·rename_i hu
   obtain ⟨a, rfl, rfl⟩ := DataW.trod_bool hu ht
   exact ⟨a, rfl, trivial, by simp [Rows.uptoBulk, Sh.bulk], fun _ => trivial⟩
  ·cases h
 | n + 1, T, .str, fuel, cs, x, h, ht => by
  simp only [tyOk] at h
  split at h
  ·rename_i hu
   obtain ⟨a, rfl, rfl, hw⟩ := DataW.trod_string hu ht
   refine ⟨a.data.toList, ?_, (by show a.data.toList.length ≤ maxLen; rw [Array.length_toList]; exact hw), ?_, fun h => ?_⟩
   ·show [Value.string a] = [Value.string ⟨a.data.toList.toArray⟩]
    simp
   ·simp [Rows.uptoBulk, Sh.bulk]
   ·show a.data.toList.length ≤ reachBytes
    exact of_decide_eq_true (List.all_eq_true.1 h a.data.toList.length (by simp [DataW.weights]))
  ·cases h
 | n + 1, T, .unit, fuel, cs, x, h, ht => by simp [tyOk] at h
 | n + 1, T, .pair a b, fuel, cs, x, h, ht => by simp [tyOk] at h
 | n + 1, T, .st a, fuel, cs, x, h, ht => by
  simp only [tyOk] at h
  split at h
  ·rename_i fs hu
   simp only [Bool.and_eq_true, beq_iff_eq] at h
   obtain ⟨xs, m, rfl, rfl, hl, hx, hf⟩ := DataW.trod_struct hu ht
   obtain ⟨d, h1, h2, h3, h4⟩ := fields_ok n fs.toList a 0 m cs xs h.1 (by rw [List.drop_zero, hl, h.2]) (by simpa using hx) (fun i f hi => hf i f (by simpa using hi))
   refine ⟨d, h1, h2, ?_, fun hr => ?_⟩
   ·simp only [Rows.uptoBulk, Sh.bulk]
    omega
   ·rw [DataW.weights, hu] at hr
    exact h4 hr
  ·cases h
 | n + 1, T, .arr k a, fuel, cs, x, h, ht => by
  simp only [tyOk] at h
  split at h
  ·rename_i q e hu
   simp only [Bool.and_eq_true, beq_iff_eq] at h
   obtain ⟨rfl, he, hz, hz2⟩ := h
   obtain ⟨xs, m, rfl, rfl, hl, hx, hf⟩ := DataW.trod_array hu ht
   rw [hz2] at hl
   rw [hz] at hf
   obtain ⟨l, h1, h2, h3, h4, h5⟩ := data_arr a (fun cs x hx => data_ok n e a m cs x he hx) q cs xs hx hl hf
   refine ⟨l, ⟨h1, h2⟩, ⟨h1, h3⟩, ?_, fun hr => ?_⟩
   ·simp only [Rows.uptoBulk, Sh.bulk]
    omega
   ·rw [DataW.weights, hu] at hr
    exact h5 hr
  ·cases h
 | n + 1, T, .sl a, fuel, cs, x, h, ht => by
  simp only [tyOk] at h
  split at h
  ·rename_i e hu
   simp only [Bool.and_eq_true, beq_iff_eq, decide_eq_true_eq] at h
   obtain ⟨he, hz, hz0, hby⟩ := h
   rcases Deep.open_slice hu ht with ⟨rfl, rfl⟩ | ⟨ad, len, cap, m, f, D, Pl, rfl, hb, hl, hm, hmm, rfl, hel⟩
   ·exact ⟨[], ⟨none, 0, rfl, Nat.le_refl _, Nat.zero_le _, fun h => absurd h (by simp)⟩, ⟨Nat.zero_le _, fun _ h => by simp at h⟩, by simp [sumL, Sh.bulk, Rows.uptoBulk], fun _ => ⟨by simp, fun _ h => by simp at h⟩⟩
   ·rw [hz] at hel
    have hlm : len ≤ m := by rw [hmm]; split <;> omega
    have each : ∀ i, i < len → ∃ (y : a.T) (c : List Value), ShR w (old w) a y c ∧ a.good y ∧ (a.bulk y ≤ Rows.uptoBulk (D i) ∧ (allR (DataW.weights P e (D i)) → a.rch y)) ∧ w.cells? base (ad.add (i * a.size)) a.size = some c := fun i hi => by
     obtain ⟨c, hc, ht⟩ := hel i (by omega)
     obtain ⟨y, hy, hg, hby', hrr⟩ := data_ok n e a _ c _ he ht
     exact ⟨y, c, hy, hg, ⟨hby', hrr⟩, hc⟩
    obtain ⟨l, hll, hlx⟩ : ∃ l : List a.T, l.length = len ∧ ∀ i y, l[i]? = some y → ∃ c, ShR w (old w) a y c ∧ a.good y ∧ (a.bulk y ≤ Rows.uptoBulk (D i) ∧ (allR (DataW.weights P e (D i)) → a.rch y)) ∧ w.cells? base (ad.add (i * a.size)) a.size = some c := by
     have main : ∀ q, q ≤ len → ∃ l : List a.T, l.length = q ∧ ∀ i y, l[i]? = some y → ∃ c, ShR w (old w) a y c ∧ a.good y ∧ (a.bulk y ≤ Rows.uptoBulk (D i) ∧ (allR (DataW.weights P e (D i)) → a.rch y)) ∧ w.cells? base (ad.add (i * a.size)) a.size = some c := by
      intro q
      induction q with
      | zero => intro _; exact ⟨[], rfl, fun i x hx => by simp at hx⟩
      | succ q ih =>
       intro hq
       obtain ⟨l, h1, h2⟩ := ih (by omega)
       obtain ⟨x, c, h3⟩ := each q (by omega)
       refine ⟨l ++ [x], by simp [h1], fun i y hy => ?_⟩
       rcases Nat.lt_or_ge i q with hi | hi
       ·rw [List.getElem?_append_left (by omega)] at hy
        exact h2 i y hy
       ·rw [List.getElem?_append_right (by omega)] at hy
        have hz : i - l.length = 0 := by
         rcases Nat.eq_zero_or_pos (i - l.length) with h | h
         ·exact h
         ·rw [List.getElem?_eq_none (by simp; omega)] at hy; cases hy
        rw [hz] at hy
        simp at hy
        subst hy
        obtain rfl : i = q := by omega
        exact ⟨c, h3⟩
     exact main len (Nat.le_refl _)
    subst hll
    refine ⟨l, ⟨some ad, cap, rfl, hl, hm, fun h0 => ?_⟩, ⟨Nat.le_trans hl hm, fun y hy => ?_⟩, ?_, fun hr => ?_⟩
    ·obtain ⟨b, off, spot⟩ := ad
     have hspot : spot = none := by
      obtain ⟨c, _, _, _, hc⟩ := hlx 0 _ (List.getElem?_eq_getElem h0)
      have hc' := (World.cells?_some hc).2.2 0 hz0
      have hlen := (World.cells?_some hc).2.1
      have hs : ∃ v, c[0]? = some v := ⟨_, List.getElem?_eq_getElem (by omega)⟩
      obtain ⟨v, hv⟩ := hs
      rw [hv] at hc'
      have := World.cell?_spot hc'
      simpa [Addr.add] using this
     subst hspot
     have hlt : b < w.heap.size := by
      obtain ⟨c, _, _, _, hc⟩ := hlx 0 _ (List.getElem?_eq_getElem h0)
      have := World.cells?_block hc hz0
      rw [addr_add'] at this
      exact this
     obtain ⟨cells, h1, h2⟩ := catR_of (R := ShR w (old w) a) (k := a.size) (fun x c h => ShR.length a x c h) (rd := fun i => w.cell? ⟨b, i, none⟩) l off (fun i y hy => by
      obtain ⟨c, g1, _, _, g4⟩ := hlx i y hy
      obtain ⟨_, h5, h6⟩ := World.cells?_some g4
      refine ⟨c, g1, fun j hj => ?_⟩
      have := h6 j hj
      rw [addr_add', addr_add'] at this
      exact this)
     exact ⟨b, off, cells, rfl, hlt, hlt, h1, h2⟩
    ·obtain ⟨i, hi⟩ := List.getElem?_of_mem hy
     obtain ⟨_, _, h2, _⟩ := hlx i y hi
     exact h2
    ·simp only [Rows.uptoBulk, Sh.bulk]
     have := sumL_le a.bulk l ((List.range l.length).map D) (by simp) (fun i x d hx hd => by
      obtain ⟨c, _, _, h2, _⟩ := hlx i x hx
      have hi : i < l.length := by rcases List.getElem?_eq_some_iff.1 hx with ⟨hlt, _⟩; exact hlt
      rw [List.getElem?_map, List.getElem?_range hi] at hd
      simp at hd
      subst hd
      exact h2.1)
     omega
    ·rw [DataW.weights, hu] at hr
     have hr' : allR (_ :: _) := hr
     unfold allR at hr'
     rw [List.all_cons, Bool.and_eq_true, List.all_append, Bool.and_eq_true] at hr'
     obtain ⟨hw, hw2, _⟩ := hr'
     have hw := of_decide_eq_true hw
     rw [hby] at hw
     refine ⟨?_, fun y hy => ?_⟩
     ·have hlm' : l.length * a.by ≤ ((List.range l.length).map D).length * a.by := by simp
      refine Nat.le_trans (Nat.le_trans hlm' (Nat.mul_le_mul_right _ ?_)) hw
      simp
     ·obtain ⟨i, hi⟩ := List.getElem?_of_mem hy
      obtain ⟨_, _, _, h2, _⟩ := hlx i y hi
      have hlt : i < l.length := by rcases List.getElem?_eq_some_iff.1 hi with ⟨hlt, _⟩; exact hlt
      exact h2.2 (allR_at hw2 (D i) (List.mem_map.2 ⟨i, List.mem_range.2 hlt, rfl⟩))
  ·cases h
theorem fields_ok {P : Program} {H : Type} {enc : TypeId × Value → H} {w : World} {base : Nat} {spare : Nat → Bool} {held : Bool} : ∀ (n : Nat) (fs : List Field) (s : Sh) (off : Nat) (m : Nat) (cs : List Value) (xs : List (DataW H × List MemPlace)), fldsOk P n fs s off = true → (cs.drop off).length = s.size → xs.length = fs.length →
  (∀ (i : Nat) (f : Field), fs[i]? = some f → DataW.trod enc P w base spare held m f.type ((cs.drop f.offset).take (P.cellsOf f.type)) = xs[i]?) → ∃ a : s.T, ShR w (old w) s a (cs.drop off) ∧ s.good a ∧ s.bulk a ≤ Rows.uptoBulkAll (xs.map (·.1)) ∧ (allR (DataW.weightsEach P (fs.map (·.type)) (xs.map (·.1))) → s.rch a)
 | 0, fs, s, off, m, cs, xs, h, hl, hx, hf => by simp [fldsOk] at h
 | n + 1, [], s, off, m, cs, xs, h, hl, hx, hf => by
  cases s <;> simp [fldsOk] at h
  exact ⟨(), List.length_eq_zero_iff.1 hl, trivial, Nat.zero_le _, fun _ => trivial⟩
 | n + 1, [f], s, off, m, cs, xs, h, hl, hx, hf => by
  simp only [fldsOk, Bool.and_eq_true, beq_iff_eq] at h
  obtain ⟨rfl, ht, hz⟩ := h
  match xs, hx with
  | [x], _ =>
   have h0 := hf 0 f rfl
   rw [List.take_of_length_le (by rw [hl, hz]; exact Nat.le_refl _)] at h0
   obtain ⟨a, h1, h2, h3, h4⟩ := data_ok n f.type s m _ x ht (h0.trans rfl)
   exact ⟨a, h1, h2, by simpa [Rows.uptoBulkAll] using h3, fun hr => h4 (by simpa [DataW.weightsEach] using hr)⟩
 | n + 1, f :: g :: l, s, off, m, cs, xs, h, hl, hx, hf => by
  cases s with
  | pair a b =>
   simp only [fldsOk, Bool.and_eq_true, beq_iff_eq] at h
   obtain ⟨rfl, ht, hz, hr⟩ := h
   match xs, hx with
   | x :: xs, hx =>
    have h0 := hf 0 f rfl
    obtain ⟨d1, h1, h2, h3, h4⟩ := data_ok n f.type a m _ x ht (h0.trans rfl)
    have hl' : (cs.drop f.offset).length = a.size + b.size := hl
    obtain ⟨d2, g1, g2, g3, g4⟩ := fields_ok n (g :: l) b (f.offset + a.size) m cs xs hr (by rw [← List.drop_drop, List.length_drop, hl']; omega) (by simpa using hx) (fun i f' hi => hf (i + 1) f' (by simpa using hi))
    refine ⟨(d1, d2), ⟨(cs.drop f.offset).take (P.cellsOf f.type), cs.drop (f.offset + a.size), ?_, h1, g1⟩, ⟨h2, g2⟩, ?_, fun hr => ?_⟩
    ·rw [hz, ← List.drop_drop, List.take_append_drop]
    ·simp only [List.map_cons, Rows.uptoBulkAll, Sh.bulk]
     omega
    ·have hr' : allR (DataW.weights P f.type x.1 ++ DataW.weightsEach P ((g :: l).map (·.type)) (xs.map (·.1))) := by simpa only [List.map_cons, DataW.weightsEach] using hr
     obtain ⟨q1, q2⟩ := allR_app hr'
     exact ⟨h4 q1, g4 q2⟩
  | _ => simp [fldsOk] at h
end
theorem arg_ok {P : Program} {H : Type} {enc : TypeId × Value → H} {w : World} {base b0 : Nat} {spare : Nat → Bool} {held : Bool} {r : Reach} {n : Nat} {T : TypeId} (s : Sh) {v : Value} {d : DataW H} {pl : List MemPlace} (hs : tyOk P n T s = true)
  (hv : Value.okWide P w r b0 T v) (ht : DataW.Trod enc P w base spare held T v d pl) : ∃ a : s.T, ValR0 w (G0 (old w)) (s.av a) v ∧ s.good a ∧ s.bulk a ≤ Rows.uptoBulk d ∧ (allR (DataW.weights P T d) → s.rch a) := by
 obtain ⟨fuel, ht⟩ := ht
 obtain ⟨a, h1, h2, h3, h4⟩ := data_ok n T s fuel _ _ hs ht
 refine ⟨a, ?_, h2, h3, h4⟩
 cases n with
 | zero => cases s <;> simp [tyOk] at hs
 | succ n =>
 cases s with
 | int k =>
  simp only [tyOk] at hs
  split at hs
  ·rename_i q hu
   obtain ⟨z, rfl⟩ := okWide_int hu hv
   exact h1
  ·cases hs
 | bool =>
  simp only [tyOk] at hs
  split at hs
  ·rename_i hu
   obtain ⟨z, rfl⟩ := okWide_bool hu hv
   exact h1
  ·cases hs
 | str =>
  simp only [tyOk] at hs
  split at hs
  ·rename_i hu
   obtain ⟨z, rfl⟩ := okWide_string hu hv
   exact h1
  ·cases hs
 | unit => simp [tyOk] at hs
 | pair a b => simp [tyOk] at hs
 | st a0 =>
  simp only [tyOk] at hs
  split at hs
  ·rename_i fs hu
   obtain ⟨cs, rfl, _⟩ := okWide_struct hu hv
   have e : (Value.agg cs).cells.toList = cs.toList := by simp [Value.cells]
   rw [e] at h1
   exact ⟨cs, rfl, (CellsR.av a0 a _).2 h1⟩
  ·cases hs
 | arr m a0 =>
  simp only [tyOk] at hs
  split at hs
  ·rename_i q e hu
   unfold Value.okWide at hv
   simp only [hu] at hv
   obtain ⟨cs, rfl, _⟩ := hv
   have e : (Value.agg cs).cells.toList = cs.toList := by simp [Value.cells]
   rw [e] at h1
   exact ⟨cs, rfl, h1⟩
  ·cases hs
 | sl a0 =>
  simp only [tyOk] at hs
  split at hs
  ·rename_i e hu
   obtain ⟨x, y, z, rfl⟩ := okWide_slice hu hv
   exact h1
  ·cases hs
theorem Bs.of {w : World} (h : ∃ m, w.cell? ⟨0, 0, none⟩ = some (.int .i64 m)) (ht : TabB w.heap.size w := by intro h; cases h) : Bs w.heap.size w := by
 refine ⟨Nat.le_refl _, fun _ => ⟨⟨?_, ht⟩, h⟩⟩
 obtain ⟨m, hm⟩ := h
 rcases Nat.lt_or_ge 0 w.heap.size with h0 | h0
 ·exact h0
 ·simp [World.cell?, Array.getElem?_eq_none h0] at hm
theorem Bs.free (w : World) (h : GI = false) : Bs w.heap.size w := ⟨Nat.le_refl _, fun hg => by rw [h] at hg; cases hg⟩
theorem law_walk {P : Program} {f : Nat} {args : List AV} {w : World} {vs : List Value} (h : PureC P f args (.bool true) []) (hb : Bs w.heap.size w) (ha : ArgsR w (G0 (old w)) args vs) :
  Calls P f vs.toArray w fun e w' => e = .returned (.bool true) ∧ Below w.heap.size w w' :=
 (h w (old w) vs ⟨fun _ h => h, hb⟩ ha).mono fun e w' ⟨v, G', he, hN, hv⟩ => ⟨by rw [he, val_bool hv], hN.below⟩
end Go.Proofs.YtghbnolfadnoaaaGreat
namespace Go.Proofs.YtghbnolfadnoaaaGreat
open Go Go.RowKit
set_option linter.unusedVariables false
theorem w64 {n : Int} (h1 : -9223372036854775808 ≤ n) (h2 : n ≤ 9223372036854775807) : IntKind.wrap .i64 n = n := by
 have e : IntKind.wrap .i64 n = if n % 18446744073709551616 ≥ 9223372036854775808 then n % 18446744073709551616 - 18446744073709551616 else n % 18446744073709551616 := by
  simp [IntKind.wrap, IntKind.bits, IntKind.signed]
 rw [e]
 split <;> omega
theorem loopF_post {D R : Type} (body : (D → Option R) → D → Option R) (I : D → Prop) (Q : D → R → Prop) (μ : D → Nat)
  (h : ∀ k d, I d → (∀ d', I d' → μ d' < μ d → ∃ r, k d' = some r ∧ Q d' r) → ∃ r, body k d = some r ∧ Q d r) : ∀ n d, I d → μ d < n → ∃ r, loopF body n d = some r ∧ Q d r
 | 0, d, _, hm => by omega
 | n + 1, d, hd, hm => h (loopF body n) d hd fun d' hd' hm' => loopF_post body I Q μ h n d' hd' (by omega)
theorem inb_true {i : Int} {n : Nat} (h1 : 0 ≤ i) (h2 : i < n) : inb i n = true := by
 unfold inb
 simp [h1, h2]
theorem loopF_eq {D R : Type} (body : (D → Option R) → D → Option R) (V : D → Option R) (I : D → Prop) (μ : D → Nat) (h : ∀ k d, I d → (∀ d', I d' → μ d' < μ d → k d' = V d') → body k d = V d) : ∀ n d, I d → μ d < n → loopF body n d = V d
 | 0, d, _, hm => by omega
 | n + 1, d, hd, hm => h (loopF body n) d hd fun d' hd' hm' => loopF_eq body V I μ h n d' hd' (by omega)
theorem bv64 (x : Nat) (h : x < 18446744073709551616) : (BitVec.ofInt 64 (x : Int)).toNat = x := by
 rw [BitVec.toNat_ofInt]
 omega
theorem w64n (x : Nat) (h : x < 9223372036854775808) : IntKind.i64.wrap (x : Int) = x := w64 (by omega) (by omega)
theorem u8w (x : Int) : IntKind.wrap .u8 x = x % 256 := by
 have e : IntKind.wrap .u8 x = if IntKind.u8.signed = true ∧ x % 256 ≥ 128 then x % 256 - 256 else x % 256 := by simp [IntKind.wrap, IntKind.bits, IntKind.signed]
 rw [e, if_neg (by simp [IntKind.signed])]
theorem u64w (x : Int) : IntKind.wrap .u64 x = x % 18446744073709551616 := by
 simp [IntKind.wrap, IntKind.bits, IntKind.signed]
theorem bOr (a b : Nat) (ha : a < 9223372036854775808) (hb : b < 9223372036854775808) : bitsI .or .i64 (a : Int) (b : Int) = ((a ||| b : Nat) : Int) := by
 have hx : a ||| b < 2 ^ 63 := Nat.or_lt_two_pow (by omega) (by omega)
 show IntKind.i64.wrap ((BitVec.ofInt 64 (a : Int) ||| BitVec.ofInt 64 (b : Int)).toNat : Int) = _
 rw [BitVec.toNat_or, bv64 a (by omega), bv64 b (by omega), w64n _ (by omega)]
theorem bAnd (a b : Nat) (ha : a < 9223372036854775808) (hb : b < 9223372036854775808) : bitsI .and .i64 (a : Int) (b : Int) = ((a &&& b : Nat) : Int) := by
 have hx : a &&& b < 2 ^ 63 := Nat.and_lt_two_pow _ (by omega)
 show IntKind.i64.wrap ((BitVec.ofInt 64 (a : Int) &&& BitVec.ofInt 64 (b : Int)).toNat : Int) = _
 rw [BitVec.toNat_and, bv64 a (by omega), bv64 b (by omega), w64n _ (by omega)]
theorem nat_or_add (x y i : Nat) (hx : x < 2 ^ i) : x ||| y * 2 ^ i = x + y * 2 ^ i := by
 rw [Nat.or_comm, ← Nat.shiftLeft_eq, ← Nat.shiftLeft_add_eq_or_of_lt hx, Nat.add_comm]
theorem bOrAdd (x y i : Nat) (hx : x < 2 ^ i) (h : x + y * 2 ^ i < 9223372036854775808) : bitsI .or .i64 (x : Int) ((y * 2 ^ i : Nat) : Int) = ((x + y * 2 ^ i : Nat) : Int) := by
 rw [bOr x (y * 2 ^ i) (by omega) (by omega), nat_or_add x y i hx]
theorem bMask (x i : Nat) (hx : x < 9223372036854775808) (hi : i ≤ 62) : bitsI .and .i64 (x : Int) ((2 ^ i - 1 : Nat) : Int) = ((x % 2 ^ i : Nat) : Int) := by
 have : (2 : Nat) ^ i ≤ 2 ^ 62 := Nat.pow_le_pow_right (by omega) hi
 rw [bAnd x (2 ^ i - 1) hx (by omega), Nat.and_two_pow_sub_one_eq_mod]
theorem shr_div (k : IntKind) (x : Int) (j : Nat) (hj : j ≤ k.bits) : shrI k x (j : Int) = x / 2 ^ j := by
 unfold shrI
 rw [Int.toNat_natCast, Nat.min_eq_left hj, Int.fdiv_eq_ediv_of_nonneg]
 exact Int.le_of_lt (Int.pow_pos (by omega))
theorem shl_mul (x j : Nat) (hj : j ≤ 64) (h : x * 2 ^ j < 9223372036854775808) : shlI .i64 (x : Int) (j : Int) = ((x * 2 ^ j : Nat) : Int) := by
 unfold shlI
 rw [Int.toNat_natCast, Nat.min_eq_left (by simpa [IntKind.bits] using hj)]
 have e : (x : Int) * 2 ^ j = ((x * 2 ^ j : Nat) : Int) := by simp
 rw [e, w64n _ h]
theorem u8_nat (x : UInt8) : UInt8.ofNat ((x.toNat : Nat) : Int).toNat = x := by simp
theorem strOf_app (a b : List Int) : strOf (a ++ b) = strOf a ++ strOf b := by simp [strOf]
theorem u8_same {x y : Int} (h : x.toNat % 256 = y.toNat % 256) : UInt8.ofNat x.toNat = UInt8.ofNat y.toNat := by
 apply UInt8.toNat.inj
 simpa using h
end Go.Proofs.YtghbnolfadnoaaaGreat
