/- Shapes: how the data of a type reads as cells, from the form's own reading. -/
import Derived.Test.YtkhfbleldchnpaaRows
import Derived.Test.YtkhfbleldchnpaaKit
import Derived.ProofKit
import Derived.OpenShut
import Derived.Deep.Slices
import Derived.ChangeOld
namespace Go.Proofs.Ytkhfbleldchnpaa
open Go.ChangeShapes Go.WideShapes Go.ChangeAt Go.RowKit
set_option linter.unusedVariables false

theorem bulk_one {H : Type} (d : DataW H) : 1 ≤ Rows.uptoBulk d := by
  cases d with
  | lit l => cases l <;> simp [Rows.uptoBulk]
  | nil => simp [Rows.uptoBulk]
  | ptr d => simp [Rows.uptoBulk]
  | slice elems spare => simp [Rows.uptoBulk]
  | agg parts => simp [Rows.uptoBulk]
  | iface t d => simp [Rows.uptoBulk]
  | map entries => simp [Rows.uptoBulk]
  | held h => simp [Rows.uptoBulk]

/-- how a type's data reads: as these cells, in this world -/
structure Shape (P : Program) (T : TypeId) (α : Type) where
  is : World → List Value → α → Prop
  bulk : α → Nat
  opens : ∀ {H : Type} {enc : TypeId × Value → H} {w : World} {base : Nat} {spare : Nat → Bool} {held : Bool} {fuel : Nat} {cs : List Value} {x : DataW H × List MemPlace},
    DataW.trod enc P w base spare held fuel T cs = some x → ∃ a, is w cs a ∧ bulk a ≤ Rows.uptoBulk x.1
  keep : ∀ {w w' : World} {cs : List Value} {a : α}, is w cs a → Below w.heap.size w w' → is w' cs a

def Shape.int {P : Program} {T : TypeId} (k : IntKind) (h : P.underlying T = some (.int k)) : Shape P T Int where
  is := fun _ cs a => cs = [.int k a] ∧ (Lit.int k a).wf = true
  bulk := fun _ => 1
  opens := fun ht => by
    obtain ⟨n, rfl, rfl, hw⟩ := DataW.trod_int h ht
    exact ⟨n, ⟨rfl, hw⟩, by simp [Rows.uptoBulk]⟩
  keep := fun h _ => h

def Shape.bool {P : Program} {T : TypeId} (h : P.underlying T = some .bool) : Shape P T Bool where
  is := fun _ cs a => cs = [.bool a]
  bulk := fun _ => 1
  opens := fun ht => by
    obtain ⟨n, rfl, rfl⟩ := DataW.trod_bool h ht
    exact ⟨n, rfl, by simp [Rows.uptoBulk]⟩
  keep := fun h _ => h

def Shape.str {P : Program} {T : TypeId} (h : P.underlying T = some .string) : Shape P T ByteArray where
  is := fun _ cs a => cs = [.string a] ∧ a.size ≤ maxLen
  bulk := fun a => a.size + 1
  opens := fun ht => by
    obtain ⟨s, rfl, rfl, hs⟩ := DataW.trod_string h ht
    refine ⟨s, ⟨rfl, hs⟩, ?_⟩
    simp only [Rows.uptoBulk, Array.length_toList]
    exact Nat.le_refl _
  keep := fun h _ => h

/-- the fields of a struct, from a given offset on -/
structure Fields (P : Program) (fs : List Field) (off : Nat) (α : Type) where
  is : World → List Value → α → Prop
  bulk : α → Nat
  opens : ∀ {H : Type} {enc : TypeId × Value → H} {w : World} {base : Nat} {spare : Nat → Bool} {held : Bool} {n : Nat} {cs : List Value} {xs : List (DataW H × List MemPlace)},
    xs.length = fs.length → (∀ (i : Nat) (f : Field), fs[i]? = some f → DataW.trod enc P w base spare held n f.type ((cs.drop f.offset).take (P.cellsOf f.type)) = xs[i]?) →
    ∃ a, is w (cs.drop off) a ∧ bulk a ≤ Rows.uptoBulkAll (xs.map (·.1))
  keep : ∀ {w w' : World} {cs : List Value} {a : α}, is w cs a → Below w.heap.size w w' → is w' cs a

def Fields.nil {P : Program} {off : Nat} : Fields P [] off Unit where
  is := fun _ _ _ => True
  bulk := fun _ => 0
  opens := fun _ _ => ⟨(), trivial, Nat.zero_le _⟩
  keep := fun _ _ => trivial

def Fields.last {P : Program} {f : Field} {α : Type} (S : Shape P f.type α) (k : Nat) (hk : P.cellsOf f.type = k) : Fields P [f] f.offset α where
  is := fun w cs a => S.is w (cs.take k) a
  bulk := S.bulk
  opens := fun {H enc w base spare held n cs xs} hl hf => by
    have h0 := hf 0 f rfl
    match xs, hl with
    | [x], _ =>
      obtain ⟨a, ha, hb⟩ := S.opens (h0.trans rfl)
      exact ⟨a, by rw [← hk]; exact ha, by simpa [Rows.uptoBulkAll] using hb⟩
  keep := fun h hb => S.keep h hb

def Fields.cons {P : Program} {f : Field} {fs : List Field} {off2 : Nat} {α β : Type} (S : Shape P f.type α) (F : Fields P fs off2 β) (k : Nat) (hk : P.cellsOf f.type = k) (ho : off2 = f.offset + k) : Fields P (f :: fs) f.offset (α × β) where
  is := fun w cs a => S.is w (cs.take k) a.1 ∧ F.is w (cs.drop k) a.2
  bulk := fun a => S.bulk a.1 + F.bulk a.2
  opens := fun {H enc w base spare held n cs xs} hl hf => by
    have h0 := hf 0 f rfl
    match xs, hl with
    | x :: xs, hl =>
      obtain ⟨a, ha, hb⟩ := S.opens (h0.trans rfl)
      obtain ⟨b, hb1, hb2⟩ := F.opens (xs := xs) (by simpa using hl) (fun i g hg => hf (i + 1) g (by simpa using hg))
      refine ⟨(a, b), ⟨by rw [← hk]; exact ha, ?_⟩, ?_⟩
      · show F.is w (List.drop k (List.drop f.offset cs)) b
        rw [List.drop_drop, ← ho]
        exact hb1
      · simp only [List.map_cons, Rows.uptoBulkAll]
        show S.bulk a + F.bulk b ≤ _
        omega
  keep := fun h hb => ⟨S.keep h.1 hb, F.keep h.2 hb⟩

def Shape.struct {P : Program} {T : TypeId} {fs : List Field} {α : Type} (h : P.underlying T = some (.struct fs.toArray)) (F : Fields P fs 0 α) (k : Nat) (hk : P.cellsOf T = k) : Shape P T α where
  is := fun w cs a => cs.length = k ∧ F.is w cs a
  bulk := fun a => F.bulk a + 1
  opens := fun {H enc w base spare held fuel cs x} ht => by
    obtain ⟨xs, n, rfl, rfl, hl, hx, hf⟩ := DataW.trod_struct h ht
    obtain ⟨a, ha, hb⟩ := F.opens (cs := cs) (xs := xs) (by simpa using hx) (fun i f hi => hf i f (by simpa using hi))
    refine ⟨a, ⟨by rw [← hk]; exact hl, by simpa using ha⟩, ?_⟩
    simp only [Rows.uptoBulk]
    omega
  keep := fun h hb => ⟨h.1, F.keep h.2 hb⟩

/-- an array: so many elements, one behind the other -/
def ArrIs {α : Type} (is : World → List Value → α → Prop) (k : Nat) (w : World) : List Value → List α → Prop
  | cs, [] => cs = []
  | cs, a :: l => is w (cs.take k) a ∧ ArrIs is k w (cs.drop k) l
def bulkL {α : Type} (bulk : α → Nat) : List α → Nat
  | [] => 0
  | a :: l => bulk a + bulkL bulk l
theorem ArrIs.keep {α : Type} {is : World → List Value → α → Prop} {k : Nat} {w w' : World} (hk : ∀ cs a, is w cs a → is w' cs a) (l : List α) : ∀ cs, ArrIs is k w cs l → ArrIs is k w' cs l := by
  induction l with
  | nil => intro cs h; exact h
  | cons a l ih => intro cs h; exact ⟨hk _ _ h.1, ih _ h.2⟩
theorem arr_opens {P : Program} {e : TypeId} {α : Type} (S : Shape P e α) (k : Nat) {H : Type} {enc : TypeId × Value → H} {w : World} {base : Nat} {spare : Nat → Bool} {held : Bool} {m : Nat} (n : Nat) :
    ∀ (cs : List Value) (xs : List (DataW H × List MemPlace)), xs.length = n → cs.length = n * k →
    (∀ i : Nat, i < n → DataW.trod enc P w base spare held m e ((cs.drop (i * k)).take k) = xs[i]?) → ∃ l : List α, l.length = n ∧ ArrIs S.is k w cs l ∧ bulkL S.bulk l ≤ Rows.uptoBulkAll (xs.map (·.1)) := by
  induction n with
  | zero => intro cs xs hx hc _; exact ⟨[], rfl, List.length_eq_zero_iff.1 (by omega), Nat.zero_le _⟩
  | succ n ih =>
    intro cs xs hx hc hf
    match xs, hx with
    | x :: xs, hx =>
      have h0 := hf 0 (by omega)
      simp only [Nat.zero_mul, List.drop_zero] at h0
      obtain ⟨a, ha, hb⟩ := S.opens (h0.trans rfl)
      obtain ⟨l, hl, hl2, hl3⟩ := ih (cs.drop k) xs (by simpa using hx) (by rw [List.length_drop, hc, Nat.succ_mul]; omega) (fun i hi => by
        have := hf (i + 1) (by omega)
        rw [List.drop_drop]
        rw [Nat.succ_mul, Nat.add_comm] at this
        simpa using this)
      refine ⟨a :: l, by simp [hl], ⟨ha, hl2⟩, ?_⟩
      simp only [List.map_cons, Rows.uptoBulkAll, bulkL]
      omega
def Shape.array {P : Program} {T e : TypeId} {n : Nat} {α : Type} (h : P.underlying T = some (.array n e)) (S : Shape P e α) (k : Nat) (hk : P.cellsOf e = k) (hT : P.cellsOf T = n * k) : Shape P T (List α) where
  is := fun w cs l => l.length = n ∧ cs.length = n * k ∧ ArrIs S.is k w cs l
  bulk := fun l => bulkL S.bulk l + 1
  opens := fun {H enc w base spare held fuel cs x} ht => by
    obtain ⟨xs, m, rfl, rfl, hl, hx, hf⟩ := DataW.trod_array h ht
    rw [hT] at hl
    rw [hk] at hf
    obtain ⟨l, h1, h2, h3⟩ := arr_opens S k n cs xs hx hl hf
    refine ⟨l, ⟨h1, hl, h2⟩, ?_⟩
    simp only [Rows.uptoBulk]
    omega
  keep := fun h hb => ⟨h.1, h.2.1, ArrIs.keep (fun _ _ h => S.keep h hb) _ _ h.2.2⟩

/-- a slice: the elements up to its length -/
def SlIs {α : Type} (is : World → List Value → α → Prop) (k : Nat) (w : World) (a : Option Addr) (l : List α) : Prop :=
  0 < l.length → ∃ b off, a = some ⟨b, off, none⟩ ∧ b < w.heap.size ∧ ∀ i x, l[i]? = some x → ∃ c, is w c x ∧ c.length = k ∧ ∀ j u, c[j]? = some u → w.cell? ⟨b, off + i * k + j, none⟩ = some u
theorem bulkL_le {H α : Type} (bulk : α → Nat) : ∀ (l : List α) (ds : List (DataW H)), l.length = ds.length → (∀ (i : Nat) (x : α) (d : DataW H), l[i]? = some x → ds[i]? = some d → bulk x ≤ Rows.uptoBulk d) → bulkL bulk l ≤ Rows.uptoBulkAll ds
  | [], [], _, _ => Nat.le_refl _
  | x :: l, d :: ds, hl, h => by
    have h0 := h 0 x d rfl rfl
    have h1 := bulkL_le bulk l ds (by simpa using hl) (fun i x d hx hd => h (i + 1) x d (by simpa using hx) (by simpa using hd))
    simp only [bulkL, Rows.uptoBulkAll]
    omega
def Shape.slice {P : Program} {T e : TypeId} {α : Type} (h : P.underlying T = some (.slice e)) (S : Shape P e α) (k : Nat) (hk : P.cellsOf e = k) (hk0 : 0 < k) : Shape P T (List α) where
  is := fun w cs l => ∃ a cap, cs = [.slice a l.length cap] ∧ l.length ≤ cap ∧ cap ≤ maxLen ∧ SlIs S.is k w a l
  bulk := fun l => bulkL S.bulk l + 1
  opens := fun {H enc w base spare held fuel cs x} ht => by
    rcases Deep.open_slice h ht with ⟨rfl, rfl⟩ | ⟨a, len, cap, m, n, D, Pl, rfl, hb, hl, hm, hmm, rfl, hel⟩
    · exact ⟨[], ⟨none, 0, rfl, Nat.le_refl _, Nat.zero_le _, fun h => absurd h (by simp)⟩, by simp [bulkL, Rows.uptoBulk]⟩
    · rw [hk] at hel
      have hlm : len ≤ m := by rw [hmm]; split <;> omega
      have each : ∀ i, i < len → ∃ x c, S.is w c x ∧ S.bulk x ≤ Rows.uptoBulk (D i) ∧ w.cells? base (a.add (i * k)) k = some c := fun i hi => by
        obtain ⟨c, hc, ht⟩ := hel i (by omega)
        obtain ⟨x, hx, hbx⟩ := S.opens ht
        exact ⟨x, c, hx, hbx, hc⟩
      obtain ⟨l, hll, hlx⟩ : ∃ l : List α, l.length = len ∧ ∀ i x, l[i]? = some x → ∃ c, S.is w c x ∧ S.bulk x ≤ Rows.uptoBulk (D i) ∧ w.cells? base (a.add (i * k)) k = some c := by
        have main : ∀ q, q ≤ len → ∃ l : List α, l.length = q ∧ ∀ i x, l[i]? = some x → ∃ c, S.is w c x ∧ S.bulk x ≤ Rows.uptoBulk (D i) ∧ w.cells? base (a.add (i * k)) k = some c := by
          intro q
          induction q with
          | zero => intro _; exact ⟨[], rfl, fun i x hx => by simp at hx⟩
          | succ q ih =>
            intro hq
            obtain ⟨l, h1, h2⟩ := ih (by omega)
            obtain ⟨x, c, h3⟩ := each q (by omega)
            refine ⟨l ++ [x], by simp [h1], fun i y hy => ?_⟩
            rcases Nat.lt_or_ge i q with hi | hi
            · rw [List.getElem?_append_left (by omega)] at hy
              exact h2 i y hy
            · rw [List.getElem?_append_right (by omega)] at hy
              have hz : i - l.length = 0 := by
                rcases Nat.eq_zero_or_pos (i - l.length) with h | h
                · exact h
                · rw [List.getElem?_eq_none (by simp; omega)] at hy; cases hy
              rw [hz] at hy
              simp at hy
              subst hy
              obtain rfl : i = q := by omega
              exact ⟨c, h3⟩
        exact main len (Nat.le_refl _)
      subst hll
      refine ⟨l, ⟨some a, cap, rfl, hl, hm, fun h0 => ?_⟩, ?_⟩
      · obtain ⟨b, off, spot⟩ := a
        have hspot : spot = none := by
          obtain ⟨c, _, _, hc⟩ := hlx 0 _ (List.getElem?_eq_getElem h0)
          have hc' := (World.cells?_some hc).2.2 0 hk0
          have hlen := (World.cells?_some hc).2.1
          have hs : ∃ v, c[0]? = some v := ⟨_, List.getElem?_eq_getElem (by omega)⟩
          obtain ⟨v, hv⟩ := hs
          rw [hv] at hc'
          have := World.cell?_spot hc'
          simpa [Addr.add] using this
        subst hspot
        refine ⟨b, off, rfl, ?_, fun i x hx => ?_⟩
        · obtain ⟨c, _, _, hc⟩ := hlx 0 _ (List.getElem?_eq_getElem h0)
          have := World.cells?_block hc hk0
          rw [addr_add] at this
          exact this
        · obtain ⟨c, h1, _, h3⟩ := hlx i x hx
          obtain ⟨_, h5, h6⟩ := World.cells?_some h3
          refine ⟨c, h1, h5, fun j u hj => ?_⟩
          have hjk : j < k := by rcases List.getElem?_eq_some_iff.1 hj with ⟨hlt, _⟩; omega
          have := h6 j hjk
          rw [addr_add, addr_add, hj] at this
          exact this
      · simp only [Rows.uptoBulk]
        have := bulkL_le S.bulk l ((List.range l.length).map D) (by simp) (fun i x d hx hd => by
          obtain ⟨c, _, h2, _⟩ := hlx i x hx
          have hi : i < l.length := by rcases List.getElem?_eq_some_iff.1 hx with ⟨hlt, _⟩; exact hlt
          rw [List.getElem?_map, List.getElem?_range hi] at hd
          simp at hd
          subst hd
          exact h2)
        omega
  keep := fun {w w' cs l} h hb => by
    obtain ⟨a, cap, rfl, h1, h2, h3⟩ := h
    refine ⟨a, cap, rfl, h1, h2, fun h0 => ?_⟩
    obtain ⟨b, off, rfl, hb1, hx⟩ := h3 h0
    have := hb.size
    refine ⟨b, off, rfl, by omega, fun i x hi => ?_⟩
    obtain ⟨c, hc1, hc2, hc3⟩ := hx i x hi
    exact ⟨c, S.keep hc1 hb, hc2, fun j u hj => (hb.cell (p := ⟨b, off + i * k + j, none⟩) hb1).trans (hc3 j u hj)⟩

theorem flat_length {α : Type} (cells : α → List Value) (k : Nat) (hk : ∀ x, (cells x).length = k) (l : List α) : (l.flatMap cells).length = l.length * k := by
  induction l with
  | nil => simp
  | cons x l ih => rw [List.flatMap_cons, List.length_append, ih, hk, List.length_cons, Nat.succ_mul, Nat.add_comm]
theorem flat_get {α : Type} (cells : α → List Value) (k : Nat) (hk : ∀ x, (cells x).length = k) : ∀ (l : List α) (i : Nat) (v : Value), (l.flatMap cells)[i]? = some v → ∃ q r x, i = q * k + r ∧ l[q]? = some x ∧ (cells x)[r]? = some v
  | [], i, v, h => by simp at h
  | x :: l, i, v, h => by
    rw [List.flatMap_cons] at h
    rcases Nat.lt_or_ge i k with hi | hi
    · rw [List.getElem?_append_left (by rw [hk]; exact hi)] at h
      exact ⟨0, i, x, by simp, rfl, h⟩
    · rw [List.getElem?_append_right (by rw [hk]; exact hi), hk] at h
      obtain ⟨q, r, y, h1, h2, h3⟩ := flat_get cells k hk l _ v h
      exact ⟨q + 1, r, y, by rw [Nat.succ_mul]; omega, by simpa using h2, h3⟩
/-- a slice's elements as cells in a row, and what each of them is -/
theorem SlIs.reads {α : Type} {is : World → List Value → α → Prop} {k : Nat} {w : World} {a : Option Addr} {l : List α} {cap : Nat} (cells : α → List Value) (good : α → Prop) (hc : ∀ c x, is w c x → c = cells x ∧ good x) (hk : ∀ x, (cells x).length = k)
    (h : l.length ≤ cap ∧ cap ≤ maxLen ∧ SlIs is k w a l) : Reads w k (.slice a l.length cap) l.length (l.flatMap cells) ∧ ∀ x ∈ l, good x := by
  obtain ⟨h1, h2, h3⟩ := h
  refine ⟨⟨flat_length cells k hk l, a, cap, rfl, h1, h2, fun h0 => ?_⟩, fun x hx => ?_⟩
  · obtain ⟨b, off, rfl, hb, hx⟩ := h3 h0
    refine ⟨b, off, rfl, hb, fun i v hi => ?_⟩
    obtain ⟨q, r, x, rfl, hq, hr⟩ := flat_get cells k hk l i v hi
    obtain ⟨c, hc1, hc2, hc3⟩ := hx q x hq
    obtain ⟨rfl, _⟩ := hc c x hc1
    have := hc3 r v hr
    rwa [Nat.add_assoc] at this
  · obtain ⟨q, hq⟩ := List.getElem?_of_mem hx
    have h0 : 0 < l.length := by rcases List.getElem?_eq_some_iff.1 hq with ⟨hlt, _⟩; omega
    obtain ⟨b, off, _, _, hx⟩ := h3 h0
    obtain ⟨c, hc1, _, _⟩ := hx q x hq
    exact (hc c x hc1).2

theorem list1 {α : Type} {l : List α} (h : l.length = 1) : ∃ z0, l = [z0] := by
  match l, h with
  | [z0], _ => exact ⟨z0, rfl⟩
theorem list2 {α : Type} {l : List α} (h : l.length = 2) : ∃ z0 z1, l = [z0, z1] := by
  match l, h with
  | [z0, z1], _ => exact ⟨z0, z1, rfl⟩
theorem list3 {α : Type} {l : List α} (h : l.length = 3) : ∃ z0 z1 z2, l = [z0, z1, z2] := by
  match l, h with
  | [z0, z1, z2], _ => exact ⟨z0, z1, z2, rfl⟩
theorem list4 {α : Type} {l : List α} (h : l.length = 4) : ∃ z0 z1 z2 z3, l = [z0, z1, z2, z3] := by
  match l, h with
  | [z0, z1, z2, z3], _ => exact ⟨z0, z1, z2, z3, rfl⟩
theorem list5 {α : Type} {l : List α} (h : l.length = 5) : ∃ z0 z1 z2 z3 z4, l = [z0, z1, z2, z3, z4] := by
  match l, h with
  | [z0, z1, z2, z3, z4], _ => exact ⟨z0, z1, z2, z3, z4, rfl⟩
theorem list6 {α : Type} {l : List α} (h : l.length = 6) : ∃ z0 z1 z2 z3 z4 z5, l = [z0, z1, z2, z3, z4, z5] := by
  match l, h with
  | [z0, z1, z2, z3, z4, z5], _ => exact ⟨z0, z1, z2, z3, z4, z5, rfl⟩
theorem list7 {α : Type} {l : List α} (h : l.length = 7) : ∃ z0 z1 z2 z3 z4 z5 z6, l = [z0, z1, z2, z3, z4, z5, z6] := by
  match l, h with
  | [z0, z1, z2, z3, z4, z5, z6], _ => exact ⟨z0, z1, z2, z3, z4, z5, z6, rfl⟩
theorem list8 {α : Type} {l : List α} (h : l.length = 8) : ∃ z0 z1 z2 z3 z4 z5 z6 z7, l = [z0, z1, z2, z3, z4, z5, z6, z7] := by
  match l, h with
  | [z0, z1, z2, z3, z4, z5, z6, z7], _ => exact ⟨z0, z1, z2, z3, z4, z5, z6, z7, rfl⟩
theorem list9 {α : Type} {l : List α} (h : l.length = 9) : ∃ z0 z1 z2 z3 z4 z5 z6 z7 z8, l = [z0, z1, z2, z3, z4, z5, z6, z7, z8] := by
  match l, h with
  | [z0, z1, z2, z3, z4, z5, z6, z7, z8], _ => exact ⟨z0, z1, z2, z3, z4, z5, z6, z7, z8, rfl⟩
theorem list10 {α : Type} {l : List α} (h : l.length = 10) : ∃ z0 z1 z2 z3 z4 z5 z6 z7 z8 z9, l = [z0, z1, z2, z3, z4, z5, z6, z7, z8, z9] := by
  match l, h with
  | [z0, z1, z2, z3, z4, z5, z6, z7, z8, z9], _ => exact ⟨z0, z1, z2, z3, z4, z5, z6, z7, z8, z9, rfl⟩
theorem list11 {α : Type} {l : List α} (h : l.length = 11) : ∃ z0 z1 z2 z3 z4 z5 z6 z7 z8 z9 z10, l = [z0, z1, z2, z3, z4, z5, z6, z7, z8, z9, z10] := by
  match l, h with
  | [z0, z1, z2, z3, z4, z5, z6, z7, z8, z9, z10], _ => exact ⟨z0, z1, z2, z3, z4, z5, z6, z7, z8, z9, z10, rfl⟩
theorem list12 {α : Type} {l : List α} (h : l.length = 12) : ∃ z0 z1 z2 z3 z4 z5 z6 z7 z8 z9 z10 z11, l = [z0, z1, z2, z3, z4, z5, z6, z7, z8, z9, z10, z11] := by
  match l, h with
  | [z0, z1, z2, z3, z4, z5, z6, z7, z8, z9, z10, z11], _ => exact ⟨z0, z1, z2, z3, z4, z5, z6, z7, z8, z9, z10, z11, rfl⟩
end Go.Proofs.Ytkhfbleldchnpaa
