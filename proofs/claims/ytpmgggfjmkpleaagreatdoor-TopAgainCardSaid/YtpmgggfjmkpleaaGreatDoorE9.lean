/- An exact machine, part 9: maps. -/
import Derived.Test.YtpmgggfjmkpleaaGreatDoorE8
namespace Go.Proofs.YtpmgggfjmkpleaaGreatDoor.E
open Go Go.RowKit
set_option linter.unusedVariables false

section
variable {P : Program}
/-! keys: numbers, texts, bools; structs of them -/
def eqI (a b : V) : Option Bool := match a, b with
  | .int k x, .int k' y => match kEq k k' with | true => some (ieq x y) | false => none
  | _, _ => none
theorem eqI_ok {G : Gh} {a b : V} {u v : Value} {r : Bool} (h : eqI a b = some r) (ha : CR G a u) (hb : CR G b v) : ∃ k x y, u = .int k x ∧ v = .int k y ∧ (x == y) = r := by
  unfold eqI at h
  split at h
  · split at h
    · rename_i hk
      obtain rfl := kEq_ok hk
      obtain rfl := Option.some.inj h
      exact ⟨_, _, _, i_int ha, i_int hb, (ieq_eq _ _).symm⟩
    · cases h
  · cases h
/-- in each case the same answer -/
def laneEq : List V → List V → Option Bool
  | [], _ => none
  | a :: l, m => match m with
    | [] => none
    | b :: m => match l with
      | [] => eqI a b
      | _ :: _ => match eqI a b, laneEq l m with
        | some x, some y => (match bEq x y with | true => some x | false => none)
        | _, _ => none
theorem laneEq_ok : ∀ {l m : List V} {r : Bool}, laneEq l m = some r → ∀ (i : Nat) a b, l[i]? = some a → m[i]? = some b → eqI a b = some r
  | [], m, r, h, i, a, b, ha, hb => by cases h
  | x :: l, [], r, h, i, a, b, ha, hb => by cases h
  | x :: l, y :: m, r, h, i, a, b, ha, hb => by
    cases l with
    | nil =>
      cases i with
      | zero => cases ha; cases hb; exact h
      | succ i => simp at ha
    | cons x2 l =>
      have h : (match eqI x y, laneEq (x2 :: l) m with
        | some p, some q => (match bEq p q with | true => some p | false => none)
        | _, _ => none) = some r := h
      split at h
      · rename_i p q h1 h2
        split at h
        · rename_i h3
          obtain rfl := bEq_ok h3
          obtain rfl := Option.some.inj h
          cases i with
          | zero => cases ha; cases hb; exact h1
          | succ i => exact laneEq_ok h2 i a b ha hb
        · cases h
      · cases h
def keqI (a b : V) : Option Bool := match a, b with
  | .vec d l, .vec e m => (match Nat.beq d e, Nat.beq l.length (dimN d), Nat.beq m.length (dimN d) with | true, true, true => laneEq l m | _, _, _ => none)
  | .vec d l, .int k x => (match Nat.beq l.length (dimN d) with | true => laneEq l (l.map fun _ => .int k x) | false => none)
  | .int k x, .vec d l => (match Nat.beq l.length (dimN d) with | true => laneEq (l.map fun _ => .int k x) l | false => none)
  | a, b => eqI a b
theorem keqI_ok {G : Gh} {a b : V} {u v : Value} {r : Bool} (h : keqI a b = some r) (ha : CR G a u) (hb : CR G b v) : ∃ k x y, u = .int k x ∧ v = .int k y ∧ (x == y) = r := by
  have at_ : ∀ {d : Nat} {l : List V} {x : Value}, Nat.beq l.length (dimN d) = true → CR G (.vec d l) x → ∃ c, l[G.θ d]? = some c ∧ CR G c x := by
    intro d l x hl hx
    have hlt : G.θ d < l.length := by rw [Nat.eq_of_beq_eq_true hl]; exact G.θlt d
    cases hx with
    | vec _ _ _ hx =>
      rw [List.getD_eq_getElem?_getD, List.getElem?_eq_getElem hlt, Option.getD_some] at hx
      exact ⟨_, List.getElem?_eq_getElem hlt, hx⟩
  unfold keqI at h
  split at h
  · rename_i d l e m
    split at h
    · rename_i h1 h2 h3
      obtain rfl := Nat.eq_of_beq_eq_true h1
      obtain ⟨c, hc, hc2⟩ := at_ h2 ha
      obtain ⟨c', hc', hc2'⟩ := at_ h3 hb
      exact eqI_ok (laneEq_ok h _ _ _ hc hc') hc2 hc2'
    · cases h
  · rename_i d l k x
    split at h
    · rename_i h2
      obtain ⟨c, hc, hc2⟩ := at_ h2 ha
      exact eqI_ok (laneEq_ok h _ _ _ hc (by rw [List.getElem?_map, hc]; rfl)) hc2 hb
    · cases h
  · rename_i k x d l
    split at h
    · rename_i h2
      obtain ⟨c, hc, hc2⟩ := at_ h2 hb
      exact eqI_ok (laneEq_ok h _ _ _ (by rw [List.getElem?_map, hc]; rfl) hc) ha hc2
    · cases h
  · exact eqI_ok h ha hb
def keq0 (P : Program) (t : TypeId) (a b : V) : Option Bool :=
  match P.underlying t, a, b with
  | some (.int _), a, b => keqI a b
  | some .string, .str x, .str y => some (x == y)
  | some .bool, .bool x, .bool y => some (x == y)
  | _, _, _ => none
theorem keq0_ok {w : World} {G : Gh} {t : TypeId} {a b : V} {u v : Value} {r : Bool} (h : keq0 P t a b = some r) (ha : CR G a u) (hb : CR G b v) (d : Nat) : (Op.equalIn (d + 1) t u v).run P w = .ok r w := by
  unfold keq0 at h
  split at h
  · rename_i hu
    obtain ⟨k, x, y, rfl, rfl, rfl⟩ := keqI_ok h ha hb
    simp only [Op.equalIn, Sem.run_bind, run_underlying hu, Result.andThen_ok]
    rfl
  · rename_i x y hu
    obtain rfl := Option.some.inj h
    rw [i_str ha, i_str hb, run_equalIn_string w d t _ _ hu, str_toList, str_toList]
  · rename_i x y hu
    obtain rfl := Option.some.inj h
    rw [i_bool ha, i_bool hb]
    exact run_equalIn_bool w d t x y hu
  · cases h
/-- is this a value of that scalar type? -/
def scal (P : Program) (t : TypeId) : Bool := match P.underlying t with | some (.int _) => true | some .string => true | some .bool => true | _ => false
theorem scal_check {w : World} {t : TypeId} (h : scal P t = true) (em : Bool) (d : Nat) (v : Value) : (Instr.checkKey em (d + 1) t v).run P w = .ok () w := by
  unfold scal at h
  split at h
  · rename_i hu; simp [Instr.checkKey, run_underlying hu, Sem.run_pure]
  · rename_i hu; simp [Instr.checkKey, run_underlying hu, Sem.run_pure]
  · rename_i hu; simp [Instr.checkKey, run_underlying hu, Sem.run_pure]
  · cases h
theorem scal_agg {t : TypeId} (h : scal P t = true) : isAggT P t = some false := by
  unfold scal at h
  unfold isAggT
  split at h
  · rename_i hu; rw [hu]
  · rename_i hu; rw [hu]
  · rename_i hu; rw [hu]
  · cases h
/-- fields one behind the other, each of one cell -/
def keyFs (P : Program) : List Field → Nat → Bool
  | [], _ => true
  | f :: l, i => f.name != "_" && (Nat.beq f.offset i && (scal P f.type && keyFs P l (i + 1)))
def keqL (P : Program) : List Field → List V → List V → Option Bool
  | [], [], [] => some true
  | f :: fs, a :: l, b :: m => match keq0 P f.type a b with | some true => keqL P fs l m | r => r
  | _, _, _ => none
theorem part_scal {w : World} {t : TypeId} (h : scal P t = true) {cs : Array Value} {i : Nat} {v : Value} (hi : cs[i]? = some v) : (part t cs i).run P w = .ok v w := by
  simp only [part, Sem.run_bind, agg_run (scal_agg h), Result.andThen_ok, Bool.false_eq_true, if_false, hi]
  rfl
theorem keqL_ok {w : World} {G : Gh} (d : Nat) : ∀ (fs : List Field) (l m : List V) (cs ds c1 d1 : List Value) (i : Nat) (r : Bool), keyFs P fs i = true → keqL P fs l m = some r → LR G l cs → LR G m ds → c1.length = i → d1.length = i →
    (Op.eqFields (d + 1) (c1 ++ cs).toArray (d1 ++ ds).toArray fs).run P w = .ok r w
  | [], [], [], cs, ds, c1, d1, i, r, _, h, _, _, _, _ => by obtain rfl := Option.some.inj h; simp [Op.eqFields, Sem.run_pure]
  | f :: fs, a :: l, b :: m, cs, ds, c1, d1, i, r, hk, h, hl, hm, h1, h2 => by
    simp only [keyFs, Bool.and_eq_true, bne_iff_ne, ne_eq] at hk
    obtain ⟨hn, hof, hsc, hrest⟩ := hk
    have hof := Nat.eq_of_beq_eq_true hof
    obtain ⟨x, cs', rfl, hx, hl'⟩ := hl.head
    obtain ⟨y, ds', rfl, hy, hm'⟩ := hm.head
    have p1 : (part f.type (c1 ++ x :: cs').toArray f.offset).run P w = .ok x w := part_scal hsc (by rw [hof, ← h1]; simp)
    have p2 : (part f.type (d1 ++ y :: ds').toArray f.offset).run P w = .ok y w := part_scal hsc (by rw [hof, ← h2]; simp)
    simp only [keqL] at h
    have go : ∀ q, keq0 P f.type a b = some q → (Op.equalIn (d + 1) f.type x y).run P w = .ok q w := fun q hq => keq0_ok hq hx hy d
    split at h
    · rename_i hq
      have ih := keqL_ok (w := w) d fs l m cs' ds' (c1 ++ [x]) (d1 ++ [y]) (i + 1) r hrest h hl' hm' (by simp [h1]) (by simp [h2])
      simp only [List.append_assoc, List.singleton_append] at ih
      simp [Op.eqFields, hn, Sem.run_bind, p1, p2, go _ hq]
      simpa using ih
    · rename_i hq
      cases hq' : keq0 P f.type a b with
      | none => rw [hq'] at h; cases h
      | some q =>
        cases q with
        | true => exact absurd hq' hq
        | false =>
          rw [hq'] at h
          obtain rfl := Option.some.inj h
          simp [Op.eqFields, hn, Sem.run_bind, p1, p2, go _ hq']
  | [], [], _ :: _, _, _, _, _, _, _, _, h, _, _, _, _ => by cases h
  | [], _ :: _, _, _, _, _, _, _, _, _, h, _, _, _, _ => by cases h
  | _ :: _, [], _, _, _, _, _, _, _, _, h, _, _, _, _ => by cases h
  | _ :: _, _ :: _, [], _, _, _, _, _, _, _, h, _, _, _, _ => by cases h
/-- may keys of this type be looked up? -/
def keyT (P : Program) (t : TypeId) : Bool := match P.underlying t with
  | some (.struct fs) => !P.stoodInHeld t && keyFs P fs.toList 0
  | _ => scal P t
def keq (P : Program) (t : TypeId) (a b : V) : Option Bool :=
  match P.underlying t, a, b with
  | some (.struct fs), .agg l, .agg m => keqL P fs.toList l m
  | _, a, b => keq0 P t a b
theorem keq_ok {w : World} {G : Gh} {t : TypeId} {a b : V} {u v : Value} {r : Bool} (hk : keyT P t = true) (h : keq P t a b = some r) (ha : CR G a u) (hb : CR G b v) (d : Nat) : (Op.equalIn (d + 2) t u v).run P w = .ok r w := by
  unfold keq at h
  split at h
  · rename_i fs l m hu
    unfold keyT at hk
    rw [hu] at hk
    simp only [Bool.and_eq_true, Bool.not_eq_true'] at hk
    cases ha with
    | agg l cs g1 g2 g3 =>
      cases hb with
      | agg m ds k1 k2 k3 =>
        have hfo : P.fieldsOf t = fs := by simp only [Program.fieldsOf, hu]
        rw [run_equalIn_struct w (d + 1) t cs.toArray ds.toArray (by rw [hfo]; exact hu) hk.1, hfo]
        exact keqL_ok (w := w) d fs.toList l m cs ds [] [] 0 r hk.2 h ⟨g1, g2⟩ ⟨k1, k2⟩ rfl rfl
  · exact keq0_ok h ha hb (d + 1)
theorem checkFs {w : World} {em : Bool} (d : Nat) : ∀ (fs : List Field) (i : Nat) (c1 cs : List Value), keyFs P fs i = true → c1.length = i → cs.length = fs.length →
    (forIn fs PUnit.unit (fun f _ => (do
      if f.name ≠ "_" then Instr.checkKey em (d + 1) f.type (← part f.type (c1 ++ cs).toArray f.offset)
      pure (ForInStep.yield PUnit.unit) : Sem (ForInStep PUnit)))).run P w = .ok PUnit.unit w
  | [], i, c1, cs, _, _, _ => by simp [Sem.run_pure]
  | f :: fs, i, c1, cs, hk, h1, h2 => by
    simp only [keyFs, Bool.and_eq_true, bne_iff_ne, ne_eq] at hk
    obtain ⟨hn, hof, hsc, hrest⟩ := hk
    have hof := Nat.eq_of_beq_eq_true hof
    match cs, h2 with
    | x :: cs', h2 =>
      have p1 : (part f.type (c1 ++ x :: cs').toArray f.offset).run P w = .ok x w := part_scal hsc (by rw [hof, ← h1]; simp)
      have ih := checkFs (em := em) (w := w) d fs (i + 1) (c1 ++ [x]) cs' hrest (by simp [h1]) (by simpa using h2)
      simp only [List.append_assoc, List.singleton_append] at ih
      rw [List.forIn_cons]
      simp only [hn, ne_eq, not_false_eq_true, if_true, Sem.run_bind, p1, scal_check hsc em d x, Result.andThen_ok, Sem.run_pure]
      simpa using ih
def lenOk (P : Program) (t : TypeId) (a : V) : Bool := match P.underlying t, a with
  | some (.struct fs), .agg l => Nat.beq l.length fs.toList.length
  | some (.struct _), _ => false
  | _, _ => true
theorem check_ok {w : World} {G : Gh} {em : Bool} {t : TypeId} {a : V} {u : Value} (hk : keyT P t = true) (hl : lenOk P t a = true) (ha : CR G a u) (d : Nat) : (Instr.checkKey em (d + 2) t u).run P w = .ok () w := by
  unfold lenOk at hl
  unfold keyT at hk
  split at hl
  · rename_i fs l hu
    rw [hu] at hk
    simp only [Bool.and_eq_true, Bool.not_eq_true'] at hk
    have hl := Nat.eq_of_beq_eq_true hl
    cases ha with
    | agg l cs g1 g2 g3 =>
      rw [Instr.checkKey]
      simp only [Sem.run_bind, run_underlying hu, Result.andThen_ok]
      rw [← Array.forIn_toList]
      have := checkFs (P := P) (w := w) (em := em) d fs.toList 0 [] cs hk.2 rfl (by rw [g1, hl])
      simp at this ⊢
      rw [this]
      rfl
  · cases hl
  · rename_i hns _
    split at hk
    · rename_i fs hu; exact absurd hu (hns fs)
    · exact scal_check hk em (d + 1) u
/-! entries -/
noncomputable def mfind (P : Program) (t : TypeId) (k : V) : List (V × V) → Option (Option Nat)
  | [] => some none
  | (k', _) :: l => match keq P t k k' with
    | some true => some (some 0)
    | some false => (match mfind P t k l with | some (some i) => some (some (i + 1)) | r => r)
    | none => none
def FoundAt (es : List MapEntry) (i : Nat) (f : Option Nat) (r : Option (Nat × Value)) : Prop :=
  match f with
  | none => r = none
  | some j => ∃ y, es[j]? = some y ∧ r = some (i + j, y.val)
theorem equal_of {w : World} {t : TypeId} {u v : Value} {r : Bool} (h : (Op.equalIn (9998 + 2) t u v).run P w = .ok r w) : (Op.equal t u v).run P w = .ok r w := h
theorem findAsking_ok {w : World} {G : Gh} {t : TypeId} {k : V} {u : Value} (hk : keyT P t = true) (hu : CR G k u) : ∀ (l : List (V × V)) (es : List MapEntry) (i : Nat) (f : Option Nat), EntsR G l es → mfind P t k l = some f →
    ∃ r, (Instr.findAsking t u es i).run P w = .ok r w ∧ FoundAt es i f r
  | [], es, i, f, h, hf => by
    obtain rfl : es = [] := h
    obtain rfl := Option.some.inj hf
    exact ⟨none, by simp [Instr.findAsking, Sem.run_pure], rfl⟩
  | (k', v') :: l, es, i, f, h, hf => by
    obtain ⟨y, t', rfl, h1, h2⟩ := h
    simp only [mfind] at hf
    split at hf
    · rename_i hq
      obtain rfl := Option.some.inj hf
      have := equal_of (w := w) (keq_ok hk hq hu h1.1 9998)
      exact ⟨some (i, y.val), by simp [Instr.findAsking, Sem.run_bind, this, Sem.run_pure], y, rfl, rfl⟩
    · rename_i hq
      have := equal_of (w := w) (keq_ok hk hq hu h1.1 9998)
      split at hf
      · rename_i j hj
        obtain rfl := Option.some.inj hf
        obtain ⟨r, hr, z, hz, rfl⟩ := findAsking_ok (w := w) hk hu l t' (i + 1) (some j) h2 hj
        exact ⟨some (i + 1 + j, z.val), by simp only [Instr.findAsking, Sem.run_bind, this, Result.andThen_ok, Bool.false_eq_true, if_false, hr], z, by simpa using hz, by rw [show i + (j + 1) = i + 1 + j by omega]⟩
      · rename_i hno
        cases f with
        | some j => exact absurd hf (hno j)
        | none =>
          obtain ⟨r, hr, hz⟩ := findAsking_ok (w := w) hk hu l t' (i + 1) none h2 hf
          exact ⟨r, by simp only [Instr.findAsking, Sem.run_bind, this, Result.andThen_ok, Bool.false_eq_true, if_false, hr], hz⟩
    · cases hf
theorem findNow_ok {w : World} {G : Gh} {t : TypeId} {d : TypeDesc} {k : V} {u : Value} (hd : P.underlying t = some d) (hu : CR G k u) : ∀ (l : List (V × V)) (es : List MapEntry) (i : Nat) (f : Option Nat), EntsR G l es → mfind P t k l = some f → ∀ r, Instr.findNow d u es i = some r → FoundAt es i f r
  | [], es, i, f, h, hf, r, hr => by
    obtain rfl : es = [] := h
    obtain rfl := Option.some.inj hf
    simp only [Instr.findNow, Option.some.injEq] at hr
    exact hr.symm
  | (k', v') :: l, es, i, f, h, hf, r, hr => by
    obtain ⟨y, t', rfl, h1, h2⟩ := h
    simp only [Instr.findNow] at hr
    -- what 'sameNow' says is what the machine says
    have same : ∀ q q', keq P t k k' = some q → Instr.sameNow d u y.key = some q' → q = q' := by
      intro q q' hq hs
      unfold keq at hq
      split at hq
      · rename_i fs l m hu'
        rw [hd] at hu'
        obtain rfl := Option.some.inj hu'
        simp [Instr.sameNow] at hs
      · have hk1 := h1.1
        unfold keq0 at hq
        rw [hd] at hq
        split at hq
        · rename_i hu' _
          obtain rfl := Option.some.inj hu'
          obtain ⟨kk, x, z, e1, e2, e3⟩ := keqI_ok hq hu hk1
          rw [e1, e2] at hs
          simp only [Instr.sameNow, if_true, Option.some.injEq] at hs
          rw [← e3]; exact hs
        · rename_i x z hu' hneg
          obtain rfl := Option.some.inj hu'
          obtain rfl := Option.some.inj hq
          have e1 := i_str hu
          have e2 := i_str hk1
          rw [e1, e2] at hs
          simp only [Instr.sameNow, Option.some.injEq] at hs
          rw [← hs]
          rw [show ((⟨List.toArray x⟩ : ByteArray) == ⟨List.toArray z⟩) = (List.toArray x == List.toArray z) from rfl]
          simp
        · rename_i x z hu' hneg
          obtain rfl := Option.some.inj hu'
          obtain rfl := Option.some.inj hq
          have e1 := i_bool hu
          have e2 := i_bool hk1
          rw [e1, e2] at hs
          simp only [Instr.sameNow, Option.some.injEq] at hs
          exact hs
        · cases hq
    simp only [mfind] at hf
    split at hf
    · rename_i hq
      obtain rfl := Option.some.inj hf
      split at hr
      · obtain rfl := Option.some.inj hr; exact ⟨y, rfl, rfl⟩
      · rename_i hs; have := same _ _ hq hs; cases this
      · cases hr
    · rename_i hq
      split at hr
      · rename_i hs; have := same _ _ hq hs; cases this
      · split at hf
        · rename_i j hj
          obtain rfl := Option.some.inj hf
          obtain ⟨z, hz, e⟩ := findNow_ok (w := w) hd hu l t' (i + 1) (some j) h2 hj r hr
          exact ⟨z, by simpa using hz, by rw [e, show i + (j + 1) = i + 1 + j by omega]⟩
        · rename_i hno
          cases f with
          | some j => exact absurd hf (hno j)
          | none => exact findNow_ok (w := w) hd hu l t' (i + 1) none h2 hf r hr
      · cases hr
    · cases hf
theorem findKey_ok {w : World} {G : Gh} {t : TypeId} {k : V} {u : Value} (hk : keyT P t = true) (hu : CR G k u) {l : List (V × V)} {es : List MapEntry} {f : Option Nat} (h : EntsR G l es) (hf : mfind P t k l = some f) :
    ∃ r, (Instr.findKey t u es).run P w = .ok r w ∧ FoundAt es 0 f r := by
  have hd : ∃ d, P.underlying t = some d := by
    cases hu' : P.underlying t with
    | some d => exact ⟨d, rfl⟩
    | none => unfold keyT at hk; rw [hu'] at hk; unfold scal at hk; rw [hu'] at hk; cases hk
  obtain ⟨d, hd⟩ := hd
  simp only [Instr.findKey, Sem.run_bind, run_underlying hd, Result.andThen_ok]
  cases hn : Instr.findNow d u es 0 with
  | some r => exact ⟨r, by simp [Sem.run_pure], findNow_ok (w := w) hd hu l es 0 f h hf r hn⟩
  | none => exact findAsking_ok hk hu l es 0 f h hf
theorem EntsR.get {G : Gh} : ∀ {l : List (V × V)} {es : List MapEntry}, EntsR G l es → ∀ {j : Nat} {y : MapEntry}, es[j]? = some y → ∃ x, l[j]? = some x ∧ EntR G x y
  | [], es, h, j, y, hy => by obtain rfl : es = [] := h; simp at hy
  | x :: l, es, h, j, y, hy => by
    obtain ⟨z, t, rfl, h1, h2⟩ := h
    cases j with
    | zero => simp at hy; subst hy; exact ⟨x, rfl, h1⟩
    | succ j => simpa using EntsR.get h2 (by simpa using hy)
theorem EntsR.len {G : Gh} : ∀ {l : List (V × V)} {es : List MapEntry}, EntsR G l es → es.length = l.length
  | [], es, h => by obtain rfl : es = [] := h; rfl
  | x :: l, es, h => by obtain ⟨z, t, rfl, h1, h2⟩ := h; simp [EntsR.len h2]
theorem EntsR.snoc {G : Gh} : ∀ {l : List (V × V)} {es : List MapEntry}, EntsR G l es → ∀ {x : V × V} {y : MapEntry}, EntR G x y → EntsR G (l ++ [x]) (es ++ [y])
  | [], es, h, x, y, hx => by obtain rfl : es = [] := h; exact ⟨y, [], rfl, hx, rfl⟩
  | z :: l, es, h, x, y, hx => by obtain ⟨z', t, rfl, h1, h2⟩ := h; exact ⟨z', t ++ [y], rfl, h1, EntsR.snoc h2 hx⟩
theorem EntsR.erase {G : Gh} : ∀ {l : List (V × V)} {es : List MapEntry}, EntsR G l es → ∀ j, EntsR G (l.eraseIdx j) (es.eraseIdx j)
  | [], es, h, j => by obtain rfl : es = [] := h; exact rfl
  | z :: l, es, h, 0 => by obtain ⟨z', t, rfl, h1, h2⟩ := h; exact h2
  | z :: l, es, h, j + 1 => by obtain ⟨z', t, rfl, h1, h2⟩ := h; exact ⟨z', _, rfl, h1, EntsR.erase h2 j⟩
theorem EntsR.modify {G : Gh} {x : V × V} {f : MapEntry → MapEntry} (hf : ∀ y, EntR G x (f y)) : ∀ {l : List (V × V)} {es : List MapEntry}, EntsR G l es → ∀ j, EntsR G (l.set j x) (es.modify j f)
  | [], es, h, j => by obtain rfl : es = [] := h; simp [EntsR]
  | z :: l, es, h, 0 => by obtain ⟨z', t, rfl, h1, h2⟩ := h; exact ⟨_, t, by simp, hf z', h2⟩
  | z :: l, es, h, j + 1 => by obtain ⟨z', t, rfl, h1, h2⟩ := h; exact ⟨z', _, by simp [List.modify], h1, EntsR.modify hf h2 j⟩
end
end Go.Proofs.YtpmgggfjmkpleaaGreatDoor.E
