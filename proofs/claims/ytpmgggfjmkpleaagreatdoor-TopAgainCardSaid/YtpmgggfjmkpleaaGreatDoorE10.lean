/- An exact machine, part 10: operations on maps, copies, conversions, iterators, builtins. -/
import Derived.Test.YtpmgggfjmkpleaaGreatDoorE9
namespace Go.Proofs.YtpmgggfjmkpleaaGreatDoor.E
open Go Go.RowKit
set_option linter.unusedVariables false

section
variable {P : Program} {o : Oper} {ts : T} {v : V} {fl n : Nat} {m : M}
theorem run_getObj' {w : World} {b : Nat} {es : Array MapEntry} {clock : Nat} (h : w.heap[b]? = some (.map es clock)) : (getObj b).run P w = .ok (.map es clock) w := by
  simp [getObj, Sem.run, h]
/-- the zero value as one value -/
noncomputable def zv1 (P : Program) (t : TypeId) : Option V := match zc P t, isAggT P t with
  | some z, some true => some (.agg z)
  | some z, some false => match z with | [x] => some x | _ => none
  | _, _ => none
def notAgg (P : Program) (t : TypeId) : Bool := match P.info? t with | some i => (match i.zero with | some (.agg _) => (match isAggT P t with | some true => true | _ => false) | some (.tuple _) => false | some _ => (match isAggT P t with | some false => true | _ => false) | none => false) | none => false
theorem zv1_run {w : World} {t : TypeId} {x : V} (h : zv1 P t = some x) (hn : notAgg P t = true) : ∃ z, (zeroValue t).run P w = .ok z w ∧ ∀ G, CR G x z := by
  unfold zv1 at h
  unfold notAgg at hn
  split at hn
  case h_2 => cases hn
  rename_i inf hi
  have zr : ∀ zz, inf.zero = some zz → (zeroValue t).run P w = .ok zz w := by
    intro zz hz
    have h1 : (typeInfo t).run P w = .ok inf w := by
      unfold typeInfo program
      simp only [Sem.run_bind]
      simp only [Sem.run, hi, Result.andThen]
      rfl
    unfold zeroValue
    simp only [Sem.run_bind, h1, Result.andThen_ok, hz]
    rfl
  have zl : ∀ z zz, zc P t = some z → inf.zero = some zz → ∀ G, L1 G z zz.cells.toList := by
    intro z zz hz hzz G
    unfold zc at hz
    rw [hi] at hz
    simp only [hzz] at hz
    split at hz
    · rename_i hone
      obtain rfl := Option.some.inj hz
      exact ⟨cvs_ok G _, List.all_eq_true.1 hone⟩
    · cases hz
  split at hn
  · rename_i cs hz
    split at hn
    case h_2 => cases hn
    rename_i hag
    rw [hag] at h
    split at h
    · rename_i z hzc _
      obtain rfl := Option.some.inj h
      refine ⟨_, zr _ hz, fun G => ?_⟩
      have := agg_of (zl _ _ hzc hz G)
      simpa [Value.cells] using this
    · rename_i hf; cases hf
    · cases h
  · cases hn
  · rename_i zz h1 h2 hz
    split at hn
    case h_2 => cases hn
    rename_i hag
    rw [hag] at h
    split at h
    · rename_i hf; cases hf
    · rename_i z hzc _
      split at h
      · obtain rfl := Option.some.inj h
        refine ⟨_, zr _ hz, fun G => ?_⟩
        have hl := zl _ _ hzc hz G
        have : zz.cells = #[zz] := by cases zz <;> first | rfl | exact absurd rfl (h1 _) | exact absurd rfl (h2 _)
        rw [this] at hl
        exact hl.lr.2 0
      · cases h
    · cases h
  · cases hn
noncomputable def pLookup (P : Program) (t : TypeId) (k : V) (ok : Bool) (es : List (V × V)) : Option V :=
  match P.underlying t with
  | some (.map kt et) => match keyT P kt && (lenOk P kt k && notAgg P et), zv1 P et, mfind P kt k es with
    | true, some z, some f => match f with
      | none => some (match ok with | true => .tup [z, .bool false] | false => z)
      | some i => match es[i]? with
        | some (_, x) => some (match ok with | true => .tup [x, .bool true] | false => x)
        | none => none
    | _, _, _ => none
  | _ => none
theorem cr_pair {G : Gh} {a b : V} {x y : Value} (h : CR G a x) (k : CR G b y) : CR G (.tup [a, b]) (.tuple #[x, y]) := by
  have := (LR.nil (G := G)).cons k |>.cons h
  exact .tup _ _ this.1 this.2
theorem lookup_run {w : World} {G : Gh} {t : TypeId} {k : V} {ok : Bool} {es : List (V × V)} {ys : List MapEntry} {um ux : Value} (h : pLookup P t k ok es = some v) (hk : CR G k ux) (hes : EntsR G es ys) (hmap : um = .map none ∧ ys = [] ∨ ∃ r c, um = .map (some r) ∧ w.heap[r]? = some (.map ys.toArray c)) :
    ∃ r, (Instr.lookup t um ux ok).run P w = .ok r w ∧ CR G v r := by
  unfold pLookup at h
  split at h
  case h_2 => cases h
  rename_i kt et hu
  split at h
  case h_2 => cases h
  rename_i z f hc hz hf
  simp only [Bool.and_eq_true] at hc
  obtain ⟨hkt, hlen, hna⟩ := hc
  have hck := check_ok (w := w) (em := ys.toArray.isEmpty) hkt hlen hk 9998
  obtain ⟨zz, hzr, hzc⟩ := zv1_run (w := w) hz hna
  obtain ⟨r, hr, hfound⟩ := findKey_ok (w := w) hkt hk hes hf
  have hes' : (match um with
      | .map none => pure #[]
      | .map (some r) => do
        let .map es _ ← getObj r | stuck "Lookup: map expected"
        pure es
      | _ => stuck "Lookup: map expected" : Sem (Array MapEntry)).run P w = .ok ys.toArray w := by
    rcases hmap with ⟨rfl, rfl⟩ | ⟨r', c, rfl, hobj⟩
    · rfl
    · simp only [Sem.run_bind, run_getObj' hobj, Result.andThen_ok]; rfl
  have hck' : (Instr.checkKey ys.toArray.isEmpty 10000 kt ux).run P w = .ok () w := hck
  cases f with
  | none =>
    obtain rfl : r = none := hfound
    obtain rfl := Option.some.inj h
    refine ⟨if ok then .tuple #[zz, .bool false] else zz, ?_, ?_⟩
    · simp only [Instr.lookup, Sem.run_bind, run_underlying hu, Result.andThen_ok]
      rcases hmap with ⟨rfl, rfl⟩ | ⟨r', c, rfl, hobj⟩
      · simp only [Sem.run_pure, Result.andThen_ok, hck', hr, Sem.run_bind, hzr]
        try cases ok <;> rfl
      · simp only [Sem.run_bind, run_getObj' hobj, Result.andThen_ok, Sem.run_pure, hck', hr, hzr]
        try cases ok <;> rfl
    · cases ok
      · exact hzc G
      · exact cr_pair (hzc G) (.bool _)
  | some i =>
    obtain ⟨y, hy, rfl⟩ := hfound
    obtain ⟨x, hx, hxy⟩ := EntsR.get hes hy
    simp only [hx] at h
    obtain rfl := Option.some.inj h
    refine ⟨if ok then .tuple #[y.val, .bool true] else y.val, ?_, ?_⟩
    · simp only [Instr.lookup, Sem.run_bind, run_underlying hu, Result.andThen_ok]
      rcases hmap with ⟨rfl, rfl⟩ | ⟨r', c, rfl, hobj⟩
      · simp only [Sem.run_pure, Result.andThen_ok, hck', hr, Sem.run_bind]
        try cases ok <;> rfl
      · simp only [Sem.run_bind, run_getObj' hobj, Result.andThen_ok, Sem.run_pure, hck', hr]
        try cases ok <;> rfl
    · cases ok
      · exact hxy.2
      · exact cr_pair hxy.2 (.bool _)
noncomputable def oLookup (P : Program) (n : Nat) (m : M) (t : TypeId) (mv k : V) (ok : Bool) : R :=
  match mv with
  | .nilm => (match pLookup P t k ok [] with | some v => .ok v n m | none => .fail)
  | .mp b => (match M.get m b with | .map es => (match pLookup P t k ok es with | some v => .ok v n m | none => .fail) | _ => .fail)
  | _ => .fail
theorem lookup_ok {t : TypeId} {x y : Operand} {ok : Bool} {n' : Nat} {m' : M} (ho : o.op = .lookup t x y ok) (h : oLookup P n m t (evo ts x) (evo ts y) ok = .ok v n' m') : OpOK P o ts fl n m v n' m' := by
  refine op_of_run fun B w G a hm ha hfl => ?_
  rw [ho] at ha
  have hx := ha x (by simp [Op.operands])
  have hy := ha y (by simp [Op.operands])
  unfold oLookup at h
  have fin : ∀ r, (Instr.lookup t (a.eval x) (a.eval y) ok).run P w = .ok r w → (execOp a.eval o).run P w = .ok (.value r) w := by
    intro r hr
    simp only [execOp, ho, Sem.run_bind, hr, Result.andThen_ok]
    rfl
  split at h
  · rename_i e
    rw [e] at hx
    split at h
    case h_2 => cases h
    rename_i v' hp
    simp only [R.ok.injEq] at h
    obtain ⟨rfl, rfl, rfl⟩ := h
    obtain ⟨r, hr, hv⟩ := lookup_run (P := P) (w := w) (um := a.eval x) (ys := []) hp hy rfl (.inl ⟨by cases hx' : a.eval x <;> rw [hx'] at hx <;> cases hx; rfl, rfl⟩)
    exact ⟨r, w, G, fin r hr, Post.refl hm fl, hv⟩
  · rename_i b e
    rw [e] at hx
    split at h
    case h_2 => cases h
    rename_i es hget
    split at h
    case h_2 => cases h
    rename_i v' hp
    simp only [R.ok.injEq] at h
    obtain ⟨rfl, rfl, rfl⟩ := h
    have hbk := hm.blk b
    rw [hget] at hbk
    obtain ⟨ys, clock, h1, h2⟩ := hbk
    obtain ⟨r, hr, hv⟩ := lookup_run (P := P) (w := w) (um := a.eval x) hp hy h2 (.inr ⟨_, clock, by cases hx' : a.eval x <;> rw [hx'] at hx <;> cases hx; rfl, h1⟩)
    exact ⟨r, w, G, fin r hr, Post.refl hm fl, hv⟩
  · cases h
theorem run_setObj' {w : World} {b : Nat} {o : Obj} {es0 : Array MapEntry} {c0 : Nat} (h : w.heap[b]? = some (.map es0 c0)) : ∃ w', (setObj b o).run P w = .ok () w' ∧ Rest w w' ∧ w'.heap.size = w.heap.size ∧ (∀ k, k ≠ b → w'.heap[k]? = w.heap[k]?) ∧ w'.heap[b]? = some o := by
  have hlt : b < w.heap.size := (Array.getElem?_eq_some_iff.1 h).1
  refine ⟨{ w with heap := w.heap.setIfInBounds b o }, ?_, ⟨rfl, rfl, rfl, by simp⟩, by simp, fun k hk => ?_, ?_⟩
  · simp [setObj, Sem.run, h]
  · simp [Array.getElem?_setIfInBounds, Ne.symm hk]
  · simp [Array.getElem?_setIfInBounds, hlt]
/-- keys that stay as they are when written again -/
def plainV : V → Bool
  | .int _ _ => true
  | .str _ => true
  | .bool _ => true
  | _ => false
theorem sameBits_of {G : Gh} {t : TypeId} {w : World} {a b : V} {u u' : Value} (h : keq P t a b = some true) (hp : plainV a = true) (ha : CR G a u) (hb : CR G b u') : Instr.sameBits 10000 u' u = true := by
  unfold keq at h
  split at h
  · cases hp
  · unfold keq0 at h
    split at h
    · obtain ⟨k, x, y, rfl, rfl, h⟩ := keqI_ok h ha hb
      have := beq_iff_eq.1 h
      subst this
      simp [Instr.sameBits]
    · have h := Option.some.inj h
      rw [i_str ha, i_str hb]
      have := beq_iff_eq.1 h
      subst this
      show (({ data := _ } : ByteArray) == { data := _ }) = true
      rw [show ∀ (x y : Array UInt8), (({ data := x } : ByteArray) == { data := y }) = (x == y) from fun _ _ => rfl]
      simp
    · have h := Option.some.inj h
      rw [i_bool ha, i_bool hb]
      have := beq_iff_eq.1 h
      subst this
      simp [Instr.sameBits]
    · cases h
theorem mfind_keq : ∀ {t : TypeId} {k : V} {l : List (V × V)} {i : Nat}, mfind P t k l = some (some i) → ∃ x, l[i]? = some x ∧ keq P t k x.1 = some true
  | t, k, [], i, h => by cases h
  | t, k, (k', v') :: l, i, h => by
    simp only [mfind] at h
    split at h
    · rename_i hq
      obtain rfl := Option.some.inj (Option.some.inj h)
      exact ⟨_, rfl, hq⟩
    · split at h
      · rename_i j hj
        obtain rfl := Option.some.inj (Option.some.inj h)
        obtain ⟨x, h1, h2⟩ := mfind_keq hj
        exact ⟨x, by simpa using h1, h2⟩
      · rename_i hno; exact absurd h (hno i)
    · cases h
noncomputable def oMapU (P : Program) (fl n : Nat) (m : M) (t : TypeId) (mv k x : V) : R :=
  match mv with
  | .mp b => match M.get m b, P.underlying t with
    | .map es, some (.map kt _) => match keyT P kt && (lenOk P kt k && Nat.ble fl b), mfind P kt k es with
      | true, some none => .ok (.tup []) n (M.set m b (.map (es ++ [(k, x)])))
      | true, some (some i) => match plainV k with
        | true => .ok (.tup []) n (M.set m b (.map (es.set i (k, x))))
        | false => .fail
      | _, _ => .fail
    | _, _ => .fail
  | _ => .fail
theorem mapU_ok {t : TypeId} {x y z : Operand} {n' : Nat} {m' : M} (ho : o.op = .mapUpdate t x y z) (h : oMapU P fl n m t (evo ts x) (evo ts y) (evo ts z) = .ok v n' m') : OpOK P o ts fl n m v n' m' := by
  intro B w G a hm ha hfl next Q hn
  rw [ho] at ha
  have hx := ha x (by simp [Op.operands])
  have hy := ha y (by simp [Op.operands])
  have hz := ha z (by simp [Op.operands])
  unfold oMapU at h
  split at h
  case h_2 => cases h
  rename_i b e
  rw [e] at hx
  have ex : a.eval x = .map (some (G.ρ b)) := by cases hx' : a.eval x <;> rw [hx'] at hx <;> cases hx; rfl
  split at h
  case h_2 => cases h
  rename_i es kt et hget hu
  have hbk := hm.blk b
  rw [hget] at hbk
  obtain ⟨ys, clock, h1, h2⟩ := hbk
  have hlive : live m b := by unfold live; rw [hget]; exact fun h => by cases h
  have fin : ∀ (es' : List (V × V)) (ys' : List MapEntry) (c' : Nat), (∀ w', (setObj (G.ρ b) (.map ys'.toArray c')).run P w = .ok () w' → (Instr.mapUpdate t (a.eval x) (a.eval y) (a.eval z)).run P w = .ok () w') → EntsR G es' ys' → fl ≤ b → v = .tup [] → n' = n → m' = M.set m b (.map es') → o.wp P a w next Q := by
    intro es' ys' c' hr he hf hv hn' hm'
    subst hv; subst hn'; subst hm'
    obtain ⟨w', k1, k2, k3, k4, k5⟩ := run_setObj' (P := P) (o := .map ys'.toArray c') h1
    have := hr w' k1
    unfold Oper.wp
    have e2 : (execOp a.eval o).run P w = .ok .skip w' := by simp only [execOp, ho, Sem.run_bind, this, Result.andThen_ok]; rfl
    rw [e2]
    exact hn undef w' G ((hm.write (x := .map es') hlive k2 k3 k4 ⟨ys', c', k5, he⟩).mono hf) (cr_undef G)
  split at h
  · rename_i hc hf
    simp only [Bool.and_eq_true] at hc
    obtain ⟨hkt, hlen, hfb⟩ := hc
    have hfb := Nat.le_of_ble_eq_true hfb
    simp only [R.ok.injEq] at h
    obtain ⟨rfl, rfl, rfl⟩ := h
    have hck := check_ok (w := w) (em := false) hkt hlen hy 9998
    obtain ⟨r, hr, hfound⟩ := findKey_ok (w := w) hkt hy h2 hf
    obtain rfl : r = none := hfound
    refine fin (es ++ [(evo ts y, evo ts z)]) (ys ++ [({ key := a.eval y, val := a.eval z, born := clock } : MapEntry)]) (clock + 1) (fun w' hs => ?_) (h2.snoc ⟨hy, hz⟩) hfb rfl rfl rfl
    have hck' : (Instr.checkKey false 10000 kt (a.eval y)).run P w = .ok () w := hck
    have e3 : ys.toArray.push ({ key := a.eval y, val := a.eval z, born := clock } : MapEntry) = (ys ++ [({ key := a.eval y, val := a.eval z, born := clock } : MapEntry)]).toArray := by simp
    simp only [Instr.mapUpdate, ex, Sem.run_bind, run_underlying hu, Result.andThen_ok, run_getObj' h1, hck', hr, e3, hs]
  · rename_i i hc hf
    simp only [Bool.and_eq_true] at hc
    obtain ⟨hkt, hlen, hfb⟩ := hc
    have hfb := Nat.le_of_ble_eq_true hfb
    split at h
    case h_2 => cases h
    rename_i hpl
    simp only [R.ok.injEq] at h
    obtain ⟨rfl, rfl, rfl⟩ := h
    have hck := check_ok (w := w) (em := false) hkt hlen hy 9998
    obtain ⟨r, hr, y0, hy0, rfl⟩ := findKey_ok (w := w) hkt hy h2 hf
    obtain ⟨x0, hx0, hx1⟩ := EntsR.get h2 hy0
    obtain ⟨x1, hx2, hq⟩ := mfind_keq hf
    rw [hx0] at hx2
    obtain rfl := Option.some.inj hx2
    have hsb := sameBits_of (w := w) hq hpl hy hx1.1
    refine fin (es.set i (evo ts y, evo ts z)) (ys.modify i fun e => { e with key := a.eval y, val := a.eval z }) clock (fun w' hs => ?_) (EntsR.modify (fun y' => ⟨hy, hz⟩) h2 i) hfb rfl rfl rfl
    have hck' : (Instr.checkKey false 10000 kt (a.eval y)).run P w = .ok () w := hck
    have hks : (Instr.keyThatStays (((ys.toArray[0 + i]?).map (·.key)).getD (a.eval y)) (a.eval y)).run P w = .ok (a.eval y) w := by
      have : ys.toArray[0 + i]? = some y0 := by rw [Nat.zero_add]; simpa using hy0
      rw [this]
      simp only [Option.map_some, Option.getD_some, Instr.keyThatStays, hsb, if_true]
      rfl
    have e3 : ys.toArray.modify (0 + i) (fun e => { e with key := a.eval y, val := a.eval z }) = (ys.modify i fun e => { e with key := a.eval y, val := a.eval z }).toArray := by rw [Nat.zero_add]; simp
    simp only [Instr.mapUpdate, ex, Sem.run_bind, run_underlying hu, Result.andThen_ok, run_getObj' h1, hck', hr, hks, e3, hs]
  · cases h
end
end Go.Proofs.YtpmgggfjmkpleaaGreatDoor.E
