/- An exact machine, part 20: regions in any order: the plan; the whole. -/
import Derived.Test.YtpmgggfjmkpleaaGreatDoorE19
namespace Go.Proofs.YtpmgggfjmkpleaaGreatDoor.E
open Go Go.RowKit
set_option linter.unusedVariables false

structure Row where
  p : Nat
  it : It
  ms : Nat
  rd : List Tmp
noncomputable def rowsOf (all : List Oper) (masks : List Nat) (its : List It) : List Row := its.zipIdx.map fun x => { p := x.2, it := x.1, ms := masks.getD x.1.i 0, rd := rds all x.1.o }
theorem rowsOf_mem {all : List Oper} {masks : List Nat} {its : List It} {p : Nat} {it : It} (h : its[p]? = some it) : { p := p, it := it, ms := masks.getD it.i 0, rd := rds all it.o } ∈ rowsOf all masks its := by
  unfold rowsOf
  refine List.mem_map.2 ⟨(it, p), ?_, rfl⟩
  exact List.mem_zipIdx_iff_getElem?.2 h
theorem rowsOf_inv {all : List Oper} {masks : List Nat} {its : List It} {r : Row} (h : r ∈ rowsOf all masks its) : its[r.p]? = some r.it ∧ r.ms = masks.getD r.it.i 0 := by
  unfold rowsOf at h
  obtain ⟨x, h1, rfl⟩ := List.mem_map.1 h
  exact ⟨List.mem_zipIdx_iff_getElem?.1 h1, rfl⟩
def imp (a b : Bool) : Bool := match a with | true => b | false => true
theorem imp_ok {a b : Bool} (h : imp a b = true) (ha : a = true) : b = true := by subst ha; exact h
def sameD (a b : Option Tmp) : Bool := match a, b with | some d, some e => Nat.beq d e | _, _ => false
def readsD (l : List Tmp) (b : Option Tmp) : Bool := match b with | some e => l.any (Nat.beq e) | none => false
def pairOK (r r' : Row) : Bool :=
  imp (Nat.beq r.it.i r'.it.i) (Nat.beq r.p r'.p) && (imp (r.it.ch && Nat.blt r'.p r.p) (r.ms.testBit r'.it.i) && (imp (sameD r.it.o.dst r'.it.o.dst) (Nat.beq r.p r'.p) &&
  (imp (readsD r.rd r'.it.o.dst) (r.ms.testBit r'.it.i || (r'.ms.testBit r.it.i || Nat.beq r.p r'.p)) && imp (r.ms.testBit r'.it.i) (Nat.blt r'.p r.p))))
def rowOK (N : Nat) (rows : List Row) (r : Row) : Bool :=
  Nat.blt r.it.i N && (Nat.blt r.ms (2 ^ N) && ((Nat.beq r.it.lo 0 || rows.any fun r' => Nat.beq r.it.lo (r'.p + 1) && (r'.it.ch && r.ms.testBit r'.it.i)) && rows.all (pairOK r)))
def backOK (l : List (Oper × Nat)) : Bool := l.all fun x => x.1.after.toList.all fun e => imp (Region.binds .any e) (Nat.blt e.on x.2)
noncomputable def mkIts (all : List Oper) (l : List (Nat × Bool × Nat)) : List It := l.map fun x => { i := x.1, o := all.getD x.1 default, ch := x.2.1, lo := x.2.2 }
noncomputable def okIts (all : List Oper) (its : List It) : Bool :=
  backOK all.zipIdx && ((List.range all.length).all (fun i => its.any fun it => Nat.beq it.i i) && (fun rows => List.all rows (rowOK all.length rows)) (rowsOf all (befs [] all) its))
noncomputable def befF (all : List Oper) (i j : Nat) : Bool := ((befs [] all).getD i 0).testBit j
theorem plan_ok {arr : Array Oper} {l : List (Nat × Bool × Nat)} (h : okIts arr.toList (mkIts arr.toList l) = true) :
    Plan arr (befF arr.toList) (mkIts arr.toList l) ∧ ∀ (i : Nat) (o : Oper), arr[i]? = some o → ∀ e ∈ o.after, Region.binds .any e = true → e.on < i := by
  unfold okIts at h
  simp only [Bool.and_eq_true] at h
  obtain ⟨hback, hcov, hrows⟩ := h
  generalize hits : mkIts arr.toList l = its at *
  have hop : ∀ (p : Nat) (it : It), its[p]? = some it → it.o = arr.toList.getD it.i default := by
    intro p it hp
    rw [← hits] at hp
    unfold mkIts at hp
    rw [List.getElem?_map] at hp
    cases hl : l[p]? with
    | none => rw [hl] at hp; cases hp
    | some x => rw [hl] at hp; obtain rfl := Option.some.inj hp; rfl
  have row : ∀ (p : Nat) (it : It), its[p]? = some it → rowOK arr.toList.length (rowsOf arr.toList (befs [] arr.toList) its) { p := p, it := it, ms := (befs [] arr.toList).getD it.i 0, rd := rds arr.toList it.o } = true :=
    fun p it hp => List.all_eq_true.1 hrows _ (rowsOf_mem hp)
  have pair : ∀ (p p' : Nat) (it it' : It), its[p]? = some it → its[p']? = some it' → pairOK { p := p, it := it, ms := (befs [] arr.toList).getD it.i 0, rd := rds arr.toList it.o } { p := p', it := it', ms := (befs [] arr.toList).getD it'.i 0, rd := rds arr.toList it'.o } = true := by
    intro p p' it it' hp hp'
    have := row p it hp
    unfold rowOK at this
    simp only [Bool.and_eq_true] at this
    exact List.all_eq_true.1 this.2.2.2 _ (rowsOf_mem hp')
  have cov : ∀ i, i < arr.size → ∃ (p : Nat) (it : It), its[p]? = some it ∧ it.i = i := by
    intro i hi
    have h1 := List.all_eq_true.1 hcov i (List.mem_range.2 (by simpa using hi))
    obtain ⟨it, h2, h3⟩ := List.any_eq_true.1 h1
    obtain ⟨p, h4⟩ := List.getElem?_of_mem h2
    exact ⟨p, it, h4, Nat.eq_of_beq_eq_true h3⟩
  refine ⟨⟨fun p it hp => ?_, cov, fun p p' it it' hp hp' e => ?_, fun p it j hp hb => ?_, fun p it hp hch p' it' hlt hp' => ?_, fun p p' it it' d hp hp' h1 h2 => ?_, fun p p' it it' d hp hp' h1 h2 => ?_, fun p it hp => ?_⟩, fun i o hi e he hb => ?_⟩
  · have := row p it hp
    unfold rowOK at this
    simp only [Bool.and_eq_true] at this
    have hlt : it.i < arr.toList.length := Nat.le_of_ble_eq_true this.1
    rw [hop p it hp]
    simp only [Array.length_toList] at hlt
    simp [List.getD_eq_getElem?_getD, hlt]
  · have := pair p p' it it' hp hp'
    unfold pairOK at this
    simp only [Bool.and_eq_true] at this
    have h1 := imp_ok this.1 (by rw [e]; exact Nat.beq_refl _)
    exact Nat.eq_of_beq_eq_true h1
  · have h1 := row p it hp
    unfold rowOK at h1
    simp only [Bool.and_eq_true] at h1
    have hm : (befs [] arr.toList).getD it.i 0 < 2 ^ arr.toList.length := Nat.le_of_ble_eq_true h1.2.1
    have hj : j < arr.size := by
      rcases Nat.lt_or_ge j arr.size with h2 | h2
      · exact h2
      · have h3 : (befs [] arr.toList).getD it.i 0 < 2 ^ j := Nat.lt_of_lt_of_le hm (Nat.pow_le_pow_right (by omega) (by simpa using h2))
        unfold befF at hb
        rw [Nat.testBit_lt_two_pow h3] at hb
        cases hb
    obtain ⟨p', it', h2, h3⟩ := cov j hj
    have h4 := pair p p' it it' hp h2
    unfold pairOK at h4
    simp only [Bool.and_eq_true] at h4
    have h5 := imp_ok h4.2.2.2.2 (by rw [h3]; exact hb)
    exact ⟨p', it', Nat.le_of_ble_eq_true h5, h2, h3⟩
  · have h4 := pair p p' it it' hp hp'
    unfold pairOK at h4
    simp only [Bool.and_eq_true] at h4
    exact imp_ok h4.2.1 (by rw [hch]; exact Nat.ble_eq_true_of_le hlt)
  · have h4 := pair p p' it it' hp hp'
    unfold pairOK at h4
    simp only [Bool.and_eq_true] at h4
    exact Nat.eq_of_beq_eq_true (imp_ok h4.2.2.1 (by rw [h1, h2]; exact Nat.beq_refl _))
  · have h4 := pair p p' it it' hp hp'
    unfold pairOK at h4
    simp only [Bool.and_eq_true] at h4
    have h5 := imp_ok h4.2.2.2.1 (by rw [h1]; exact List.any_eq_true.2 ⟨d, h2, Nat.beq_refl _⟩)
    rw [Bool.or_eq_true, Bool.or_eq_true] at h5
    exact h5.imp id (Or.imp id Nat.eq_of_beq_eq_true)
  · have h1 := row p it hp
    unfold rowOK at h1
    simp only [Bool.and_eq_true] at h1
    have h2 := h1.2.2.1
    rw [Bool.or_eq_true] at h2
    rcases h2 with h2 | h2
    · exact .inl (Nat.eq_of_beq_eq_true h2)
    · obtain ⟨r, h3, h4⟩ := List.any_eq_true.1 h2
      simp only [Bool.and_eq_true] at h4
      exact .inr ⟨r.p, r.it, Nat.eq_of_beq_eq_true h4.1, (rowsOf_inv h3).1, h4.2.1, h4.2.2⟩
  · unfold backOK at hback
    have h1 := List.all_eq_true.1 hback (o, i) (List.mem_zipIdx_iff_getElem?.2 (by simpa using hi))
    have h2 := List.all_eq_true.1 h1 e (by simpa using he)
    exact Nat.le_of_ble_eq_true (imp_ok h2 hb)
/-! the whole -/
noncomputable def s0 (ts : T) (n : Nat) (m : M) : S := { hs := [(0, n, m)], p := 0, ts := ts, n := n, m := m, v := .unk, x := none }
noncomputable def drO (o : Option S) : Out := Option.rec .fail (fun s => .nrm s.ts s.n s.m) o
noncomputable def drG (all : List Oper) (its : List It) (ok : Bool) : K := fun P call fl ts n m => Bool.rec .fail (drO (evL all P call fl its (s0 ts n m))) ok
theorem run_of {all : List Oper} {P : Program} {call : CallT} {fl : Nat} {its : List It} {s sf : S} (h : evL all P call fl its s = some sf) : ∃ st : Nat → S, st 0 = s ∧ st its.length = sf ∧ ∀ (p : Nat) (it : It), its[p]? = some it → stD all it P call fl (st p) = some (st (p + 1)) := by
  have pre : ∀ p, p ≤ its.length → ∃ s', evL all P call fl (its.take p) s = some s' := by
    intro p hp
    have := h
    rw [← List.take_append_drop p its, evL_append] at this
    cases hh : evL all P call fl (its.take p) s with
    | none => rw [hh] at this; cases this
    | some s' => exact ⟨s', rfl⟩
  refine ⟨fun p => (evL all P call fl (its.take p) s).getD s, by rfl, by simp [h], fun p it hp => ?_⟩
  have hlt : p < its.length := (List.getElem?_eq_some_iff.1 hp).1
  obtain ⟨s1, h1⟩ := pre p (by omega)
  obtain ⟨s2, h2⟩ := pre (p + 1) hlt
  have e : its.take (p + 1) = its.take p ++ [it] := by rw [List.take_add_one, hp]; rfl
  have h3 := h2
  rw [e, evL_append, h1] at h3
  simp only [h1, h2, Option.getD_some]
  have h3 : Option.rec (motive := fun _ => Option S) none some (stD all it P call fl s1) = some s2 := h3
  cases hs : stD all it P call fl s1 with
  | none => rw [hs] at h3; cases h3
  | some s' => rw [hs] at h3; exact h3
theorem drG_ok {P : Program} (hm : P.follows .mixedOrders = true) {nt id : Nat} {arr : Array Oper} (l : List (Nat × Bool × Nat)) (hd : dOks nt arr.toList = true) : ExOK P nt (.region id arr true) (drG arr.toList (mkIts arr.toList l) (okIts arr.toList (mkIts arr.toList l))) := by
  intro call fl ts n m hc hne
  cases hok : okIts arr.toList (mkIts arr.toList l) with
  | false => rw [hok] at hne; exact absurd rfl hne
  | true =>
    rw [hok] at hne
    obtain ⟨hpl, hback⟩ := plan_ok hok
    generalize mkIts arr.toList l = its at *
    have e : drG arr.toList its true P call fl ts n m = drO (evL arr.toList P call fl its (s0 ts n m)) := rfl
    rw [e] at hne ⊢
    cases hev : evL arr.toList P call fl its (s0 ts n m) with
    | none => rw [hev] at hne; exact absurd rfl hne
    | some sf =>
      obtain ⟨st, hs0, hsf, hst⟩ := run_of hev
      have hr : Run P call fl arr its st ts n m := ⟨hs0, hst⟩
      have hnN : n ≤ sf.n := by
        have := hr.le hc (Nat.zero_le its.length) (Nat.le_refl _)
        rw [hs0, hsf] at this
        exact this
      refine ⟨hnN, fun B w G a Q hmr ht hdf hfl hfr hK => wp_region_any hm ?_⟩
      have hfr : Free G n sf.n := hfr
      have hK : KO fl B n m w G nt Q (.nrm sf.ts sf.n sf.m) := hK
      have hbel : Below w.heap.size w { w with drawn := w.drawn + 1 } := (Below.refl _ w).drew
      have hq := hmr.quiet hbel fl
      have hK := KO.after hmr hq hfl hK
      have h0 := hq.memr.toF
      have hd' := List.all_eq_true.1 hd
      have hdst : ∀ (p : Nat) (it : It), its[p]? = some it → dstOk nt it.o.dst = true := fun p it hp => hd' _ (by have := hpl.op p it hp; simpa using Array.mem_of_getElem? this)
      refine wpAny_two (arr.size) arr.size rfl (Nat.le_refl _) hback (befF arr.toList) (fun i o hi j hj => ?_) (fun i h1 h2 => absurd h2 (by omega))
        (J B fl sf.n nt { w with drawn := w.drawn + 1 } G ts n m its st) (fun _ a w => Q .normal a w)
        (fun D a w i o hi ho hD _ hb hcl hj K hKk => ?_) (fun D a w hall _ hj => ?_) (fun k a w o h1 h2 => absurd (Array.getElem?_eq_some_iff.1 h2).1 (by omega)) (fun a w h => h) ?_
      · obtain ⟨e, h1, h2, h3⟩ := befs_get arr.toList [] i o (by simpa using hi) j (by simpa [befF] using hj)
        exact ⟨e, by simpa using h1, h2, h3⟩
      · obtain ⟨p, it, h1, h2⟩ := hpl.all i hi
        have h3 := hpl.op p it h1
        rw [h2, ho] at h3
        obtain rfl := Option.some.inj h3
        subst h2
        exact hj.turn h0 hfl hpl hc hr (by rw [hsf]; exact Nat.le_refl _) h1 hD (hdst p it h1) hb hcl K hKk
      · obtain ⟨q, G', g, h⟩ := hj
        have hallD : ∀ (r : Nat) (it : It), its[r]? = some it → D it.i = true := fun r it h1 => hall _ (by have := hpl.op r it h1; exact (Array.getElem?_eq_some_iff.1 this).1)
        have hsub := h.sub hc hr (Nat.le_refl _) h.q1 (fun r it _ h1 => hallD r it h1)
        rw [hsf] at hsub
        refine hK a w G' (h.post.post hnN hsub) ⟨h.size, fun t => ?_⟩ h.dfs
        rcases hr.tmp t (Nat.le_refl its.length) with h1 | ⟨r, it, _, h2, h3, h4⟩ | ⟨h1, h2⟩
        · rw [hsf] at h1; rw [h1]; exact .unk _
        · rw [hsf] at h4; rw [h4]; exact h.t1 r it t h2 (hallD r it h2) h3
        · rw [hsf] at h2; rw [h2]
          exact h.t2 t fun r it h3 _ => h1 r it (List.getElem?_eq_some_iff.1 h3).1 h3
      · have nal : ∀ b, n ≤ b → b < sf.n → ¬ G.al b := hfr
        refine ⟨0, G, M.get m, Nat.zero_le _, .inl rfl, fun r it h1 => absurd h1 (by omega), fun r it _ _ h1 => (by cases h1), PostF.refl h0 hfr, fun b _ => by rw [hs0]; rfl, fun r it x _ _ h1 => (by cases h1), fun b h1 h2 => ?_, fun b h1 h2 h3 => ?_, fun r it d _ h1 => (by cases h1), fun t _ => ht.val t, ht.size, hdf⟩
        · rw [hs0] at h1 ⊢
          exact Classical.byContradiction fun hl => nal b h1 h2 (h0.own b hl).2.2
        · rw [hs0] at h2
          exact absurd h1 (nal b h2 h3)
/-! a plan for each region -/
noncomputable def isCh (o : Oper) : Bool := match o.op with
  | .store .. => true
  | .mapUpdate .. => true
  | .insert .. => true
  | .next .. => true
  | .call c => (match c.callee with | .builtin .len => false | .builtin .cap => false | .builtin .min => false | _ => true)
  | _ => false
noncomputable def sched (N : Nat) (masks : List Nat) (chs : List Nat) : Nat → List Nat := List.rec (fun dm => (List.range N).filter fun i => !(dm.testBit i)) (fun c _ ih dm => ((List.range N).filter fun i => (masks.getD c 0).testBit i && !(dm.testBit i)) ++ c :: ih (dm ||| (masks.getD c 0) ||| 2 ^ c)) chs
noncomputable def planL (all : List Oper) : List (Nat × Bool × Nat) :=
  (fun masks : List Nat => (fun chs : List Nat => (fun sc : List Nat => sc.map fun i => (i, chs.contains i, sc.zipIdx.foldl (fun acc x => match chs.contains x.1 && (masks.getD i 0).testBit x.1 with | true => Nat.max acc (x.2 + 1) | false => acc) 0)) (sched all.length masks chs 0)) ((all.zipIdx.filter fun x => isCh x.1).map (·.2))) (befs [] all)
noncomputable def dr (arr : Array Oper) : K := drG arr.toList (mkIts arr.toList (planL arr.toList)) (okIts arr.toList (mkIts arr.toList (planL arr.toList)))
theorem dr_ok {P : Program} (hm : P.follows .mixedOrders = true) : DrOK P dr := fun nt id arr hd => drG_ok hm _ hd
end Go.Proofs.YtpmgggfjmkpleaaGreatDoor.E
