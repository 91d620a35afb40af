/- An exact machine, part 5: slices, conversions, literals; new blocks; loads and stores. -/
import Derived.Test.YtpmgggfjmkpleaaGreatDoorE4
namespace Go.Proofs.YtpmgggfjmkpleaaGreatDoor.E
open Go Go.RowKit
set_option linter.unusedVariables false

section
variable {P : Program} {o : Oper} {ts : T} {v : V}
/-! slices -/
def dI (d : Int) : Option Int → Int
  | none => d
  | some i => i
def slcB (n cap : Nat) (lo hi mx : Option Int) : Option (Nat × Nat × Nat) :=
  match ile 0 (dI 0 lo) && (ile (dI 0 lo) (dI n hi) && (ile (dI n hi) (dI cap mx) && ile (dI cap mx) cap)) with
  | true => some ((dI 0 lo).toNat, (dI n hi).toNat, (dI cap mx).toNat)
  | false => none
def OI (v : Option Value) (i : Option Int) : Prop :=
  match v, i with
  | none, none => True
  | some v, some i => ∃ k, v = .int k i
  | _, _ => False
theorem slcB_ok {P : Program} {w : World} {b : Bool} {n n' cap cap' : Nat} {lo hi mx : Option Value} {l h m : Option Int} {x y z : Nat} (hs : slcB n cap l h m = some (x, y, z)) (hl : OI lo l) (hh : OI hi h) (hm : OI mx m) (hmh : mx = none ∨ hi ≠ none) (hn : hi = none → n' = n) (hc : cap ≤ cap') (hc' : mx = none → hi = none → n ≤ cap') :
    x ≤ y ∧ y ≤ z ∧ z ≤ cap ∧ (Instr.sliceBounds b n' cap' lo hi mx).run P w = .ok (x, y, if mx = none then cap' else z) w := by
  have one : ∀ (k : IntKind) (i : Int) (y : Nat) (c : BoundsCode), 0 ≤ i → i ≤ y → (Instr.sliceBound (.int k i) y c).run P w = .ok i.toNat w := by
    intro k i y c h0 h1
    simp only [Instr.sliceBound, asIntOf, Sem.run_bind, Sem.run_pure, Result.andThen_ok]
    rw [if_pos ⟨h0, h1⟩]
    rfl
  unfold slcB at hs
  split at hs
  · rename_i hb
    simp only [Option.some.injEq, Prod.mk.injEq] at hs
    obtain ⟨rfl, rfl, rfl⟩ := hs
    simp only [Bool.and_eq_true, ile_eq, decide_eq_true_eq] at hb
    obtain ⟨b1, b2, b3, b4⟩ := hb
    refine ⟨by omega, by omega, by omega, ?_⟩
    cases lo <;> cases l <;> try exact hl.elim
    all_goals cases hi <;> cases h <;> try exact hh.elim
    all_goals cases mx <;> cases m <;> try exact hm.elim
    all_goals simp only [dI] at b1 b2 b3 b4 ⊢
    · obtain rfl := hn rfl
      simp [Instr.sliceBounds, Sem.run_pure]
    · exact absurd rfl (hmh.resolve_left (by simp))
    · obtain ⟨k1, rfl⟩ := hh
      simp [Instr.sliceBounds, one k1 _ cap' _ (by omega) (by omega)]
    · obtain ⟨k1, rfl⟩ := hh
      obtain ⟨k2, rfl⟩ := hm
      rename_i hv mv
      simp [Instr.sliceBounds, one k2 mv cap' _ (by omega) (by omega), one k1 hv mv.toNat _ (by omega) (by omega)]
    · obtain rfl := hn rfl
      obtain ⟨k0, rfl⟩ := hl
      simp [Instr.sliceBounds, one k0 _ n' _ b1 b2]
    · exact absurd rfl (hmh.resolve_left (by simp))
    · obtain ⟨k0, rfl⟩ := hl
      obtain ⟨k1, rfl⟩ := hh
      rename_i lv hv
      simp [Instr.sliceBounds, one k1 hv cap' _ (by omega) (by omega), one k0 lv hv.toNat _ (by omega) (by omega)]
    · obtain ⟨k0, rfl⟩ := hl
      obtain ⟨k1, rfl⟩ := hh
      obtain ⟨k2, rfl⟩ := hm
      rename_i lv hv mv
      simp [Instr.sliceBounds, one k2 mv cap' _ (by omega) (by omega), one k1 hv mv.toNat _ (by omega) (by omega), one k0 lv hv.toNat _ (by omega) (by omega)]
  · cases hs
noncomputable def oV (ts : T) (x : Option Operand) : Option (Option Int) := Option.rec (some none) (fun x => vInt none (evo ts x) fun _ i => some (some i)) x
theorem oV_ok {G : Gh} {a : Act} {x : Option Operand} {i : Option Int} (h : oV ts x = some i) (hx : ∀ y ∈ x, CR G (evo ts y) (a.eval y)) : OI (x.map a.eval) i := by
  cases x with
  | none => obtain rfl := Option.some.inj h; trivial
  | some y =>
    obtain ⟨k, j, e, h⟩ := vInt_some (show vInt none (evo ts y) (fun _ i => some (some i)) = some i from h)
    obtain rfl := Option.some.inj h
    have := hx y rfl
    rw [e] at this
    exact ⟨k, i_int this⟩
def txV : List Nat → V
  | [] => .str []
  | a :: l => .tx (a :: l)
theorem txV_ok {G : Gh} : ∀ {l : List Nat}, (∀ a ∈ l, (G.env a).length = 16) → CR G (txV l) (.string ⟨(l.flatMap G.env).toArray⟩)
  | [], _ => .str []
  | a :: l, h => .tx (a :: l) h
theorem tx_take {G : Gh} : ∀ {l : List Nat} (k : Nat), (∀ a ∈ l, (G.env a).length = 16) → (l.flatMap G.env).take (16 * k) = (l.take k).flatMap G.env ∧ (l.flatMap G.env).drop (16 * k) = (l.drop k).flatMap G.env
  | [], k, _ => by simp
  | a :: l, 0, _ => by simp
  | a :: l, k + 1, h => by
    have ha := h a (by simp)
    obtain ⟨h1, h2⟩ := tx_take (l := l) k fun b hb => h b (by simp [hb])
    rw [List.flatMap_cons, show 16 * (k + 1) = (G.env a).length + 16 * k by omega, List.take_length_add_append, List.drop_length_add_append, h1, h2]
    simp
noncomputable def pSlice (P : Program) (t : TypeId) (x : V) (lo hi mx : Option Int) : Option V :=
  match P.underlying t, x with
  | some .string, .str s => match mx with
    | none => (match slcB s.length s.length lo hi none with | some (l, h, _) => some (.str ((s.take h).drop l)) | none => none)
    | some _ => none
  | some .string, .tx q => match mx with
    | none => (match slcB (16 * q.length) (16 * q.length) lo hi none with
      | some (l, h, _) => (match Nat.beq (l % 16) 0, Nat.beq (h % 16) 0 with | true, true => some (txV ((q.take (h / 16)).drop (l / 16))) | _, _ => none)
      | none => none)
    | some _ => none
  | some (.slice e), .nils => match sz P e, mx with
    | some _, none => (match slcB 0 0 lo hi none with | some _ => some .nils | none => none)
    | _, _ => none
  | some (.slice e), .emp z => match sz P e, slcB 0 0 lo hi mx with
    | some _, some _ => some (match mx with | some _ => .emp true | none => .emp z)
    | _, _ => none
  | some (.slice e), .sl b o n c op => match sz P e with
    | some k =>
      match op, mx with
      | true, none => match slcB n n lo hi none with
        | some (l, h, _) => match Nat.blt l n with
           | true => some (.sl b (o + l * k) (h - l) (c + l) true)
           | false => some (.emp false)
        | none => none
      | true, some m => match slcB n n lo hi (some m) with
        | some (l, h, m) => some (.sl b (match Nat.beq m l with | true => o | false => o + l * k) (h - l) (m - l) false)
        | none => none
      | false, mx => match slcB n c lo hi mx with
        | some (l, h, m) => some (.sl b (match Nat.beq m l with | true => o | false => o + l * k) (h - l) (m - l) false)
        | none => none
    | none => none
  | some (.array n e), .ptr b o => match sz P e, slcB n n lo hi mx with
    | some k, some (l, h, m) => some (.sl b (match Nat.beq m l with | true => o | false => o + l * k) (h - l) (m - l) false)
    | _, _ => none
  | _, _ => none
theorem beq_if {α : Type} (a b : Nat) (x y : α) : (match Nat.beq a b with | true => x | false => y) = if a = b then x else y := by
  by_cases h : a = b
  · subst h; rw [if_pos rfl]; rw [show Nat.beq a a = true from Nat.beq_refl a]
  · rw [if_neg h]; cases h' : Nat.beq a b with
    | true => exact absurd (Nat.eq_of_beq_eq_true h') h
    | false => rfl
theorem str_extract (s : List UInt8) (a b : Nat) : (⟨s.toArray⟩ : ByteArray).extract a b = ⟨((s.take b).drop a).toArray⟩ := by
  apply ByteArray.ext
  rw [ByteArray.data_extract]
  apply Array.ext'
  simp [List.drop_take]
/-- the place of a part of a slice, when its room is known -/
theorem part_sl {G : Gh} {b p k l h m : Nat} (hal : G.al b) (h1 : l ≤ h) (h2 : h ≤ m) :
    CR G (.sl b (match Nat.beq m l with | true => p | false => p + l * k) (h - l) (m - l) false) (.slice (if m = l then some ⟨G.ρ b, p, none⟩ else (some ⟨G.ρ b, p, none⟩ : Option Addr).map (·.add (l * k))) (h - l) (m - l)) := by
  rw [beq_if]
  have := CR.sl (G := G) b (if m = l then p else p + l * k) (h - l) (m - l) false hal (by show h - l ≤ m - l; omega)
  have e : (if m = l then some (⟨G.ρ b, p, none⟩ : Addr) else (some ⟨G.ρ b, p, none⟩ : Option Addr).map (·.add (l * k))) = some ⟨G.ρ b, if m = l then p else p + l * k, none⟩ := by
    split
    · rfl
    · simp only [Option.map_some, addr_add']
  rw [e]
  exact this
theorem slice_ok {t : TypeId} {x : Operand} {lo hi mx : Option Operand} {l h m : Option Int} (ho : o.op = .slice t x lo hi mx) (hl : oV ts lo = some l) (hh : oV ts hi = some h) (hm : oV ts mx = some m) (hmh : mx = none ∨ hi ≠ none) (hp : pSlice P t (evo ts x) l h m = some v) : PureOK P o ts v := by
  intro G a w ha
  rw [ho] at ha
  have hx := ha x (by simp [Op.operands])
  have il := oV_ok (G := G) (a := a) hl fun y hy => ha y (by simp [Op.operands]; exact .inr (.inl (by simpa using hy)))
  have ih := oV_ok (G := G) (a := a) hh fun y hy => ha y (by simp [Op.operands]; exact .inr (.inr (.inl (by simpa using hy))))
  have im := oV_ok (G := G) (a := a) hm fun y hy => ha y (by simp [Op.operands]; exact .inr (.inr (.inr (by simpa using hy))))
  have hmh' : mx.map a.eval = none ∨ hi.map a.eval ≠ none := hmh.imp (fun e => by rw [e]; rfl) (fun e h => e (by cases hi with | none => rfl | some _ => cases h))
  have nn : ∀ {q : Option Operand} {i : Option Int}, OI (q.map a.eval) i → i = none → q.map a.eval = none := by
    intro q i hq hi
    subst hi
    cases q with
    | none => rfl
    | some _ => exact hq.elim
  have ns : ∀ {q : Option Operand} {i : Int}, OI (q.map a.eval) (some i) → q.map a.eval ≠ none := by
    intro q i hq e
    rw [e] at hq
    exact hq
  have e0 : ∀ r, (Instr.sliceAt t (a.eval x) (lo.map a.eval) (hi.map a.eval) (mx.map a.eval)).run P w = .ok r w → (execOp a.eval o).run P w = .ok (.value r) w := by
    intro r hr
    simp only [execOp, ho, Sem.run_bind, hr, Result.andThen_ok]
    rfl
  unfold pSlice at hp
  split at hp
  · rename_i s hu e
    rw [e] at hx
    have ex := i_str hx
    split at hp
    · have hmn := nn im rfl
      split at hp
      · rename_i a1 a2 a3 hs
        obtain rfl := Option.some.inj hp
        obtain ⟨c1, c2, c3, hr⟩ := slcB_ok (P := P) (w := w) (b := false) (n' := s.length) (cap' := s.length) (mx := none) hs il ih trivial (.inl rfl) (fun _ => rfl) (Nat.le_refl _) (fun _ _ => Nat.le_refl _)
        refine ⟨_, e0 _ ?_, .str _⟩
        rw [hmn, ex]
        simp only [Instr.sliceAt, Sem.run_bind, run_underlying hu, Result.andThen_ok, Instr.slice, str_size, Option.isSome_none, Bool.false_eq_true, if_false, Sem.run_pure, hr, str_extract]
      · cases hp
    · cases hp
  · rename_i q hu e
    rw [e] at hx
    obtain ⟨ex, h16⟩ := i_tx hx
    split at hp
    · have hmn := nn im rfl
      split at hp
      · rename_i a1 a2 a3 hs
        split at hp
        · rename_i m1 m2
          have m1 := Nat.eq_of_beq_eq_true m1
          have m2 := Nat.eq_of_beq_eq_true m2
          obtain rfl := Option.some.inj hp
          rw [← tx_len h16] at hs
          obtain ⟨c1, c2, c3, hr⟩ := slcB_ok (P := P) (w := w) (b := false) (n' := (q.flatMap G.env).length) (cap' := (q.flatMap G.env).length) (mx := none) hs il ih trivial (.inl rfl) (fun _ => rfl) (Nat.le_refl _) (fun _ _ => Nat.le_refl _)
          refine ⟨_, e0 _ ?_, txV_ok (l := (q.take (a2 / 16)).drop (a1 / 16)) fun a ha => h16 a (List.mem_of_mem_take (List.mem_of_mem_drop ha))⟩
          have e2 : ((q.take (a2 / 16)).drop (a1 / 16)).flatMap G.env = ((q.flatMap G.env).take a2).drop a1 := by
            have h2 : ∀ a ∈ q.take (a2 / 16), (G.env a).length = 16 := fun a ha => h16 a (List.mem_of_mem_take ha)
            rw [← (tx_take (a1 / 16) h2).2, ← (tx_take (a2 / 16) h16).1, show 16 * (a1 / 16) = a1 by omega, show 16 * (a2 / 16) = a2 by omega]
          rw [hmn, ex, e2]
          simp only [Instr.sliceAt, Sem.run_bind, run_underlying hu, Result.andThen_ok, Instr.slice, str_size, Option.isSome_none, Bool.false_eq_true, if_false, Sem.run_pure, hr, str_extract]
        · cases hp
      · cases hp
    · cases hp
  · rename_i el hu e
    rw [e] at hx
    split at hp
    · rename_i k hk
      have hmn := nn im rfl
      split at hp
      · rename_i r hs
        obtain ⟨a1, a2, a3⟩ := r
        obtain rfl := Option.some.inj hp
        obtain ⟨c1, c2, c3, hr⟩ := slcB_ok (P := P) (w := w) (b := true) (n' := 0) (cap' := 0) (mx := none) hs il ih trivial (.inl rfl) (fun _ => rfl) (Nat.le_refl _) (fun _ _ => Nat.le_refl _)
        refine ⟨.slice none 0 0, e0 _ ?_, .nils⟩
        have z1 : a1 = 0 := by omega
        have z2 : a2 = 0 := by omega
        subst z1; subst z2
        rw [hmn, show a.eval x = .slice none 0 0 from by cases hx' : a.eval x <;> rw [hx'] at hx <;> cases hx; rfl]
        simp only [Instr.sliceAt, Sem.run_bind, run_underlying hu, Result.andThen_ok, Instr.slice, hr, sz_run hk, Sem.run_pure]
        rfl
      · cases hp
    · cases hp
  · rename_i el z hu e
    rw [e] at hx
    split at hp
    · rename_i k r hk hs
      obtain ⟨a1, a2, a3⟩ := r
      obtain rfl := Option.some.inj hp
      cases hx' : a.eval x with
      | slice q n cap =>
        rw [hx'] at hx
        cases hx with
        | emp z ad _ hz =>
          obtain ⟨d1, d2, d3, hr⟩ := slcB_ok (P := P) (w := w) (b := true) (n' := 0) (cap' := cap) hs il ih im hmh' (fun _ => rfl) (Nat.zero_le _) (fun _ _ => Nat.zero_le _)
          have z1 : a1 = 0 := by omega
          have z2 : a2 = 0 := by omega
          have z3 : a3 = 0 := by omega
          subst z1; subst z2; subst z3
          cases m with
          | none =>
            have hmn := nn im rfl
            rw [hmn] at hr
            refine ⟨.slice (some ad) 0 cap, e0 _ ?_, .emp z ad cap hz⟩
            rw [hx', hmn]
            simp only [Instr.sliceAt, Sem.run_bind, run_underlying hu, Result.andThen_ok, Instr.slice, hr, sz_run hk, Sem.run_pure]
            by_cases hc : cap = 0 <;> simp [hc, Addr.add]
          | some m =>
            have hms := ns im
            rw [if_neg hms] at hr
            refine ⟨.slice (some ad) 0 0, e0 _ ?_, .emp true ad 0 (fun _ => rfl)⟩
            rw [hx']
            simp only [Instr.sliceAt, Sem.run_bind, run_underlying hu, Result.andThen_ok, Instr.slice, hr, sz_run hk, Sem.run_pure]
            rfl
      | _ => rw [hx'] at hx; cases hx
    · cases hp
  · rename_i el b p n c op hu e
    rw [e] at hx
    obtain ⟨ex, hal, hnc⟩ := i_sl hx
    split at hp
    · rename_i k hk
      split at hp
      · have hmn := nn im rfl
        split at hp
        · rename_i a1 a2 a3 hs
          obtain ⟨c1, c2, c3, hr⟩ := slcB_ok (P := P) (w := w) (b := true) (n' := n) (cap' := capV G b c true) (mx := none) hs il ih trivial (.inl rfl) (fun _ => rfl) hnc (fun _ _ => hnc)
          have hd : (Instr.sliceAt t (a.eval x) (lo.map a.eval) (hi.map a.eval) (mx.map a.eval)).run P w = .ok (.slice (if capV G b c true = a1 then some ⟨G.ρ b, p, none⟩ else (some ⟨G.ρ b, p, none⟩ : Option Addr).map (·.add (a1 * k))) (a2 - a1) (capV G b c true - a1)) w := by
            rw [hmn, ex]
            simp only [Instr.sliceAt, Sem.run_bind, run_underlying hu, Result.andThen_ok, Instr.slice, hr, sz_run hk, Sem.run_pure, if_true]
          refine ⟨_, e0 _ hd, ?_⟩
          have hce : capV G b (c + a1) true = capV G b c true - a1 := by simp only [capV, cond_true]; omega
          split at hp
          · rename_i hb
            have hb := Nat.le_of_ble_eq_true hb
            obtain rfl := Option.some.inj hp
            rw [if_neg (by omega)]
            have := CR.sl (G := G) b (p + a1 * k) (a2 - a1) (c + a1) true hal (by rw [hce]; omega)
            rw [hce] at this
            simpa only [Option.map_some, addr_add'] using this
          · rename_i hb
            obtain rfl := Option.some.inj hp
            have hge : n ≤ a1 := by
              rcases Nat.lt_or_ge a1 n with h9 | h9
              · have : Nat.blt a1 n = true := Nat.ble_eq_true_of_le h9
                rw [this] at hb; cases hb
              · exact h9
            have z : a2 - a1 = 0 := by omega
            rw [z]
            split
            · exact .emp false _ _ (fun h => by cases h)
            · exact .emp false _ _ (fun h => by cases h)
        · cases hp
      · rename_i m
        have hms := ns im
        split at hp
        · rename_i a1 a2 a3 hs
          obtain rfl := Option.some.inj hp
          obtain ⟨c1, c2, c3, hr⟩ := slcB_ok (P := P) (w := w) (b := true) (n' := n) (cap' := capV G b c true) hs il ih im hmh' (fun _ => rfl) hnc (fun _ _ => hnc)
          rw [if_neg hms] at hr
          refine ⟨_, e0 _ ?_, part_sl hal c1 c2⟩
          rw [ex]
          simp only [Instr.sliceAt, Sem.run_bind, run_underlying hu, Result.andThen_ok, Instr.slice, hr, sz_run hk, Sem.run_pure]
        · cases hp
      · split at hp
        · rename_i a1 a2 a3 hs
          obtain rfl := Option.some.inj hp
          have hnc' : n ≤ c := hnc
          obtain ⟨c1, c2, c3, hr⟩ := slcB_ok (P := P) (w := w) (b := true) (n' := n) (cap' := c) hs il ih im hmh' (fun _ => rfl) (Nat.le_refl _) (fun _ _ => hnc')
          have e3 : (if mx.map a.eval = none then c else a3) = a3 := by
            split
            · rename_i hq
              cases m with
              | none =>
                unfold slcB at hs
                split at hs
                · simp only [dI, Option.some.injEq, Prod.mk.injEq] at hs; obtain ⟨_, _, rfl⟩ := hs; simp
                · cases hs
              | some m => exact absurd hq (ns im)
            · rfl
          rw [e3] at hr
          refine ⟨_, e0 _ ?_, part_sl hal c1 c2⟩
          rw [ex]
          simp only [Instr.sliceAt, Sem.run_bind, run_underlying hu, Result.andThen_ok, Instr.slice, capV, cond_false, hr, sz_run hk, Sem.run_pure]
        · cases hp
    · cases hp
  · rename_i n el b p hu e
    rw [e] at hx
    obtain ⟨ex, hal⟩ := i_ptr hx
    split at hp
    · rename_i k a1 a2 a3 hk hs
      obtain rfl := Option.some.inj hp
      obtain ⟨c1, c2, c3, hr⟩ := slcB_ok (P := P) (w := w) (b := false) (n' := n) (cap' := n) hs il ih im hmh' (fun _ => rfl) (Nat.le_refl _) (fun _ _ => Nat.le_refl _)
      have e3 : (if mx.map a.eval = none then n else a3) = a3 := by
        split
        · rename_i hq
          cases m with
          | none =>
            unfold slcB at hs
            split at hs
            · simp only [dI, Option.some.injEq, Prod.mk.injEq] at hs; obtain ⟨_, _, rfl⟩ := hs; simp
            · cases hs
          | some m => exact absurd hq (ns im)
        · rfl
      rw [e3] at hr
      have := part_sl (G := G) (b := b) (p := p) (k := k) hal c1 c2
      refine ⟨_, e0 _ ?_, this⟩
      rw [ex]
      simp only [Instr.sliceAt, Sem.run_bind, run_underlying hu, Result.andThen_ok, Instr.sureAddr, hr, sz_run hk, Sem.run_pure]
      split <;> rfl
    · cases hp
  · cases hp
end
end Go.Proofs.YtpmgggfjmkpleaaGreatDoor.E
