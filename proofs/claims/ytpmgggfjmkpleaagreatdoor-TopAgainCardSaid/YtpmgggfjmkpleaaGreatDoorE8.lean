/- An exact machine, part 8: operations in general; append. -/
import Derived.Test.YtpmgggfjmkpleaaGreatDoorE7b
import Derived.Laws.Append
namespace Go.Proofs.YtpmgggfjmkpleaaGreatDoor.E
open Go Go.RowKit
set_option linter.unusedVariables false

/-- an operation, from this memory -/
def OpOK (P : Program) (o : Oper) (ts : T) (fl n : Nat) (m : M) (v : V) (n' : Nat) (m' : M) : Prop :=
  ∀ (B : Nat) (w : World) (G : Gh) (a : Act), MemR B w G n m → ORel G o.op ts a → (fl ≤ n ∧ Free G n n') → ∀ (next : Act → World → Prop) (Q : Exit → Act → World → Prop),
    (∀ x w' G', Post B n m w G n' m' w' G' fl → CR G' v x → next (a.put o.dst x) w') → o.wp P a w next Q
section
variable {P : Program} {o : Oper} {ts : T} {v : V} {fl n : Nat} {m : M}
theorem PureOK.op (h : PureOK P o ts v) : OpOK P o ts fl n m v n m := by
  intro B w G a hm ha hfl next Q hn
  obtain ⟨x, hr, hv⟩ := h G a w ha
  unfold Oper.wp
  rw [hr]
  exact hn x w G (Post.refl hm fl) hv
theorem NewOK.op {b : Bk} (h : NewOK P o ts n v b) : OpOK P o ts fl n m v (n + 1) (M.set m n b) := by
  intro B w G a hm ha hfl next Q hn
  obtain ⟨x, ob, hr, hv⟩ := h G a w ha
  unfold Oper.wp
  rw [hr]
  obtain ⟨h1, h2⟩ := hv (G.put n w.heap.size 0) (Gh.put_ext _ _ (hfl.2 n (Nat.le_refl _) (by omega))) (.inl rfl) (Gh.put_ρ _ _ _ _)
  exact hn x _ _ ((hm.more (hfl.2 n (Nat.le_refl _) (by omega)) ((Below.refl _ _).alloc (Nat.le_refl _) _) (Nat.le_refl _) (by simp) h1).mono hfl.1) h2
theorem LdOK.op {b : Nat} {bk : Bk} (hb : M.get m b = bk) (h : LdOK P o ts b bk v) : OpOK P o ts fl n m v n m := by
  intro B w G a hm ha hfl next Q hn
  have hbk := hm.blk b
  rw [hb] at hbk
  obtain ⟨x, hr, hv⟩ := (h G a w ha).2 hbk
  unfold Oper.wp
  rw [hr]
  exact hn x w G (Post.refl hm fl) hv
theorem cr_undef (G : Gh) : CR G (.tup []) undef := .tup [] [] rfl fun i => .unk _
theorem StOK.op {b : Nat} {bk bk' : Bk} (hb : M.get m b = bk) (hd : bk ≠ .dead) (hf : fl ≤ b) (h : StOK P o ts b bk bk') : OpOK P o ts fl n m (.tup []) n (M.set m b bk') := by
  intro B w G a hm ha hfl next Q hn
  have hbk := hm.blk b
  rw [hb] at hbk
  obtain ⟨w', hr, h1, h2, h3, h4⟩ := h G a w ha hbk
  unfold Oper.wp
  rw [hr]
  exact hn undef w' G ((hm.write (by unfold live; rw [hb]; exact hd) h1 h2 h3 h4).mono hf) (cr_undef G)
/-- in general: a run that yields a value -/
theorem op_of_run {n' : Nat} {m' : M} (h : ∀ (B : Nat) (w : World) (G : Gh) (a : Act), MemR B w G n m → ORel G o.op ts a → (fl ≤ n ∧ Free G n n') → ∃ x w' G', (execOp a.eval o).run P w = .ok (.value x) w' ∧ Post B n m w G n' m' w' G' fl ∧ CR G' v x) : OpOK P o ts fl n m v n' m' := by
  intro B w G a hm ha hfl next Q hn
  obtain ⟨x, w', G', hr, h1, h2⟩ := h B w G a hm ha hfl
  unfold Oper.wp
  rw [hr]
  exact hn x w' G' h1 h2
end
/-! append -/
section
variable {P : Program}
/-- what is appended: how many elements, their cells -/
noncomputable def srcV0 (m : M) (k : Nat) (x : V) : Option (Nat × List V) :=
  match x with
  | .nils => some (0, [])
  | .emp _ => some (0, [])
  | .sl b o q _ _ => match slCells k o q (M.get m b) with | some l => some (q, l) | none => none
  | _ => none
structure Src (w : World) (G : Gh) (k : Nat) (x : Value) (q : Nat) (l : List V) : Prop where
  len : l.length = q * k
  is : ∃ ad c, x = .slice ad q c ∧ (0 < q → ∃ b us, ad = some b ∧ L1 G l us ∧ us.length = q * k ∧ ∀ j u, us[j]? = some u → w.cell? (b.add j) = some u)
theorem srcV0_ok {B : Nat} {w : World} {G : Gh} {n : Nat} {m : M} {k q : Nat} {x : V} {l : List V} {u : Value} (hm : MemR B w G n m) (h : srcV0 m k x = some (q, l)) (hx : CR G x u) : Src w G k u q l := by
  unfold srcV0 at h
  split at h
  · simp only [Option.some.injEq, Prod.mk.injEq] at h
    obtain ⟨rfl, rfl⟩ := h
    cases hx
    exact ⟨by simp, none, 0, rfl, fun h => absurd h (by omega)⟩
  · simp only [Option.some.injEq, Prod.mk.injEq] at h
    obtain ⟨rfl, rfl⟩ := h
    cases hx
    exact ⟨by simp, _, _, rfl, fun h => absurd h (by omega)⟩
  · rename_i b o q' c op
    split at h
    · rename_i l' hs
      simp only [Option.some.injEq, Prod.mk.injEq] at h
      obtain ⟨rfl, rfl⟩ := h
      obtain ⟨h1, us, h2, h3, h4, h5⟩ := slCells_ok (P := default) hs (hm.blk b)
      obtain ⟨ex, hal, _⟩ := i_sl hx
      exact ⟨h1, _, _, ex, fun _ => ⟨_, us, rfl, h2, h3, fun j u hj => by rw [addr_add']; exact h4 j u hj⟩⟩
    · cases h
  · cases h
/-- the same in each case -/
noncomputable def srcs (m : M) (k q c : Nat) : List V → Option (List (List V))
  | [] => some []
  | v :: r => (match srcV0 m k v with
    | some (q', l) => (match Nat.beq q' q, Nat.beq l.length c with
      | true, true => (match srcs m k q c r with | some ls => some (l :: ls) | none => none)
      | _, _ => none)
    | none => none)
theorem srcs_ok {m : M} {k q c : Nat} : ∀ {vs : List V} {ls : List (List V)}, srcs m k q c vs = some ls → ls.length = vs.length ∧ ∀ (i : Nat) v, vs[i]? = some v → ∃ l, ls[i]? = some l ∧ srcV0 m k v = some (q, l) ∧ l.length = c
  | [], ls, h => by
    obtain rfl := Option.some.inj h
    exact ⟨rfl, fun i v hv => by cases hv⟩
  | v :: r, ls, h => by
    simp only [srcs] at h
    split at h
    · rename_i q' l hl
      split at h
      · rename_i h1 h2
        obtain rfl := Nat.eq_of_beq_eq_true h1
        have h2 := Nat.eq_of_beq_eq_true h2
        split at h
        · rename_i ls' h3
          obtain rfl := Option.some.inj h
          obtain ⟨h4, h5⟩ := srcs_ok h3
          refine ⟨by simp [h4], fun i u hu => ?_⟩
          cases i with
          | zero => cases hu; exact ⟨l, rfl, hl, h2⟩
          | succ i => exact h5 i u hu
        · cases h
      · cases h
    · cases h
noncomputable def srcW (m : M) (k d : Nat) (l : List V) : Option (Nat × List V) := match Nat.beq l.length (dimN d), l with
  | true, v :: _ => (match srcV0 m k v with
    | some (q, c) => (match srcs m k q c.length l with | some ls => some (q, cols (mrg 5 d) ls c.length) | none => none)
    | none => none)
  | _, _ => none
noncomputable def srcV (m : M) (k : Nat) (x : V) : Option (Nat × List V) := match x with
  | .vec d l => srcW m k d l
  | x => srcV0 m k x
theorem srcV_ok {B : Nat} {w : World} {G : Gh} {n : Nat} {m : M} {k q : Nat} {x : V} {l : List V} {u : Value} (hm : MemR B w G n m) (h : srcV m k x = some (q, l)) (hx : CR G x u) : Src w G k u q l := by
  unfold srcV at h
  split at h
  · rename_i d vs
    unfold srcW at h
    split at h
    · rename_i v r hl
      have hl := Nat.eq_of_beq_eq_true hl
      split at h
      · rename_i q' c hc
        split at h
        · rename_i ls hls
          simp only [Option.some.injEq, Prod.mk.injEq] at h
          obtain ⟨rfl, rfl⟩ := h
          obtain ⟨h1, h2⟩ := srcs_ok hls
          have hlt : G.θ d < (v :: r).length := by rw [hl]; exact G.θlt d
          obtain ⟨l0, h3, h4, h5⟩ := h2 (G.θ d) _ (List.getElem?_eq_getElem hlt)
          cases hx with
          | vec _ _ _ hx =>
            rw [List.getD_eq_getElem?_getD, List.getElem?_eq_getElem hlt, Option.getD_some] at hx
            obtain ⟨g1, ad, cp, g2, g3⟩ := srcV0_ok hm h4 hx
            refine ⟨by simp [cols]; omega, ad, cp, g2, fun hq => ?_⟩
            obtain ⟨b, us, e1, e2, e3, e4⟩ := g3 hq
            exact ⟨b, us, e1, ⟨cols_lr (g := mrg 5 d) (fun vs x hv hx => mrg_ok 5 vs x ((hv.trans h1).trans hl) hx) h3 h5 e2.lr, e2.one⟩, e3, e4⟩
        · cases h
      · cases h
    · cases h
  · exact srcV0_ok hm h hx
/-- the type of the elements, and its bounds -/
def elT (P : Program) (t : TypeId) : Option (TypeId × Nat) :=
  match P.underlying t with
  | some (.slice e) => match P.info? e, zc P e with
    | some inf, some z => match Nat.beq z.length inf.size && (Nat.blt 0 inf.size && Nat.ble inf.bytes 4096) with
      | true => some (e, inf.size)
      | false => none
    | _, _ => none
  | _ => none
theorem elT_ok {t e : TypeId} {k : Nat} (h : elT P t = some (e, k)) : ∃ inf zv, P.underlying t = some (.slice e) ∧ P.info? e = some inf ∧ inf.zero = some zv ∧ inf.size = k ∧ 0 < k ∧ zv.cells.size = k ∧ inf.bytes ≤ 4096 := by
  unfold elT at h
  split at h
  · rename_i e' hu
    split at h
    · rename_i inf z hi hz
      split at h
      · rename_i hb
        simp only [Bool.and_eq_true] at hb
        obtain ⟨b1, b2, b3⟩ := hb
        have b1 := Nat.eq_of_beq_eq_true b1
        have b2 : 0 < inf.size := Nat.le_of_ble_eq_true b2
        have b3 := Nat.le_of_ble_eq_true b3
        simp only [Option.some.injEq, Prod.mk.injEq] at h
        obtain ⟨rfl, rfl⟩ := h
        unfold zc at hz
        rw [hi] at hz
        simp only at hz
        split at hz
        · rename_i zv hzv
          split at hz
          case h_2 => cases hz
          obtain rfl := Option.some.inj hz
          exact ⟨inf, zv, hu, hi, hzv, rfl, b2, by simpa using b1, b3⟩
        · cases hz
      · cases h
    · cases h
  · cases h
/-- a new open row, as append makes it -/
theorem grown_ok {B : Nat} {w : World} {G : Gh} {n : Nat} {m : M} (hm : MemR B w G n m) (hfr : ¬ G.al n) {e : TypeId} {k q old : Nat} {l : List V} {us : List Value} {zv : Value} (hl : L1 G l us) (hul : us.length = q * k) (hz : zv.cells.size = k) (h0 : 0 < k) (hq : q ≤ 1000000) :
    Post B n m w G (n + 1) (M.set m n (.cells e l (some k))) (w.drew.alloc (.cells (us.toArray ++ Builtin.zeroCells zv.cells (grownCap w q old e - q)) e)) (G.put n w.heap.size (grownCap w q old e)) n ∧
    CR (G.put n w.heap.size (grownCap w q old e)) (.sl n 0 q 0 true) (.slice (some ⟨w.heap.size, 0, none⟩) q (grownCap w q old e)) := by
  have hge := grownCap_ge w q old e
  have hcm := grownCap_le_maxLen w q old e (by unfold maxLen; omega)
  have hext := Gh.put_ext (i := n) w.heap.size (grownCap w q old e) hfr
  have hb : Below w.heap.size w (w.drew.alloc (.cells (us.toArray ++ Builtin.zeroCells zv.cells (grownCap w q old e - q)) e)) := ((Below.refl _ w).drew).alloc (Nat.le_refl _) _
  refine ⟨hm.more hfr hb (Nat.le_refl _) (by simp) ⟨us, (Builtin.zeroCells zv.cells (grownCap w q old e - q)).toList, (0, 0), ?_, .inl rfl, hl.ext hext, fun h => (by cases h), fun s hs => ?_⟩, ?_⟩
  · rw [Gh.put_ρ, show w.heap.size = w.drew.heap.size from rfl, heap_alloc_new]
    congr 2
    apply Array.ext'
    simp
  · obtain rfl := Option.some.inj hs
    rw [Gh.put_κ]
    refine ⟨?_, hcm, h0⟩
    have : (Builtin.zeroCells zv.cells (grownCap w q old e - q)).toList.length = (grownCap w q old e - q) * k := by simp [Builtin.zeroCells, hz]
    rw [this, hul, ← Nat.add_mul]
    congr 1
    omega
  · have hc : capV (G.put n w.heap.size (grownCap w q old e)) n 0 true = grownCap w q old e := by simp only [capV, cond_true, Gh.put_κ, Nat.sub_zero]
    have := CR.sl (G := G.put n w.heap.size (grownCap w q old e)) n 0 q 0 true (.inl rfl) (by rw [hc]; exact hge)
    rw [hc, Gh.put_ρ] at this
    exact this
noncomputable def appendV (P : Program) (fl n : Nat) (m : M) (t : TypeId) (s x : V) : R :=
  match elT P t with
  | some (e, k) => match srcV m k x with
    | some (q, ys) => match Nat.beq q 0, s with
      | true, .nils => .ok .nils n m
      | true, .emp z => .ok (.emp z) n m
      | true, .sl b o p c op => .ok (.sl b o p c op) n m
      | false, .nils => match Nat.ble q 1000000 with
        | true => .ok (.sl n 0 q 0 true) (n + 1) (M.set m n (.cells e ys (some k)))
        | false => .fail
      | false, .emp true => match Nat.ble q 1000000 with
        | true => .ok (.sl n 0 q 0 true) (n + 1) (M.set m n (.cells e ys (some k)))
        | false => .fail
      | false, .sl b o p c op => match Nat.ble (p + q) 1000000, slCells k o p (M.get m b), M.get m b with
        | true, some xs, .cells tt l op2 => match op with
          | false => match Nat.ble (p + q) c with
            | true => match Nat.ble fl b && Nat.ble (o + (p + q) * k) l.length with
              | true => .ok (.sl b o (p + q) c false) n (M.set m b (.cells tt (setR l (o + p * k) ys) op2))
              | false => .fail
            | false => .ok (.sl n 0 (p + q) 0 true) (n + 1) (M.set m n (.cells e (xs ++ ys) (some k)))
          | true => match Nat.beq o 0 && (Nat.beq c 0 && Nat.ble fl b), op2 with
            | true, some k' => match Nat.beq tt e && Nat.beq k' k with
              | true => .ok (.sl n 0 (p + q) 0 true) (n + 1) (M.set (M.set m b .dead) n (.cells e (xs ++ ys) (some k)))
              | false => .fail
            | _, _ => .fail
        | _, _, _ => .fail
      | _, _ => .fail
    | none => .fail
  | none => .fail
theorem append_run {B : Nat} {w : World} {G : Gh} {fl n n' : Nat} {m m' : M} {t ty : TypeId} {s x v : V} {u y : Value} (h : appendV P fl n m t s x = .ok v n' m') (hm : MemR B w G n m) (hs : CR G s u) (hx : CR G x y) (hfl : fl ≤ n ∧ Free G n n') :
    ∃ r w' G', (Builtin.append_ #[t, t] ty #[u, y]).run P w = .ok r w' ∧ Post B n m w G n' m' w' G' fl ∧ CR G' v r := by
  unfold appendV at h
  split at h
  case h_2 => cases h
  rename_i e k he
  obtain ⟨inf, zv, ht, hi, hz, hk, h0, hzs, hby⟩ := elT_ok he
  split at h
  case h_2 => cases h
  rename_i q ys hsrc
  obtain ⟨hyl, ad, xc, rfl, hsr⟩ := srcV_ok hm hsrc hx
  have quiet : ∀ v0, q = 0 → CR G v0 u → (∃ a p c, u = .slice a p c ∧ p ≤ c) → ∃ r w' G', (Builtin.append_ #[t, t] ty #[u, .slice ad q xc]).run P w = .ok r w' ∧ Post B n m w G n m w' G' fl ∧ CR G' v0 r := by
    intro v0 hq0 hv0 ⟨a, p, c, hu, hpc⟩
    subst hq0
    refine ⟨u, w, G, ?_, Post.refl hm fl, hv0⟩
    subst hu
    cases ad <;> cases a <;> simp [Builtin.append_, run_underlying ht, sizeOf, typeInfo, hi, Builtin.lenOf, Builtin.firstCells, hpc, storeCells, loadCells, loadCellsFrom]
  split at h
  · rename_i hq
    simp only [R.ok.injEq] at h
    obtain ⟨rfl, rfl, rfl⟩ := h
    exact quiet _ (Nat.eq_of_beq_eq_true hq) hs (by cases hs; exact ⟨_, _, _, rfl, Nat.le_refl _⟩)
  · rename_i z hq
    simp only [R.ok.injEq] at h
    obtain ⟨rfl, rfl, rfl⟩ := h
    exact quiet _ (Nat.eq_of_beq_eq_true hq) hs (by cases hs; exact ⟨_, _, _, rfl, Nat.zero_le _⟩)
  · rename_i b o p c op hq
    simp only [R.ok.injEq] at h
    obtain ⟨rfl, rfl, rfl⟩ := h
    exact quiet _ (Nat.eq_of_beq_eq_true hq) hs (by obtain ⟨ex, _, hc⟩ := i_sl hs; exact ⟨_, _, _, ex, hc⟩)
  · rename_i hq
    have hq0 : 0 < q := Nat.pos_of_ne_zero fun e => by subst e; cases hq
    obtain ⟨b', us, rfl, hus, hul, hcell⟩ := hsr hq0
    split at h
    case h_2 => cases h
    rename_i hble
    have hble := Nat.le_of_ble_eq_true hble
    simp only [R.ok.injEq] at h
    obtain ⟨rfl, rfl, rfl⟩ := h
    have hb48 : q * inf.bytes ≤ 140737488355328 := Nat.le_trans (Nat.mul_le_mul hble hby) (by decide)
    have hr := run_append_nil (P := P) w t ty e inf zv ht hi hz b' q xc us (by rw [hul, hk]) hcell hq0 (by omega) (by omega)
    obtain ⟨g1, g2⟩ := grown_ok (e := e) (old := 0) (zv := zv) hm (hfl.2 n (Nat.le_refl _) (by omega)) hus hul hzs h0 hble
    refine ⟨_, _, _, ?_, g1.mono hfl.1, g2⟩
    rw [show u = .slice none 0 0 by cases hs; rfl]
    exact hr
  · rename_i hq
    have hq0 : 0 < q := Nat.pos_of_ne_zero fun e => by subst e; cases hq
    obtain ⟨b', us, rfl, hus, hul, hcell⟩ := hsr hq0
    split at h
    case h_2 => cases h
    rename_i hble
    have hble := Nat.le_of_ble_eq_true hble
    simp only [R.ok.injEq] at h
    obtain ⟨rfl, rfl, rfl⟩ := h
    have hb48 : (0 + q) * inf.bytes ≤ 140737488355328 := Nat.le_trans (Nat.mul_le_mul (by omega) hby) (by decide : 1000000 * 4096 ≤ 140737488355328)
    obtain ⟨a0, rfl⟩ : ∃ a0, u = .slice (some a0) 0 0 := by
      cases hs with
      | emp z a c hz => obtain rfl := hz rfl; exact ⟨a, rfl⟩
    have hr := run_append_grow (P := P) w t ty e inf zv ht hi hz a0 0 0 [] (by simp) (fun j u hj => by simp at hj) b' q xc us (by rw [hul, hk]) hcell (by omega) (by omega) (growslice_fits (by omega) hb48)
    obtain ⟨g1, g2⟩ := grown_ok (e := e) (old := 0) (zv := zv) hm (hfl.2 n (Nat.le_refl _) (by omega)) hus hul hzs h0 hble
    have e : (([] : List Value).toArray ++ us.toArray) = us.toArray := by simp
    rw [e] at hr
    simp only [Nat.zero_add] at hr
    exact ⟨_, _, _, hr, g1.mono hfl.1, g2⟩
  · rename_i b o p c op hq
    have hq0 : 0 < q := Nat.pos_of_ne_zero fun e => by subst e; cases hq
    obtain ⟨b', us, rfl, hus, hul, hcell⟩ := hsr hq0
    split at h
    case h_2 => cases h
    rename_i xs tt l op2 hble hxs hget
    have hble := Nat.le_of_ble_eq_true hble
    obtain ⟨ex, hal, hpc⟩ := i_sl hs
    obtain ⟨hxl, xu, hxu, hxul, hxcell, _⟩ := slCells_ok (P := P) hxs (hm.blk b)
    have hbk := hm.blk b
    rw [hget] at hbk
    have hlive : live m b := by unfold live; rw [hget]; exact fun h => by cases h
    have hb48 : (p + q) * inf.bytes ≤ 140737488355328 := Nat.le_trans (Nat.mul_le_mul hble hby) (by decide)
    have holds : ∀ j u, xu[j]? = some u → w.cell? ((⟨G.ρ b, o, none⟩ : Addr).add j) = some u := fun j u hj => by rw [addr_add']; exact hxcell j u hj
    have grow : ∀ cap, cap < p + q → ∃ r, (Builtin.append_ #[t, t] ty #[.slice (some ⟨G.ρ b, o, none⟩) p cap, .slice (some b') q xc]).run P w = .ok r (w.drew.alloc (.cells ((xu ++ us).toArray ++ Builtin.zeroCells zv.cells (grownCap w (p + q) cap e - (p + q))) e)) ∧ r = .slice (some ⟨w.heap.size, 0, none⟩) (p + q) (grownCap w (p + q) cap e) := by
      intro cap hcap
      have hr := run_append_grow (P := P) w t ty e inf zv ht hi hz ⟨G.ρ b, o, none⟩ p cap xu (by rw [hxul, hk]) holds b' q xc us (by rw [hul, hk]) hcell hcap (by omega) (growslice_fits hcap hb48)
      refine ⟨_, ?_, rfl⟩
      rw [hr]
      congr 4
      simp
    -- where there is room
    have room : ∀ (cap off : Nat) (t' : TypeId) (cv rest : List Value) (fr : Nat × Nat), (fr = (0, 0) ∨ cv.length + rest.length ≤ fr.1) → off = o → w.heap[G.ρ b]? = some (.cells (cv ++ rest).toArray t' fr) → p + q ≤ cap → o + (p + q) * k ≤ cv.length + rest.length →
        (Builtin.append_ #[t, t] ty #[.slice (some ⟨G.ρ b, o, none⟩) p cap, .slice (some b') q xc]).run P w = .ok (.slice (some ⟨G.ρ b, o, none⟩) (p + q) cap) (w.setRow (G.ρ b) ((cv ++ rest).take (o + p * k) ++ us ++ (cv ++ rest).drop (o + p * k + us.length)).toArray) := by
      intro cap off t' cv rest fr hf0 _ hg hroom hfit
      have hf := run_firstCells_some (P := P) w inf.size q b' q xc us (by rw [hul, hk]) hcell
      have hst := run_storeCells_fr P (G.ρ b) (o + p * k) t' fr us 0 (cv ++ rest).toArray w hg (by
        simp only [List.size_toArray, List.length_append]
        rw [Nat.add_mul] at hfit
        omega) (by simpa using hf0) hus.one
      simp only [Nat.add_zero] at hst
      subst hk
      simp [Builtin.append_, run_underlying ht, sizeOf, typeInfo, hi, Builtin.lenOf, hroom, hf, addr_add', hst]
    split at h
    · split at h
      · rename_i hpq
        have hpq := Nat.le_of_ble_eq_true hpq
        split at h
        case h_2 => cases h
        rename_i hc
        rw [Bool.and_eq_true] at hc
        have hc1 := Nat.le_of_ble_eq_true hc.1
        have hc2 := Nat.le_of_ble_eq_true hc.2
        simp only [R.ok.injEq] at h
        obtain ⟨rfl, rfl, rfl⟩ := h
        obtain ⟨cv, rest, fr, k1, kf, k2, k3, k4⟩ := hbk
        have hcl := k2.lr.1
        have hr := room c o _ cv rest fr kf rfl k1 hpq (by omega)
        rw [Nat.add_mul] at hc2
        have hpost := hm.write (w' := w.setRow (G.ρ b) ((cv ++ rest).take (o + p * k) ++ us ++ (cv ++ rest).drop (o + p * k + us.length)).toArray) (x := .cells tt (setR l (o + p * k) ys) op2) hlive ⟨rfl, rfl, rfl, by simp⟩ (by simp) (fun j hj => setRow_other w (G.ρ b) j ((cv ++ rest).take (o + p * k) ++ us ++ (cv ++ rest).drop (o + p * k + us.length)).toArray hj) ⟨cv.take (o + p * k) ++ us ++ cv.drop (o + p * k + us.length), rest, fr, by
          rw [setRow_heap w _ _ _ tt fr k1]
          congr 3
          rw [List.take_append_of_le_length (by omega), List.drop_append_of_le_length (by omega)]
          simp [List.append_assoc], kf.imp id fun h => (by simp only [List.length_append, List.length_take, List.length_drop]; omega), k2.setR _ hus, k3, fun s hs => by
          have := k4 s hs
          refine ⟨?_, this.2⟩
          rw [← this.1]
          simp only [List.length_append, List.length_take, List.length_drop]
          omega⟩
        refine ⟨_, w.setRow (G.ρ b) ((cv ++ rest).take (o + p * k) ++ us ++ (cv ++ rest).drop (o + p * k + us.length)).toArray, G, by rw [ex]; exact hr, hpost.mono hc1, ?_⟩
        exact .sl b o (p + q) c false hal hpq
      · rename_i hpq
        have hpq : ¬ p + q ≤ c := fun e => by rw [Nat.ble_eq_true_of_le e] at hpq; cases hpq
        simp only [R.ok.injEq] at h
        obtain ⟨rfl, rfl, rfl⟩ := h
        obtain ⟨r, hr, rfl⟩ := grow c (by omega)
        obtain ⟨g1, g2⟩ := grown_ok (e := e) (old := c) (zv := zv) hm (hfl.2 n (Nat.le_refl _) (by omega)) (hxu.append hus) (q := p + q) (by rw [List.length_append, hxul, hul, Nat.add_mul]) hzs h0 hble
        exact ⟨_, _, _, by rw [ex]; exact hr, g1.mono hfl.1, g2⟩
    · split at h
      case h_2 => cases h
      rename_i k' hc
      simp only [Bool.and_eq_true] at hc
      obtain ⟨c1, c2, c3⟩ := hc
      obtain rfl := Nat.eq_of_beq_eq_true c1
      obtain rfl := Nat.eq_of_beq_eq_true c2
      have c3 := Nat.le_of_ble_eq_true c3
      split at h
      case h_2 => cases h
      rename_i hte
      rw [Bool.and_eq_true] at hte
      obtain rfl := Nat.eq_of_beq_eq_true hte.1
      obtain rfl := Nat.eq_of_beq_eq_true hte.2
      simp only [R.ok.injEq] at h
      obtain ⟨rfl, rfl, rfl⟩ := h
      obtain ⟨cv, rest, fr, k1, kf, k2, k3, k4⟩ := hbk
      obtain ⟨k5, k6, _⟩ := k4 k' rfl
      have hcap : capV G b 0 true = G.κ b := by simp [capV]
      rw [hcap] at ex hpc
      by_cases hroom : p + q ≤ G.κ b
      · -- in place: the new block lies where the old one did
        have hfit : 0 + (p + q) * k' ≤ cv.length + rest.length := by rw [k5, Nat.zero_add]; exact Nat.mul_le_mul_right _ hroom
        have hr := room (G.κ b) 0 _ cv rest fr kf rfl k1 hroom hfit
        have hfr : ¬ G.al n := hfl.2 n (Nat.le_refl _) (by omega)
        have hext := Gh.put_ext (i := n) (G.ρ b) (G.κ b) hfr
        have hold : ∀ i, i ≠ n → (G.put n (G.ρ b) (G.κ b)).ρ i = G.ρ i ∧ (G.put n (G.ρ b) (G.κ b)).κ i = G.κ i := fun i hi => ⟨if_neg hi, if_neg hi⟩
        have hbn : b ≠ n := fun e => by subst e; exact hfr hal
        have hl2 : ∀ i, live (M.set (M.set m b .dead) n (.cells tt (xs ++ ys) (some k'))) i → i = n ∨ (i ≠ n ∧ i ≠ b ∧ live m i) := by
          intro i hi
          rcases live_set hi with ⟨e, _⟩ | ⟨e, h1⟩
          · exact .inl e
          · rcases live_set h1 with ⟨_, h2⟩ | ⟨e2, h2⟩
            · exact absurd rfl h2
            · exact .inr ⟨e, e2, h2⟩
        have hcl : cv.length = l.length := k2.lr.1
        have hxle : p * k' ≤ cv.length := by
          unfold slCells at hxs
          rw [hget] at hxs
          simp only at hxs
          split at hxs
          · rename_i hle; have := Nat.le_of_ble_eq_true hle; omega
          · cases hxs
        have hxu' : xu = cv.take (p * k') := by
          apply List.ext_getElem?
          intro j
          rcases Nat.lt_or_ge j (p * k') with hj | hj
          · have e1 : xu[j]? = some xu[j] := List.getElem?_eq_getElem (by omega)
            have e2 := hxcell j _ e1
            rw [Nat.zero_add] at e2
            simp only [World.cell?, k1] at e2
            rw [e1, List.getElem?_take, if_pos hj]
            simp [List.getElem?_append_left (show j < cv.length by omega)] at e2
            rw [← e2]
          · rw [List.getElem?_eq_none (by omega), List.getElem?_eq_none (by simp; omega)]
        have hsz : (w.setRow (G.ρ b) ((cv ++ rest).take (0 + p * k') ++ us ++ (cv ++ rest).drop (0 + p * k' + us.length)).toArray).heap.size = w.heap.size := by simp
        have hown := hm.own b hlive
        refine ⟨_, w.setRow (G.ρ b) ((cv ++ rest).take (0 + p * k') ++ us ++ (cv ++ rest).drop (0 + p * k' + us.length)).toArray, G.put n (G.ρ b) (G.κ b), by rw [ex]; exact hr, ⟨hext, ⟨fun i => ?_, fun i j hij hi hj => ?_, fun i hi => ?_, by rw [hsz]; exact hm.base⟩, ⟨rfl, rfl, rfl, by simp⟩, by omega, fun i hi hl' => ?_, fun i hi hi' hl' => ?_, fun y hy hno => setRow_other _ _ _ _ (fun e => hno b c3 hlive e.symm), fun i hi => ?_⟩, ?_⟩
        · refine get_set_cases (C := BkR _ (G.put n (G.ρ b) (G.κ b)) i) i (fun e => ?_) (fun _ => trivial) (fun e => get_set_cases (C := BkR _ (G.put n (G.ρ b) (G.κ b)) i) i (fun _ => trivial) (fun _ => trivial) (fun e2 => ?_))
          · subst e
            refine ⟨xu ++ us, (cv ++ rest).drop (p * k' + us.length), fr, ?_, kf.imp id fun h => (by simp only [List.length_append, List.length_drop]; rw [Nat.add_mul] at hfit; omega), (hxu.append hus).ext hext, (fun h => by cases h), fun s hs => ?_⟩
            · rw [Gh.put_ρ, setRow_heap w _ _ _ tt fr k1]
              congr 3
              simp only [Nat.zero_add]
              rw [List.take_append_of_le_length hxle, ← hxu']
            · obtain rfl := Option.some.inj hs
              rw [Gh.put_κ]
              refine ⟨?_, k6, h0⟩
              rw [Nat.add_mul] at hfit
              simp only [List.length_append, List.length_drop]
              omega
          · by_cases hlv : live m i
            · exact (hm.blk i).keep hext (hold i e).1 (hold i e).2 (setRow_other _ _ _ _ (hm.apart i b e2 hlv hlive))
            · unfold live at hlv
              rw [Classical.not_not.1 hlv]; trivial
        · rcases hl2 i hi with e1 | ⟨e1, e3, h1⟩ <;> rcases hl2 j hj with e2 | ⟨e2, e4, h2⟩
          · omega
          · subst e1
            rw [Gh.put_ρ, (hold j e2).1]
            exact (hm.apart j b e4 h2 hlive).symm
          · subst e2
            rw [Gh.put_ρ, (hold i e1).1]
            exact hm.apart i b e3 h1 hlive
          · rw [(hold i e1).1, (hold j e2).1]
            exact hm.apart i j hij h1 h2
        · rw [hsz]
          rcases hl2 i hi with e1 | ⟨e1, e3, h1⟩
          · subst e1
            rw [Gh.put_ρ]
            exact ⟨hown.1, hown.2.1, .inl rfl⟩
          · rw [(hold i e1).1]
            have := hm.own i h1
            exact ⟨this.1, this.2.1, .inr this.2.2⟩
        · rcases hl2 i hl' with e1 | ⟨e1, e3, h1⟩
          · omega
          · exact h1
        · have e1 : i = n := by omega
          subst e1; rw [Gh.put_ρ]; exact .inr ⟨b, c3, hlive, rfl⟩
        · rcases hi with hi | hi
          · exact .inr (by omega)
          · exact .inl hi
        · have hc2 : capV (G.put n (G.ρ b) (G.κ b)) n 0 true = G.κ b := by simp only [capV, cond_true, Gh.put_κ, Nat.sub_zero]
          have := CR.sl (G := G.put n (G.ρ b) (G.κ b)) n 0 (p + q) 0 true (.inl rfl) (by rw [hc2]; exact hroom)
          rw [hc2, Gh.put_ρ] at this
          exact this
      · obtain ⟨r, hr, rfl⟩ := grow (G.κ b) (by omega)
        have hm2 := hm.kill b
        obtain ⟨g1, g2⟩ := grown_ok (e := tt) (old := G.κ b) (zv := zv) hm2 (hfl.2 n (Nat.le_refl _) (by omega)) (hxu.append hus) (q := p + q) (by rw [List.length_append, hxul, hul, Nat.add_mul]) hzs h0 hble
        refine ⟨_, _, _, by rw [ex]; exact hr, ⟨g1.ext, g1.memr, g1.rest, g1.len, fun i hi hl' => ?_, fun i hi hi' hl' => ?_, fun y hy hno => ?_, g1.new⟩, g2⟩
        · rcases live_set (g1.dead i hi hl') with ⟨_, h2⟩ | ⟨_, h2⟩
          · exact absurd rfl h2
          · exact h2
        · rcases g1.fresh i hi hi' hl' with h2 | ⟨b2, h2, h3, h4⟩
          · exact .inl h2
          · rcases live_set h3 with ⟨_, h5⟩ | ⟨_, h5⟩
            · exact absurd rfl h5
            · exact .inr ⟨b2, Nat.le_trans hfl.1 h2, h5, h4⟩
        · refine g1.frame y hy fun i hi hl' e => ?_
          rcases live_set hl' with ⟨_, h5⟩ | ⟨_, h5⟩
          · exact absurd rfl h5
          · exact hno i (Nat.le_trans hfl.1 hi) h5 e
  · cases h
end
end Go.Proofs.YtpmgggfjmkpleaaGreatDoor.E
