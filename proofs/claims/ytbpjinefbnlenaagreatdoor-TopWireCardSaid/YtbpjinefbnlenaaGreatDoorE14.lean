import Derived.Test.YtbpjinefbnlenaaGreatDoorE7
import Derived.Laws.Append
import Derived.Laws.IdiomStrings
import Derived.WalkLawsBesides
import Derived.Lib.OthersKept
import Derived.Scope
/- An exact machine, part 8: operations in general; append. -/
namespace Go.Proofs.YtbpjinefbnlenaaGreatDoor.E
open Go Go.RowKit
set_option linter.unusedVariables false

/-- an operation, from this memory -/
def OpOK (P : Program) (o : Oper) (ts : T) (fl n : Nat) (m : M) (v : V) (n' : Nat) (m' : M) : Prop :=
  ∀ (B : Nat) (w : World) (G : Gh) (a : Act), MemR B w G n m → ORel G o.op ts a → (fl ≤ n ∧ Free G n n') → ∀ (next : Act → World → Prop) (Q : Exit → Act → World → Prop),
    (∀ x w' G', Post B n m w G n' m' w' G' fl → CR G' v x → next (a.put o.dst x) w') → o.wp P a w next Q
section
variable {P : Program} {o : Oper} {ts : T} {v : V} {fl n : Nat} {m : M}
theorem PureOK.op (h : PureOK P o ts v) : OpOK P o ts fl n m v n m := by
  intro B w G a hm ha hfl next Q hn
  obtain ⟨x, hr, hv⟩ := h G a w ha
  unfold Oper.wp
  rw [hr]
  exact hn x w G (Post.refl hm fl) hv
theorem NewOK.op {b : Bk} (h : NewOK P o ts n v b) : OpOK P o ts fl n m v (n + 1) (M.set m n b) := by
  intro B w G a hm ha hfl next Q hn
  obtain ⟨x, ob, hr, hv⟩ := h G a w ha
  unfold Oper.wp
  rw [hr]
  obtain ⟨h1, h2⟩ := hv (G.put n w.heap.size 0) (Gh.put_ext _ _ (hfl.2 n (Nat.le_refl _) (by omega))) (.inl rfl) (Gh.put_ρ _ _ _ _)
  exact hn x _ _ ((hm.more (hfl.2 n (Nat.le_refl _) (by omega)) ((Below.refl _ _).alloc (Nat.le_refl _) _) (Nat.le_refl _) (by simp) h1).mono hfl.1) h2
theorem LdOK.op {b : Nat} {bk : Bk} (hb : M.get m b = bk) (h : LdOK P o ts b bk v) : OpOK P o ts fl n m v n m := by
  intro B w G a hm ha hfl next Q hn
  have hbk := hm.blk b
  rw [hb] at hbk
  obtain ⟨x, hr, hv⟩ := (h G a w ha).2 hbk
  unfold Oper.wp
  rw [hr]
  exact hn x w G (Post.refl hm fl) hv
theorem cr_undef (G : Gh) : CR G (.tup []) undef := .tup [] [] rfl fun i => .unk _
theorem StOK.op {b : Nat} {bk bk' : Bk} (hb : M.get m b = bk) (hd : bk ≠ .dead) (hf : fl ≤ b) (h : StOK P o ts b bk bk') : OpOK P o ts fl n m (.tup []) n (M.set m b bk') := by
  intro B w G a hm ha hfl next Q hn
  have hbk := hm.blk b
  rw [hb] at hbk
  obtain ⟨w', hr, h1, h2, h3, h4⟩ := h G a w ha hbk
  unfold Oper.wp
  rw [hr]
  exact hn undef w' G ((hm.write (by unfold live; rw [hb]; exact hd) h1 h2 h3 h4).mono hf) (cr_undef G)
/-- in general: a run that yields a value -/
theorem op_of_run {n' : Nat} {m' : M} (h : ∀ (B : Nat) (w : World) (G : Gh) (a : Act), MemR B w G n m → ORel G o.op ts a → (fl ≤ n ∧ Free G n n') → ∃ x w' G', (execOp a.eval o).run P w = .ok (.value x) w' ∧ Post B n m w G n' m' w' G' fl ∧ CR G' v x) : OpOK P o ts fl n m v n' m' := by
  intro B w G a hm ha hfl next Q hn
  obtain ⟨x, w', G', hr, h1, h2⟩ := h B w G a hm ha hfl
  unfold Oper.wp
  rw [hr]
  exact hn x w' G' h1 h2
end
/-! append -/
section
variable {P : Program}
/-- what is appended: how many elements, their cells -/
noncomputable def srcV (m : M) (k : Nat) (x : V) : Option (Nat × List V) :=
  match x with
  | .nils => some (0, [])
  | .emp _ => some (0, [])
  | .sl b o q _ _ => match slCells k o q (M.get m b) with | some l => some (q, l) | none => none
  | _ => none
structure Src (w : World) (G : Gh) (k : Nat) (x : Value) (q : Nat) (l : List V) : Prop where
  len : l.length = q * k
  is : ∃ ad c, x = .slice ad q c ∧ (0 < q → ∃ b us, ad = some b ∧ L1 G l us ∧ us.length = q * k ∧ ∀ j u, us[j]? = some u → w.cell? (b.add j) = some u)
theorem srcV_ok {B : Nat} {w : World} {G : Gh} {n : Nat} {m : M} {k q : Nat} {x : V} {l : List V} {u : Value} (hm : MemR B w G n m) (h : srcV m k x = some (q, l)) (hx : CR G x u) : Src w G k u q l := by
  unfold srcV at h
  split at h
  · simp only [Option.some.injEq, Prod.mk.injEq] at h
    obtain ⟨rfl, rfl⟩ := h
    cases hx
    exact ⟨by simp, none, 0, rfl, fun h => absurd h (by omega)⟩
  · simp only [Option.some.injEq, Prod.mk.injEq] at h
    obtain ⟨rfl, rfl⟩ := h
    cases hx
    exact ⟨by simp, _, _, rfl, fun h => absurd h (by omega)⟩
  · rename_i b o q' c op
    split at h
    · rename_i l' hs
      simp only [Option.some.injEq, Prod.mk.injEq] at h
      obtain ⟨rfl, rfl⟩ := h
      obtain ⟨h1, us, h2, h3, h4, h5⟩ := slCells_ok (P := default) hs (hm.blk b)
      obtain ⟨ex, hal, _⟩ := i_sl hx
      exact ⟨h1, _, _, ex, fun _ => ⟨_, us, rfl, h2, h3, fun j u hj => by rw [addr_add']; exact h4 j u hj⟩⟩
    · cases h
  · cases h
/-- the type of the elements, and its bounds -/
def elT (P : Program) (t : TypeId) : Option (TypeId × Nat) :=
  match P.underlying t with
  | some (.slice e) => match P.info? e, zc P e with
    | some inf, some z => match Nat.beq z.length inf.size && (Nat.blt 0 inf.size && Nat.ble inf.bytes 4096) with
      | true => some (e, inf.size)
      | false => none
    | _, _ => none
  | _ => none
theorem elT_ok {t e : TypeId} {k : Nat} (h : elT P t = some (e, k)) : ∃ inf zv, P.underlying t = some (.slice e) ∧ P.info? e = some inf ∧ inf.zero = some zv ∧ inf.size = k ∧ 0 < k ∧ zv.cells.size = k ∧ inf.bytes ≤ 4096 := by
  unfold elT at h
  split at h
  · rename_i e' hu
    split at h
    · rename_i inf z hi hz
      split at h
      · rename_i hb
        simp only [Bool.and_eq_true] at hb
        obtain ⟨b1, b2, b3⟩ := hb
        have b1 := Nat.eq_of_beq_eq_true b1
        have b2 : 0 < inf.size := Nat.le_of_ble_eq_true b2
        have b3 := Nat.le_of_ble_eq_true b3
        simp only [Option.some.injEq, Prod.mk.injEq] at h
        obtain ⟨rfl, rfl⟩ := h
        unfold zc at hz
        rw [hi] at hz
        simp only at hz
        split at hz
        · rename_i zv hzv
          split at hz
          case h_2 => cases hz
          obtain rfl := Option.some.inj hz
          exact ⟨inf, zv, hu, hi, hzv, rfl, b2, by simpa using b1, b3⟩
        · cases hz
      · cases h
    · cases h
  · cases h
/-- a new open row, as append makes it -/
theorem grown_ok {B : Nat} {w : World} {G : Gh} {n : Nat} {m : M} (hm : MemR B w G n m) (hfr : ¬ G.al n) {e : TypeId} {k q old : Nat} {l : List V} {us : List Value} {zv : Value} (hl : L1 G l us) (hul : us.length = q * k) (hz : zv.cells.size = k) (h0 : 0 < k) (hq : q ≤ 1000000) :
    Post B n m w G (n + 1) (M.set m n (.cells e l (some k))) (w.drew.alloc (.cells (us.toArray ++ Builtin.zeroCells zv.cells (grownCap w q old e - q)) e)) (G.put n w.heap.size (grownCap w q old e)) n ∧
    CR (G.put n w.heap.size (grownCap w q old e)) (.sl n 0 q 0 true) (.slice (some ⟨w.heap.size, 0, none⟩) q (grownCap w q old e)) := by
  have hge := grownCap_ge w q old e
  have hcm := grownCap_le_maxLen w q old e (by unfold maxLen; omega)
  have hext := Gh.put_ext (i := n) w.heap.size (grownCap w q old e) hfr
  have hb : Below w.heap.size w (w.drew.alloc (.cells (us.toArray ++ Builtin.zeroCells zv.cells (grownCap w q old e - q)) e)) := ((Below.refl _ w).drew).alloc (Nat.le_refl _) _
  refine ⟨hm.more hfr hb (Nat.le_refl _) (by simp) ⟨us, (Builtin.zeroCells zv.cells (grownCap w q old e - q)).toList, (0, 0), ?_, .inl rfl, hl.ext hext, fun h => (by cases h), fun s hs => ?_⟩, ?_⟩
  · rw [Gh.put_ρ, show w.heap.size = w.drew.heap.size from rfl, heap_alloc_new]
    congr 2
    apply Array.ext'
    simp
  · obtain rfl := Option.some.inj hs
    rw [Gh.put_κ]
    refine ⟨?_, hcm, h0⟩
    have : (Builtin.zeroCells zv.cells (grownCap w q old e - q)).toList.length = (grownCap w q old e - q) * k := by simp [Builtin.zeroCells, hz]
    rw [this, hul, ← Nat.add_mul]
    congr 1
    omega
  · have hc : capV (G.put n w.heap.size (grownCap w q old e)) n 0 true = grownCap w q old e := by simp only [capV, cond_true, Gh.put_κ, Nat.sub_zero]
    have := CR.sl (G := G.put n w.heap.size (grownCap w q old e)) n 0 q 0 true (.inl rfl) (by rw [hc]; exact hge)
    rw [hc, Gh.put_ρ] at this
    exact this
noncomputable def appendV (P : Program) (fl n : Nat) (m : M) (t : TypeId) (s x : V) : R :=
  match elT P t with
  | some (e, k) => match srcV m k x with
    | some (q, ys) => match Nat.beq q 0, s with
      | true, .nils => .ok .nils n m
      | true, .emp z => .ok (.emp z) n m
      | true, .sl b o p c op => .ok (.sl b o p c op) n m
      | false, .nils => match Nat.ble q 1000000 with
        | true => .ok (.sl n 0 q 0 true) (n + 1) (M.set m n (.cells e ys (some k)))
        | false => .fail
      | false, .emp true => match Nat.ble q 1000000 with
        | true => .ok (.sl n 0 q 0 true) (n + 1) (M.set m n (.cells e ys (some k)))
        | false => .fail
      | false, .sl b o p c op => match Nat.ble (p + q) 1000000, slCells k o p (M.get m b), M.get m b with
        | true, some xs, .cells tt l op2 => match op with
          | false => match Nat.ble (p + q) c with
            | true => match Nat.ble fl b && Nat.ble (o + (p + q) * k) l.length with
              | true => .ok (.sl b o (p + q) c false) n (M.set m b (.cells tt (setR l (o + p * k) ys) op2))
              | false => .fail
            | false => .ok (.sl n 0 (p + q) 0 true) (n + 1) (M.set m n (.cells e (xs ++ ys) (some k)))
          | true => match Nat.beq o 0 && (Nat.beq c 0 && Nat.ble fl b), op2 with
            | true, some k' => match Nat.beq tt e && Nat.beq k' k with
              | true => .ok (.sl n 0 (p + q) 0 true) (n + 1) (M.set (M.set m b .dead) n (.cells e (xs ++ ys) (some k)))
              | false => .fail
            | _, _ => .fail
        | _, _, _ => .fail
      | _, _ => .fail
    | none => .fail
  | none => .fail
theorem append_run {B : Nat} {w : World} {G : Gh} {fl n n' : Nat} {m m' : M} {t ty : TypeId} {s x v : V} {u y : Value} (h : appendV P fl n m t s x = .ok v n' m') (hm : MemR B w G n m) (hs : CR G s u) (hx : CR G x y) (hfl : fl ≤ n ∧ Free G n n') :
    ∃ r w' G', (Builtin.append_ #[t, t] ty #[u, y]).run P w = .ok r w' ∧ Post B n m w G n' m' w' G' fl ∧ CR G' v r := by
  unfold appendV at h
  split at h
  case h_2 => cases h
  rename_i e k he
  obtain ⟨inf, zv, ht, hi, hz, hk, h0, hzs, hby⟩ := elT_ok he
  split at h
  case h_2 => cases h
  rename_i q ys hsrc
  obtain ⟨hyl, ad, xc, rfl, hsr⟩ := srcV_ok hm hsrc hx
  have quiet : ∀ v0, q = 0 → CR G v0 u → (∃ a p c, u = .slice a p c ∧ p ≤ c) → ∃ r w' G', (Builtin.append_ #[t, t] ty #[u, .slice ad q xc]).run P w = .ok r w' ∧ Post B n m w G n m w' G' fl ∧ CR G' v0 r := by
    intro v0 hq0 hv0 ⟨a, p, c, hu, hpc⟩
    subst hq0
    refine ⟨u, w, G, ?_, Post.refl hm fl, hv0⟩
    subst hu
    cases ad <;> cases a <;> simp [Builtin.append_, run_underlying ht, sizeOf, typeInfo, hi, Builtin.lenOf, Builtin.firstCells, hpc, storeCells, loadCells, loadCellsFrom]
  split at h
  · rename_i hq
    simp only [R.ok.injEq] at h
    obtain ⟨rfl, rfl, rfl⟩ := h
    exact quiet _ (Nat.eq_of_beq_eq_true hq) hs (by cases hs; exact ⟨_, _, _, rfl, Nat.le_refl _⟩)
  · rename_i z hq
    simp only [R.ok.injEq] at h
    obtain ⟨rfl, rfl, rfl⟩ := h
    exact quiet _ (Nat.eq_of_beq_eq_true hq) hs (by cases hs; exact ⟨_, _, _, rfl, Nat.zero_le _⟩)
  · rename_i b o p c op hq
    simp only [R.ok.injEq] at h
    obtain ⟨rfl, rfl, rfl⟩ := h
    exact quiet _ (Nat.eq_of_beq_eq_true hq) hs (by obtain ⟨ex, _, hc⟩ := i_sl hs; exact ⟨_, _, _, ex, hc⟩)
  · rename_i hq
    have hq0 : 0 < q := Nat.pos_of_ne_zero fun e => by subst e; cases hq
    obtain ⟨b', us, rfl, hus, hul, hcell⟩ := hsr hq0
    split at h
    case h_2 => cases h
    rename_i hble
    have hble := Nat.le_of_ble_eq_true hble
    simp only [R.ok.injEq] at h
    obtain ⟨rfl, rfl, rfl⟩ := h
    have hb48 : q * inf.bytes ≤ 140737488355328 := Nat.le_trans (Nat.mul_le_mul hble hby) (by decide)
    have hr := run_append_nil (P := P) w t ty e inf zv ht hi hz b' q xc us (by rw [hul, hk]) hcell hq0 (by omega) (by omega)
    obtain ⟨g1, g2⟩ := grown_ok (e := e) (old := 0) (zv := zv) hm (hfl.2 n (Nat.le_refl _) (by omega)) hus hul hzs h0 hble
    refine ⟨_, _, _, ?_, g1.mono hfl.1, g2⟩
    rw [show u = .slice none 0 0 by cases hs; rfl]
    exact hr
  · rename_i hq
    have hq0 : 0 < q := Nat.pos_of_ne_zero fun e => by subst e; cases hq
    obtain ⟨b', us, rfl, hus, hul, hcell⟩ := hsr hq0
    split at h
    case h_2 => cases h
    rename_i hble
    have hble := Nat.le_of_ble_eq_true hble
    simp only [R.ok.injEq] at h
    obtain ⟨rfl, rfl, rfl⟩ := h
    have hb48 : (0 + q) * inf.bytes ≤ 140737488355328 := Nat.le_trans (Nat.mul_le_mul (by omega) hby) (by decide : 1000000 * 4096 ≤ 140737488355328)
    obtain ⟨a0, rfl⟩ : ∃ a0, u = .slice (some a0) 0 0 := by
      cases hs with
      | emp z a c hz => obtain rfl := hz rfl; exact ⟨a, rfl⟩
    have hr := run_append_grow (P := P) w t ty e inf zv ht hi hz a0 0 0 [] (by simp) (fun j u hj => by simp at hj) b' q xc us (by rw [hul, hk]) hcell (by omega) (by omega) (growslice_fits (by omega) hb48)
    obtain ⟨g1, g2⟩ := grown_ok (e := e) (old := 0) (zv := zv) hm (hfl.2 n (Nat.le_refl _) (by omega)) hus hul hzs h0 hble
    have e : (([] : List Value).toArray ++ us.toArray) = us.toArray := by simp
    rw [e] at hr
    simp only [Nat.zero_add] at hr
    exact ⟨_, _, _, hr, g1.mono hfl.1, g2⟩
  · rename_i b o p c op hq
    have hq0 : 0 < q := Nat.pos_of_ne_zero fun e => by subst e; cases hq
    obtain ⟨b', us, rfl, hus, hul, hcell⟩ := hsr hq0
    split at h
    case h_2 => cases h
    rename_i xs tt l op2 hble hxs hget
    have hble := Nat.le_of_ble_eq_true hble
    obtain ⟨ex, hal, hpc⟩ := i_sl hs
    obtain ⟨hxl, xu, hxu, hxul, hxcell, _⟩ := slCells_ok (P := P) hxs (hm.blk b)
    have hbk := hm.blk b
    rw [hget] at hbk
    have hlive : live m b := by unfold live; rw [hget]; exact fun h => by cases h
    have hb48 : (p + q) * inf.bytes ≤ 140737488355328 := Nat.le_trans (Nat.mul_le_mul hble hby) (by decide)
    have holds : ∀ j u, xu[j]? = some u → w.cell? ((⟨G.ρ b, o, none⟩ : Addr).add j) = some u := fun j u hj => by rw [addr_add']; exact hxcell j u hj
    have grow : ∀ cap, cap < p + q → ∃ r, (Builtin.append_ #[t, t] ty #[.slice (some ⟨G.ρ b, o, none⟩) p cap, .slice (some b') q xc]).run P w = .ok r (w.drew.alloc (.cells ((xu ++ us).toArray ++ Builtin.zeroCells zv.cells (grownCap w (p + q) cap e - (p + q))) e)) ∧ r = .slice (some ⟨w.heap.size, 0, none⟩) (p + q) (grownCap w (p + q) cap e) := by
      intro cap hcap
      have hr := run_append_grow (P := P) w t ty e inf zv ht hi hz ⟨G.ρ b, o, none⟩ p cap xu (by rw [hxul, hk]) holds b' q xc us (by rw [hul, hk]) hcell hcap (by omega) (growslice_fits hcap hb48)
      refine ⟨_, ?_, rfl⟩
      rw [hr]
      congr 4
      simp
    -- where there is room
    have room : ∀ (cap off : Nat) (t' : TypeId) (cv rest : List Value) (fr : Nat × Nat), (fr = (0, 0) ∨ cv.length + rest.length ≤ fr.1) → off = o → w.heap[G.ρ b]? = some (.cells (cv ++ rest).toArray t' fr) → p + q ≤ cap → o + (p + q) * k ≤ cv.length + rest.length →
        (Builtin.append_ #[t, t] ty #[.slice (some ⟨G.ρ b, o, none⟩) p cap, .slice (some b') q xc]).run P w = .ok (.slice (some ⟨G.ρ b, o, none⟩) (p + q) cap) (w.setRow (G.ρ b) ((cv ++ rest).take (o + p * k) ++ us ++ (cv ++ rest).drop (o + p * k + us.length)).toArray) := by
      intro cap off t' cv rest fr hf0 _ hg hroom hfit
      have hf := run_firstCells_some (P := P) w inf.size q b' q xc us (by rw [hul, hk]) hcell
      have hst := run_storeCells_fr P (G.ρ b) (o + p * k) t' fr us 0 (cv ++ rest).toArray w hg (by
        simp only [List.size_toArray, List.length_append]
        rw [Nat.add_mul] at hfit
        omega) (by simpa using hf0) hus.one
      simp only [Nat.add_zero] at hst
      subst hk
      simp [Builtin.append_, run_underlying ht, sizeOf, typeInfo, hi, Builtin.lenOf, hroom, hf, addr_add', hst]
    split at h
    · split at h
      · rename_i hpq
        have hpq := Nat.le_of_ble_eq_true hpq
        split at h
        case h_2 => cases h
        rename_i hc
        rw [Bool.and_eq_true] at hc
        have hc1 := Nat.le_of_ble_eq_true hc.1
        have hc2 := Nat.le_of_ble_eq_true hc.2
        simp only [R.ok.injEq] at h
        obtain ⟨rfl, rfl, rfl⟩ := h
        obtain ⟨cv, rest, fr, k1, kf, k2, k3, k4⟩ := hbk
        have hcl := k2.lr.1
        have hr := room c o _ cv rest fr kf rfl k1 hpq (by omega)
        rw [Nat.add_mul] at hc2
        have hpost := hm.write (w' := w.setRow (G.ρ b) ((cv ++ rest).take (o + p * k) ++ us ++ (cv ++ rest).drop (o + p * k + us.length)).toArray) (x := .cells tt (setR l (o + p * k) ys) op2) hlive ⟨rfl, rfl, rfl, by simp⟩ (by simp) (fun j hj => setRow_other w (G.ρ b) j ((cv ++ rest).take (o + p * k) ++ us ++ (cv ++ rest).drop (o + p * k + us.length)).toArray hj) ⟨cv.take (o + p * k) ++ us ++ cv.drop (o + p * k + us.length), rest, fr, by
          rw [setRow_heap w _ _ _ tt fr k1]
          congr 3
          rw [List.take_append_of_le_length (by omega), List.drop_append_of_le_length (by omega)]
          simp [List.append_assoc], kf.imp id fun h => (by simp only [List.length_append, List.length_take, List.length_drop]; omega), k2.setR _ hus, k3, fun s hs => by
          have := k4 s hs
          refine ⟨?_, this.2⟩
          rw [← this.1]
          simp only [List.length_append, List.length_take, List.length_drop]
          omega⟩
        refine ⟨_, w.setRow (G.ρ b) ((cv ++ rest).take (o + p * k) ++ us ++ (cv ++ rest).drop (o + p * k + us.length)).toArray, G, by rw [ex]; exact hr, hpost.mono hc1, ?_⟩
        exact .sl b o (p + q) c false hal hpq
      · rename_i hpq
        have hpq : ¬ p + q ≤ c := fun e => by rw [Nat.ble_eq_true_of_le e] at hpq; cases hpq
        simp only [R.ok.injEq] at h
        obtain ⟨rfl, rfl, rfl⟩ := h
        obtain ⟨r, hr, rfl⟩ := grow c (by omega)
        obtain ⟨g1, g2⟩ := grown_ok (e := e) (old := c) (zv := zv) hm (hfl.2 n (Nat.le_refl _) (by omega)) (hxu.append hus) (q := p + q) (by rw [List.length_append, hxul, hul, Nat.add_mul]) hzs h0 hble
        exact ⟨_, _, _, by rw [ex]; exact hr, g1.mono hfl.1, g2⟩
    · split at h
      case h_2 => cases h
      rename_i k' hc
      simp only [Bool.and_eq_true] at hc
      obtain ⟨c1, c2, c3⟩ := hc
      obtain rfl := Nat.eq_of_beq_eq_true c1
      obtain rfl := Nat.eq_of_beq_eq_true c2
      have c3 := Nat.le_of_ble_eq_true c3
      split at h
      case h_2 => cases h
      rename_i hte
      rw [Bool.and_eq_true] at hte
      obtain rfl := Nat.eq_of_beq_eq_true hte.1
      obtain rfl := Nat.eq_of_beq_eq_true hte.2
      simp only [R.ok.injEq] at h
      obtain ⟨rfl, rfl, rfl⟩ := h
      obtain ⟨cv, rest, fr, k1, kf, k2, k3, k4⟩ := hbk
      obtain ⟨k5, k6, _⟩ := k4 k' rfl
      have hcap : capV G b 0 true = G.κ b := by simp [capV]
      rw [hcap] at ex hpc
      by_cases hroom : p + q ≤ G.κ b
      · -- in place: the new block lies where the old one did
        have hfit : 0 + (p + q) * k' ≤ cv.length + rest.length := by rw [k5, Nat.zero_add]; exact Nat.mul_le_mul_right _ hroom
        have hr := room (G.κ b) 0 _ cv rest fr kf rfl k1 hroom hfit
        have hfr : ¬ G.al n := hfl.2 n (Nat.le_refl _) (by omega)
        have hext := Gh.put_ext (i := n) (G.ρ b) (G.κ b) hfr
        have hold : ∀ i, i ≠ n → (G.put n (G.ρ b) (G.κ b)).ρ i = G.ρ i ∧ (G.put n (G.ρ b) (G.κ b)).κ i = G.κ i := fun i hi => ⟨if_neg hi, if_neg hi⟩
        have hbn : b ≠ n := fun e => by subst e; exact hfr hal
        have hl2 : ∀ i, live (M.set (M.set m b .dead) n (.cells tt (xs ++ ys) (some k'))) i → i = n ∨ (i ≠ n ∧ i ≠ b ∧ live m i) := by
          intro i hi
          rcases live_set hi with ⟨e, _⟩ | ⟨e, h1⟩
          · exact .inl e
          · rcases live_set h1 with ⟨_, h2⟩ | ⟨e2, h2⟩
            · exact absurd rfl h2
            · exact .inr ⟨e, e2, h2⟩
        have hcl : cv.length = l.length := k2.lr.1
        have hxle : p * k' ≤ cv.length := by
          unfold slCells at hxs
          rw [hget] at hxs
          simp only at hxs
          split at hxs
          · rename_i hle; have := Nat.le_of_ble_eq_true hle; omega
          · cases hxs
        have hxu' : xu = cv.take (p * k') := by
          apply List.ext_getElem?
          intro j
          rcases Nat.lt_or_ge j (p * k') with hj | hj
          · have e1 : xu[j]? = some xu[j] := List.getElem?_eq_getElem (by omega)
            have e2 := hxcell j _ e1
            rw [Nat.zero_add] at e2
            simp only [World.cell?, k1] at e2
            rw [e1, List.getElem?_take, if_pos hj]
            simp [List.getElem?_append_left (show j < cv.length by omega)] at e2
            rw [← e2]
          · rw [List.getElem?_eq_none (by omega), List.getElem?_eq_none (by simp; omega)]
        have hsz : (w.setRow (G.ρ b) ((cv ++ rest).take (0 + p * k') ++ us ++ (cv ++ rest).drop (0 + p * k' + us.length)).toArray).heap.size = w.heap.size := by simp
        have hown := hm.own b hlive
        refine ⟨_, w.setRow (G.ρ b) ((cv ++ rest).take (0 + p * k') ++ us ++ (cv ++ rest).drop (0 + p * k' + us.length)).toArray, G.put n (G.ρ b) (G.κ b), by rw [ex]; exact hr, ⟨hext, ⟨fun i => ?_, fun i j hij hi hj => ?_, fun i hi => ?_, by rw [hsz]; exact hm.base⟩, ⟨rfl, rfl, rfl, by simp⟩, by omega, fun i hi hl' => ?_, fun i hi hi' hl' => ?_, fun y hy hno => setRow_other _ _ _ _ (fun e => hno b c3 hlive e.symm), fun i hi => ?_⟩, ?_⟩
        · refine get_set_cases (C := BkR _ (G.put n (G.ρ b) (G.κ b)) i) i (fun e => ?_) (fun _ => trivial) (fun e => get_set_cases (C := BkR _ (G.put n (G.ρ b) (G.κ b)) i) i (fun _ => trivial) (fun _ => trivial) (fun e2 => ?_))
          · subst e
            refine ⟨xu ++ us, (cv ++ rest).drop (p * k' + us.length), fr, ?_, kf.imp id fun h => (by simp only [List.length_append, List.length_drop]; rw [Nat.add_mul] at hfit; omega), (hxu.append hus).ext hext, (fun h => by cases h), fun s hs => ?_⟩
            · rw [Gh.put_ρ, setRow_heap w _ _ _ tt fr k1]
              congr 3
              simp only [Nat.zero_add]
              rw [List.take_append_of_le_length hxle, ← hxu']
            · obtain rfl := Option.some.inj hs
              rw [Gh.put_κ]
              refine ⟨?_, k6, h0⟩
              rw [Nat.add_mul] at hfit
              simp only [List.length_append, List.length_drop]
              omega
          · by_cases hlv : live m i
            · exact (hm.blk i).keep hext (hold i e).1 (hold i e).2 (setRow_other _ _ _ _ (hm.apart i b e2 hlv hlive))
            · unfold live at hlv
              rw [Classical.not_not.1 hlv]; trivial
        · rcases hl2 i hi with e1 | ⟨e1, e3, h1⟩ <;> rcases hl2 j hj with e2 | ⟨e2, e4, h2⟩
          · omega
          · subst e1
            rw [Gh.put_ρ, (hold j e2).1]
            exact (hm.apart j b e4 h2 hlive).symm
          · subst e2
            rw [Gh.put_ρ, (hold i e1).1]
            exact hm.apart i b e3 h1 hlive
          · rw [(hold i e1).1, (hold j e2).1]
            exact hm.apart i j hij h1 h2
        · rw [hsz]
          rcases hl2 i hi with e1 | ⟨e1, e3, h1⟩
          · subst e1
            rw [Gh.put_ρ]
            exact ⟨hown.1, hown.2.1, .inl rfl⟩
          · rw [(hold i e1).1]
            have := hm.own i h1
            exact ⟨this.1, this.2.1, .inr this.2.2⟩
        · rcases hl2 i hl' with e1 | ⟨e1, e3, h1⟩
          · omega
          · exact h1
        · have e1 : i = n := by omega
          subst e1; rw [Gh.put_ρ]; exact .inr ⟨b, c3, hlive, rfl⟩
        · rcases hi with hi | hi
          · exact .inr (by omega)
          · exact .inl hi
        · have hc2 : capV (G.put n (G.ρ b) (G.κ b)) n 0 true = G.κ b := by simp only [capV, cond_true, Gh.put_κ, Nat.sub_zero]
          have := CR.sl (G := G.put n (G.ρ b) (G.κ b)) n 0 (p + q) 0 true (.inl rfl) (by rw [hc2]; exact hroom)
          rw [hc2, Gh.put_ρ] at this
          exact this
      · obtain ⟨r, hr, rfl⟩ := grow (G.κ b) (by omega)
        have hm2 := hm.kill b
        obtain ⟨g1, g2⟩ := grown_ok (e := tt) (old := G.κ b) (zv := zv) hm2 (hfl.2 n (Nat.le_refl _) (by omega)) (hxu.append hus) (q := p + q) (by rw [List.length_append, hxul, hul, Nat.add_mul]) hzs h0 hble
        refine ⟨_, _, _, by rw [ex]; exact hr, ⟨g1.ext, g1.memr, g1.rest, g1.len, fun i hi hl' => ?_, fun i hi hi' hl' => ?_, fun y hy hno => ?_, g1.new⟩, g2⟩
        · rcases live_set (g1.dead i hi hl') with ⟨_, h2⟩ | ⟨_, h2⟩
          · exact absurd rfl h2
          · exact h2
        · rcases g1.fresh i hi hi' hl' with h2 | ⟨b2, h2, h3, h4⟩
          · exact .inl h2
          · rcases live_set h3 with ⟨_, h5⟩ | ⟨_, h5⟩
            · exact absurd rfl h5
            · exact .inr ⟨b2, Nat.le_trans hfl.1 h2, h5, h4⟩
        · refine g1.frame y hy fun i hi hl' e => ?_
          rcases live_set hl' with ⟨_, h5⟩ | ⟨_, h5⟩
          · exact absurd rfl h5
          · exact hno i (Nat.le_trans hfl.1 hi) h5 e
  · cases h
end
end Go.Proofs.YtbpjinefbnlenaaGreatDoor.E

/- An exact machine, part 9: maps. -/
namespace Go.Proofs.YtbpjinefbnlenaaGreatDoor.E
open Go Go.RowKit
set_option linter.unusedVariables false

section
variable {P : Program}
/-! keys: numbers, texts, bools; structs of them -/
def keq0 (P : Program) (t : TypeId) (a b : V) : Option Bool :=
  match P.underlying t, a, b with
  | some (.int _), .int k x, .int k' y => match kEq k k' with | true => some (ieq x y) | false => none
  | some .string, .str x, .str y => some (x == y)
  | some .bool, .bool x, .bool y => some (x == y)
  | _, _, _ => none
theorem keq0_ok {w : World} {G : Gh} {t : TypeId} {a b : V} {u v : Value} {r : Bool} (h : keq0 P t a b = some r) (ha : CR G a u) (hb : CR G b v) (d : Nat) : (Op.equalIn (d + 1) t u v).run P w = .ok r w := by
  unfold keq0 at h
  split at h
  · rename_i k0 k x k' y hu
    split at h
    · rename_i hk
      obtain rfl := kEq_ok hk
      obtain rfl := Option.some.inj h
      rw [i_int ha, i_int hb, ieq_eq]
      simp only [Op.equalIn, Sem.run_bind, run_underlying hu, Result.andThen_ok]
      rfl
    · cases h
  · rename_i x y hu
    obtain rfl := Option.some.inj h
    rw [i_str ha, i_str hb, run_equalIn_string w d t _ _ hu, str_toList, str_toList]
  · rename_i x y hu
    obtain rfl := Option.some.inj h
    rw [i_bool ha, i_bool hb]
    exact run_equalIn_bool w d t x y hu
  · cases h
/-- is this a value of that scalar type? -/
def scal (P : Program) (t : TypeId) : Bool := match P.underlying t with | some (.int _) => true | some .string => true | some .bool => true | _ => false
theorem scal_check {w : World} {t : TypeId} (h : scal P t = true) (em : Bool) (d : Nat) (v : Value) : (Instr.checkKey em (d + 1) t v).run P w = .ok () w := by
  unfold scal at h
  split at h
  · rename_i hu; simp [Instr.checkKey, run_underlying hu, Sem.run_pure]
  · rename_i hu; simp [Instr.checkKey, run_underlying hu, Sem.run_pure]
  · rename_i hu; simp [Instr.checkKey, run_underlying hu, Sem.run_pure]
  · cases h
theorem scal_agg {t : TypeId} (h : scal P t = true) : isAggT P t = some false := by
  unfold scal at h
  unfold isAggT
  split at h
  · rename_i hu; rw [hu]
  · rename_i hu; rw [hu]
  · rename_i hu; rw [hu]
  · cases h
/-- fields one behind the other, each of one cell -/
def keyFs (P : Program) : List Field → Nat → Bool
  | [], _ => true
  | f :: l, i => f.name != "_" && (Nat.beq f.offset i && (scal P f.type && keyFs P l (i + 1)))
def keqL (P : Program) : List Field → List V → List V → Option Bool
  | [], [], [] => some true
  | f :: fs, a :: l, b :: m => match keq0 P f.type a b with | some true => keqL P fs l m | r => r
  | _, _, _ => none
theorem part_scal {w : World} {t : TypeId} (h : scal P t = true) {cs : Array Value} {i : Nat} {v : Value} (hi : cs[i]? = some v) : (part t cs i).run P w = .ok v w := by
  simp only [part, Sem.run_bind, agg_run (scal_agg h), Result.andThen_ok, Bool.false_eq_true, if_false, hi]
  rfl
theorem keqL_ok {w : World} {G : Gh} (d : Nat) : ∀ (fs : List Field) (l m : List V) (cs ds c1 d1 : List Value) (i : Nat) (r : Bool), keyFs P fs i = true → keqL P fs l m = some r → LR G l cs → LR G m ds → c1.length = i → d1.length = i →
    (Op.eqFields (d + 1) (c1 ++ cs).toArray (d1 ++ ds).toArray fs).run P w = .ok r w
  | [], [], [], cs, ds, c1, d1, i, r, _, h, _, _, _, _ => by obtain rfl := Option.some.inj h; simp [Op.eqFields, Sem.run_pure]
  | f :: fs, a :: l, b :: m, cs, ds, c1, d1, i, r, hk, h, hl, hm, h1, h2 => by
    simp only [keyFs, Bool.and_eq_true, bne_iff_ne, ne_eq] at hk
    obtain ⟨hn, hof, hsc, hrest⟩ := hk
    have hof := Nat.eq_of_beq_eq_true hof
    obtain ⟨x, cs', rfl, hx, hl'⟩ := hl.head
    obtain ⟨y, ds', rfl, hy, hm'⟩ := hm.head
    have p1 : (part f.type (c1 ++ x :: cs').toArray f.offset).run P w = .ok x w := part_scal hsc (by rw [hof, ← h1]; simp)
    have p2 : (part f.type (d1 ++ y :: ds').toArray f.offset).run P w = .ok y w := part_scal hsc (by rw [hof, ← h2]; simp)
    simp only [keqL] at h
    have go : ∀ q, keq0 P f.type a b = some q → (Op.equalIn (d + 1) f.type x y).run P w = .ok q w := fun q hq => keq0_ok hq hx hy d
    split at h
    · rename_i hq
      have ih := keqL_ok (w := w) d fs l m cs' ds' (c1 ++ [x]) (d1 ++ [y]) (i + 1) r hrest h hl' hm' (by simp [h1]) (by simp [h2])
      simp only [List.append_assoc, List.singleton_append] at ih
      simp [Op.eqFields, hn, Sem.run_bind, p1, p2, go _ hq]
      simpa using ih
    · rename_i hq
      cases hq' : keq0 P f.type a b with
      | none => rw [hq'] at h; cases h
      | some q =>
        cases q with
        | true => exact absurd hq' hq
        | false =>
          rw [hq'] at h
          obtain rfl := Option.some.inj h
          simp [Op.eqFields, hn, Sem.run_bind, p1, p2, go _ hq']
  | [], [], _ :: _, _, _, _, _, _, _, _, h, _, _, _, _ => by cases h
  | [], _ :: _, _, _, _, _, _, _, _, _, h, _, _, _, _ => by cases h
  | _ :: _, [], _, _, _, _, _, _, _, _, h, _, _, _, _ => by cases h
  | _ :: _, _ :: _, [], _, _, _, _, _, _, _, h, _, _, _, _ => by cases h
/-- may keys of this type be looked up? -/
def keyT (P : Program) (t : TypeId) : Bool := match P.underlying t with
  | some (.struct fs) => !P.stoodInHeld t && keyFs P fs.toList 0
  | _ => scal P t
def keq (P : Program) (t : TypeId) (a b : V) : Option Bool :=
  match P.underlying t, a, b with
  | some (.struct fs), .agg l, .agg m => keqL P fs.toList l m
  | _, a, b => keq0 P t a b
theorem keq_ok {w : World} {G : Gh} {t : TypeId} {a b : V} {u v : Value} {r : Bool} (hk : keyT P t = true) (h : keq P t a b = some r) (ha : CR G a u) (hb : CR G b v) (d : Nat) : (Op.equalIn (d + 2) t u v).run P w = .ok r w := by
  unfold keq at h
  split at h
  · rename_i fs l m hu
    unfold keyT at hk
    rw [hu] at hk
    simp only [Bool.and_eq_true, Bool.not_eq_true'] at hk
    cases ha with
    | agg l cs g1 g2 g3 =>
      cases hb with
      | agg m ds k1 k2 k3 =>
        have hfo : P.fieldsOf t = fs := by simp only [Program.fieldsOf, hu]
        rw [run_equalIn_struct w (d + 1) t cs.toArray ds.toArray (by rw [hfo]; exact hu) hk.1, hfo]
        exact keqL_ok (w := w) d fs.toList l m cs ds [] [] 0 r hk.2 h ⟨g1, g2⟩ ⟨k1, k2⟩ rfl rfl
  · exact keq0_ok h ha hb (d + 1)
theorem checkFs {w : World} {em : Bool} (d : Nat) : ∀ (fs : List Field) (i : Nat) (c1 cs : List Value), keyFs P fs i = true → c1.length = i → cs.length = fs.length →
    (forIn fs PUnit.unit (fun f _ => (do
      if f.name ≠ "_" then Instr.checkKey em (d + 1) f.type (← part f.type (c1 ++ cs).toArray f.offset)
      pure (ForInStep.yield PUnit.unit) : Sem (ForInStep PUnit)))).run P w = .ok PUnit.unit w
  | [], i, c1, cs, _, _, _ => by simp [Sem.run_pure]
  | f :: fs, i, c1, cs, hk, h1, h2 => by
    simp only [keyFs, Bool.and_eq_true, bne_iff_ne, ne_eq] at hk
    obtain ⟨hn, hof, hsc, hrest⟩ := hk
    have hof := Nat.eq_of_beq_eq_true hof
    match cs, h2 with
    | x :: cs', h2 =>
      have p1 : (part f.type (c1 ++ x :: cs').toArray f.offset).run P w = .ok x w := part_scal hsc (by rw [hof, ← h1]; simp)
      have ih := checkFs (em := em) (w := w) d fs (i + 1) (c1 ++ [x]) cs' hrest (by simp [h1]) (by simpa using h2)
      simp only [List.append_assoc, List.singleton_append] at ih
      rw [List.forIn_cons]
      simp only [hn, ne_eq, not_false_eq_true, if_true, Sem.run_bind, p1, scal_check hsc em d x, Result.andThen_ok, Sem.run_pure]
      simpa using ih
def lenOk (P : Program) (t : TypeId) (a : V) : Bool := match P.underlying t, a with
  | some (.struct fs), .agg l => Nat.beq l.length fs.toList.length
  | some (.struct _), _ => false
  | _, _ => true
theorem check_ok {w : World} {G : Gh} {em : Bool} {t : TypeId} {a : V} {u : Value} (hk : keyT P t = true) (hl : lenOk P t a = true) (ha : CR G a u) (d : Nat) : (Instr.checkKey em (d + 2) t u).run P w = .ok () w := by
  unfold lenOk at hl
  unfold keyT at hk
  split at hl
  · rename_i fs l hu
    rw [hu] at hk
    simp only [Bool.and_eq_true, Bool.not_eq_true'] at hk
    have hl := Nat.eq_of_beq_eq_true hl
    cases ha with
    | agg l cs g1 g2 g3 =>
      rw [Instr.checkKey]
      simp only [Sem.run_bind, run_underlying hu, Result.andThen_ok]
      rw [← Array.forIn_toList]
      have := checkFs (P := P) (w := w) (em := em) d fs.toList 0 [] cs hk.2 rfl (by rw [g1, hl])
      simp at this ⊢
      rw [this]
      rfl
  · cases hl
  · rename_i hns _
    split at hk
    · rename_i fs hu; exact absurd hu (hns fs)
    · exact scal_check hk em (d + 1) u
/-! entries -/
noncomputable def mfind (P : Program) (t : TypeId) (k : V) : List (V × V) → Option (Option Nat)
  | [] => some none
  | (k', _) :: l => match keq P t k k' with
    | some true => some (some 0)
    | some false => (match mfind P t k l with | some (some i) => some (some (i + 1)) | r => r)
    | none => none
def FoundAt (es : List MapEntry) (i : Nat) (f : Option Nat) (r : Option (Nat × Value)) : Prop :=
  match f with
  | none => r = none
  | some j => ∃ y, es[j]? = some y ∧ r = some (i + j, y.val)
theorem equal_of {w : World} {t : TypeId} {u v : Value} {r : Bool} (h : (Op.equalIn (9998 + 2) t u v).run P w = .ok r w) : (Op.equal t u v).run P w = .ok r w := h
theorem findAsking_ok {w : World} {G : Gh} {t : TypeId} {k : V} {u : Value} (hk : keyT P t = true) (hu : CR G k u) : ∀ (l : List (V × V)) (es : List MapEntry) (i : Nat) (f : Option Nat), EntsR G l es → mfind P t k l = some f →
    ∃ r, (Instr.findAsking t u es i).run P w = .ok r w ∧ FoundAt es i f r
  | [], es, i, f, h, hf => by
    obtain rfl : es = [] := h
    obtain rfl := Option.some.inj hf
    exact ⟨none, by simp [Instr.findAsking, Sem.run_pure], rfl⟩
  | (k', v') :: l, es, i, f, h, hf => by
    obtain ⟨y, t', rfl, h1, h2⟩ := h
    simp only [mfind] at hf
    split at hf
    · rename_i hq
      obtain rfl := Option.some.inj hf
      have := equal_of (w := w) (keq_ok hk hq hu h1.1 9998)
      exact ⟨some (i, y.val), by simp [Instr.findAsking, Sem.run_bind, this, Sem.run_pure], y, rfl, rfl⟩
    · rename_i hq
      have := equal_of (w := w) (keq_ok hk hq hu h1.1 9998)
      split at hf
      · rename_i j hj
        obtain rfl := Option.some.inj hf
        obtain ⟨r, hr, z, hz, rfl⟩ := findAsking_ok (w := w) hk hu l t' (i + 1) (some j) h2 hj
        exact ⟨some (i + 1 + j, z.val), by simp only [Instr.findAsking, Sem.run_bind, this, Result.andThen_ok, Bool.false_eq_true, if_false, hr], z, by simpa using hz, by rw [show i + (j + 1) = i + 1 + j by omega]⟩
      · rename_i hno
        cases f with
        | some j => exact absurd hf (hno j)
        | none =>
          obtain ⟨r, hr, hz⟩ := findAsking_ok (w := w) hk hu l t' (i + 1) none h2 hf
          exact ⟨r, by simp only [Instr.findAsking, Sem.run_bind, this, Result.andThen_ok, Bool.false_eq_true, if_false, hr], hz⟩
    · cases hf
theorem findNow_ok {w : World} {G : Gh} {t : TypeId} {d : TypeDesc} {k : V} {u : Value} (hd : P.underlying t = some d) (hu : CR G k u) : ∀ (l : List (V × V)) (es : List MapEntry) (i : Nat) (f : Option Nat), EntsR G l es → mfind P t k l = some f → ∀ r, Instr.findNow d u es i = some r → FoundAt es i f r
  | [], es, i, f, h, hf, r, hr => by
    obtain rfl : es = [] := h
    obtain rfl := Option.some.inj hf
    simp only [Instr.findNow, Option.some.injEq] at hr
    exact hr.symm
  | (k', v') :: l, es, i, f, h, hf, r, hr => by
    obtain ⟨y, t', rfl, h1, h2⟩ := h
    simp only [Instr.findNow] at hr
    -- what 'sameNow' says is what the machine says
    have same : ∀ q q', keq P t k k' = some q → Instr.sameNow d u y.key = some q' → q = q' := by
      intro q q' hq hs
      unfold keq at hq
      split at hq
      · rename_i fs l m hu'
        rw [hd] at hu'
        obtain rfl := Option.some.inj hu'
        simp [Instr.sameNow] at hs
      · have hk1 := h1.1
        unfold keq0 at hq
        rw [hd] at hq
        split at hq
        · rename_i k0 kk x kk' z hu' hneg
          obtain rfl := Option.some.inj hu'
          split at hq
          · rename_i hkk
            obtain rfl := kEq_ok hkk
            obtain rfl := Option.some.inj hq
            have e1 := i_int hu
            have e2 := i_int hk1
            rw [e1, e2] at hs
            simp only [Instr.sameNow, if_true, Option.some.injEq] at hs
            rw [ieq_eq]; exact hs
          · cases hq
        · rename_i x z hu' hneg
          obtain rfl := Option.some.inj hu'
          obtain rfl := Option.some.inj hq
          have e1 := i_str hu
          have e2 := i_str hk1
          rw [e1, e2] at hs
          simp only [Instr.sameNow, Option.some.injEq] at hs
          rw [← hs]
          rw [show ((⟨List.toArray x⟩ : ByteArray) == ⟨List.toArray z⟩) = (List.toArray x == List.toArray z) from rfl]
          simp
        · rename_i x z hu' hneg
          obtain rfl := Option.some.inj hu'
          obtain rfl := Option.some.inj hq
          have e1 := i_bool hu
          have e2 := i_bool hk1
          rw [e1, e2] at hs
          simp only [Instr.sameNow, Option.some.injEq] at hs
          exact hs
        · cases hq
    simp only [mfind] at hf
    split at hf
    · rename_i hq
      obtain rfl := Option.some.inj hf
      split at hr
      · obtain rfl := Option.some.inj hr; exact ⟨y, rfl, rfl⟩
      · rename_i hs; have := same _ _ hq hs; cases this
      · cases hr
    · rename_i hq
      split at hr
      · rename_i hs; have := same _ _ hq hs; cases this
      · split at hf
        · rename_i j hj
          obtain rfl := Option.some.inj hf
          obtain ⟨z, hz, e⟩ := findNow_ok (w := w) hd hu l t' (i + 1) (some j) h2 hj r hr
          exact ⟨z, by simpa using hz, by rw [e, show i + (j + 1) = i + 1 + j by omega]⟩
        · rename_i hno
          cases f with
          | some j => exact absurd hf (hno j)
          | none => exact findNow_ok (w := w) hd hu l t' (i + 1) none h2 hf r hr
      · cases hr
    · cases hf
theorem findKey_ok {w : World} {G : Gh} {t : TypeId} {k : V} {u : Value} (hk : keyT P t = true) (hu : CR G k u) {l : List (V × V)} {es : List MapEntry} {f : Option Nat} (h : EntsR G l es) (hf : mfind P t k l = some f) :
    ∃ r, (Instr.findKey t u es).run P w = .ok r w ∧ FoundAt es 0 f r := by
  have hd : ∃ d, P.underlying t = some d := by
    cases hu' : P.underlying t with
    | some d => exact ⟨d, rfl⟩
    | none => unfold keyT at hk; rw [hu'] at hk; unfold scal at hk; rw [hu'] at hk; cases hk
  obtain ⟨d, hd⟩ := hd
  simp only [Instr.findKey, Sem.run_bind, run_underlying hd, Result.andThen_ok]
  cases hn : Instr.findNow d u es 0 with
  | some r => exact ⟨r, by simp [Sem.run_pure], findNow_ok (w := w) hd hu l es 0 f h hf r hn⟩
  | none => exact findAsking_ok hk hu l es 0 f h hf
theorem EntsR.get {G : Gh} : ∀ {l : List (V × V)} {es : List MapEntry}, EntsR G l es → ∀ {j : Nat} {y : MapEntry}, es[j]? = some y → ∃ x, l[j]? = some x ∧ EntR G x y
  | [], es, h, j, y, hy => by obtain rfl : es = [] := h; simp at hy
  | x :: l, es, h, j, y, hy => by
    obtain ⟨z, t, rfl, h1, h2⟩ := h
    cases j with
    | zero => simp at hy; subst hy; exact ⟨x, rfl, h1⟩
    | succ j => simpa using EntsR.get h2 (by simpa using hy)
theorem EntsR.len {G : Gh} : ∀ {l : List (V × V)} {es : List MapEntry}, EntsR G l es → es.length = l.length
  | [], es, h => by obtain rfl : es = [] := h; rfl
  | x :: l, es, h => by obtain ⟨z, t, rfl, h1, h2⟩ := h; simp [EntsR.len h2]
theorem EntsR.snoc {G : Gh} : ∀ {l : List (V × V)} {es : List MapEntry}, EntsR G l es → ∀ {x : V × V} {y : MapEntry}, EntR G x y → EntsR G (l ++ [x]) (es ++ [y])
  | [], es, h, x, y, hx => by obtain rfl : es = [] := h; exact ⟨y, [], rfl, hx, rfl⟩
  | z :: l, es, h, x, y, hx => by obtain ⟨z', t, rfl, h1, h2⟩ := h; exact ⟨z', t ++ [y], rfl, h1, EntsR.snoc h2 hx⟩
theorem EntsR.erase {G : Gh} : ∀ {l : List (V × V)} {es : List MapEntry}, EntsR G l es → ∀ j, EntsR G (l.eraseIdx j) (es.eraseIdx j)
  | [], es, h, j => by obtain rfl : es = [] := h; exact rfl
  | z :: l, es, h, 0 => by obtain ⟨z', t, rfl, h1, h2⟩ := h; exact h2
  | z :: l, es, h, j + 1 => by obtain ⟨z', t, rfl, h1, h2⟩ := h; exact ⟨z', _, rfl, h1, EntsR.erase h2 j⟩
theorem EntsR.modify {G : Gh} {x : V × V} {f : MapEntry → MapEntry} (hf : ∀ y, EntR G x (f y)) : ∀ {l : List (V × V)} {es : List MapEntry}, EntsR G l es → ∀ j, EntsR G (l.set j x) (es.modify j f)
  | [], es, h, j => by obtain rfl : es = [] := h; simp [EntsR]
  | z :: l, es, h, 0 => by obtain ⟨z', t, rfl, h1, h2⟩ := h; exact ⟨_, t, by simp, hf z', h2⟩
  | z :: l, es, h, j + 1 => by obtain ⟨z', t, rfl, h1, h2⟩ := h; exact ⟨z', _, by simp [List.modify], h1, EntsR.modify hf h2 j⟩
end
end Go.Proofs.YtbpjinefbnlenaaGreatDoor.E

/- An exact machine, part 10: operations on maps, copies, conversions, iterators, builtins. -/
namespace Go.Proofs.YtbpjinefbnlenaaGreatDoor.E
open Go Go.RowKit
set_option linter.unusedVariables false

section
variable {P : Program} {o : Oper} {ts : T} {v : V} {fl n : Nat} {m : M}
theorem run_getObj' {w : World} {b : Nat} {es : Array MapEntry} {clock : Nat} (h : w.heap[b]? = some (.map es clock)) : (getObj b).run P w = .ok (.map es clock) w := by
  simp [getObj, Sem.run, h]
/-- the zero value as one value -/
noncomputable def zv1 (P : Program) (t : TypeId) : Option V := match zc P t, isAggT P t with
  | some z, some true => some (.agg z)
  | some z, some false => match z with | [x] => some x | _ => none
  | _, _ => none
def notAgg (P : Program) (t : TypeId) : Bool := match P.info? t with | some i => (match i.zero with | some (.agg _) => (match isAggT P t with | some true => true | _ => false) | some (.tuple _) => false | some _ => (match isAggT P t with | some false => true | _ => false) | none => false) | none => false
theorem zv1_run {w : World} {t : TypeId} {x : V} (h : zv1 P t = some x) (hn : notAgg P t = true) : ∃ z, (zeroValue t).run P w = .ok z w ∧ ∀ G, CR G x z := by
  unfold zv1 at h
  unfold notAgg at hn
  split at hn
  case h_2 => cases hn
  rename_i inf hi
  have zr : ∀ zz, inf.zero = some zz → (zeroValue t).run P w = .ok zz w := by
    intro zz hz
    have h1 : (typeInfo t).run P w = .ok inf w := by
      unfold typeInfo program
      simp only [Sem.run_bind]
      simp only [Sem.run, hi, Result.andThen]
      rfl
    unfold zeroValue
    simp only [Sem.run_bind, h1, Result.andThen_ok, hz]
    rfl
  have zl : ∀ z zz, zc P t = some z → inf.zero = some zz → ∀ G, L1 G z zz.cells.toList := by
    intro z zz hz hzz G
    unfold zc at hz
    rw [hi] at hz
    simp only [hzz] at hz
    split at hz
    · rename_i hone
      obtain rfl := Option.some.inj hz
      exact ⟨cvs_ok G _, List.all_eq_true.1 hone⟩
    · cases hz
  split at hn
  · rename_i cs hz
    split at hn
    case h_2 => cases hn
    rename_i hag
    rw [hag] at h
    split at h
    · rename_i z hzc _
      obtain rfl := Option.some.inj h
      refine ⟨_, zr _ hz, fun G => ?_⟩
      have := agg_of (zl _ _ hzc hz G)
      simpa [Value.cells] using this
    · rename_i hf; cases hf
    · cases h
  · cases hn
  · rename_i zz h1 h2 hz
    split at hn
    case h_2 => cases hn
    rename_i hag
    rw [hag] at h
    split at h
    · rename_i hf; cases hf
    · rename_i z hzc _
      split at h
      · obtain rfl := Option.some.inj h
        refine ⟨_, zr _ hz, fun G => ?_⟩
        have hl := zl _ _ hzc hz G
        have : zz.cells = #[zz] := by cases zz <;> first | rfl | exact absurd rfl (h1 _) | exact absurd rfl (h2 _)
        rw [this] at hl
        exact hl.lr.2 0
      · cases h
    · cases h
  · cases hn
noncomputable def pLookup (P : Program) (t : TypeId) (k : V) (ok : Bool) (es : List (V × V)) : Option V :=
  match P.underlying t with
  | some (.map kt et) => match keyT P kt && (lenOk P kt k && notAgg P et), zv1 P et, mfind P kt k es with
    | true, some z, some f => match f with
      | none => some (match ok with | true => .tup [z, .bool false] | false => z)
      | some i => match es[i]? with
        | some (_, x) => some (match ok with | true => .tup [x, .bool true] | false => x)
        | none => none
    | _, _, _ => none
  | _ => none
theorem cr_pair {G : Gh} {a b : V} {x y : Value} (h : CR G a x) (k : CR G b y) : CR G (.tup [a, b]) (.tuple #[x, y]) := by
  have := (LR.nil (G := G)).cons k |>.cons h
  exact .tup _ _ this.1 this.2
theorem lookup_run {w : World} {G : Gh} {t : TypeId} {k : V} {ok : Bool} {es : List (V × V)} {ys : List MapEntry} {um ux : Value} (h : pLookup P t k ok es = some v) (hk : CR G k ux) (hes : EntsR G es ys) (hmap : um = .map none ∧ ys = [] ∨ ∃ r c, um = .map (some r) ∧ w.heap[r]? = some (.map ys.toArray c)) :
    ∃ r, (Instr.lookup t um ux ok).run P w = .ok r w ∧ CR G v r := by
  unfold pLookup at h
  split at h
  case h_2 => cases h
  rename_i kt et hu
  split at h
  case h_2 => cases h
  rename_i z f hc hz hf
  simp only [Bool.and_eq_true] at hc
  obtain ⟨hkt, hlen, hna⟩ := hc
  have hck := check_ok (w := w) (em := ys.toArray.isEmpty) hkt hlen hk 9998
  obtain ⟨zz, hzr, hzc⟩ := zv1_run (w := w) hz hna
  obtain ⟨r, hr, hfound⟩ := findKey_ok (w := w) hkt hk hes hf
  have hes' : (match um with
      | .map none => pure #[]
      | .map (some r) => do
        let .map es _ ← getObj r | stuck "Lookup: map expected"
        pure es
      | _ => stuck "Lookup: map expected" : Sem (Array MapEntry)).run P w = .ok ys.toArray w := by
    rcases hmap with ⟨rfl, rfl⟩ | ⟨r', c, rfl, hobj⟩
    · rfl
    · simp only [Sem.run_bind, run_getObj' hobj, Result.andThen_ok]; rfl
  have hck' : (Instr.checkKey ys.toArray.isEmpty 10000 kt ux).run P w = .ok () w := hck
  cases f with
  | none =>
    obtain rfl : r = none := hfound
    obtain rfl := Option.some.inj h
    refine ⟨if ok then .tuple #[zz, .bool false] else zz, ?_, ?_⟩
    · simp only [Instr.lookup, Sem.run_bind, run_underlying hu, Result.andThen_ok]
      rcases hmap with ⟨rfl, rfl⟩ | ⟨r', c, rfl, hobj⟩
      · simp only [Sem.run_pure, Result.andThen_ok, hck', hr, Sem.run_bind, hzr]
        try cases ok <;> rfl
      · simp only [Sem.run_bind, run_getObj' hobj, Result.andThen_ok, Sem.run_pure, hck', hr, hzr]
        try cases ok <;> rfl
    · cases ok
      · exact hzc G
      · exact cr_pair (hzc G) (.bool _)
  | some i =>
    obtain ⟨y, hy, rfl⟩ := hfound
    obtain ⟨x, hx, hxy⟩ := EntsR.get hes hy
    simp only [hx] at h
    obtain rfl := Option.some.inj h
    refine ⟨if ok then .tuple #[y.val, .bool true] else y.val, ?_, ?_⟩
    · simp only [Instr.lookup, Sem.run_bind, run_underlying hu, Result.andThen_ok]
      rcases hmap with ⟨rfl, rfl⟩ | ⟨r', c, rfl, hobj⟩
      · simp only [Sem.run_pure, Result.andThen_ok, hck', hr, Sem.run_bind]
        try cases ok <;> rfl
      · simp only [Sem.run_bind, run_getObj' hobj, Result.andThen_ok, Sem.run_pure, hck', hr]
        try cases ok <;> rfl
    · cases ok
      · exact hxy.2
      · exact cr_pair hxy.2 (.bool _)
theorem run_setObj' {w : World} {b : Nat} {o : Obj} {es0 : Array MapEntry} {c0 : Nat} (h : w.heap[b]? = some (.map es0 c0)) : ∃ w', (setObj b o).run P w = .ok () w' ∧ Rest w w' ∧ w'.heap.size = w.heap.size ∧ (∀ k, k ≠ b → w'.heap[k]? = w.heap[k]?) ∧ w'.heap[b]? = some o := by
  have hlt : b < w.heap.size := (Array.getElem?_eq_some_iff.1 h).1
  refine ⟨{ w with heap := w.heap.setIfInBounds b o }, ?_, ⟨rfl, rfl, rfl, by simp⟩, by simp, fun k hk => ?_, ?_⟩
  · simp [setObj, Sem.run, h]
  · simp [Array.getElem?_setIfInBounds, Ne.symm hk]
  · simp [Array.getElem?_setIfInBounds, hlt]
/-- keys that stay as they are when written again -/
def plainV : V → Bool
  | .int _ _ => true
  | .str _ => true
  | .bool _ => true
  | _ => false
theorem sameBits_of {G : Gh} {t : TypeId} {w : World} {a b : V} {u u' : Value} (h : keq P t a b = some true) (hp : plainV a = true) (ha : CR G a u) (hb : CR G b u') : Instr.sameBits 10000 u' u = true := by
  unfold keq at h
  split at h
  · cases hp
  · unfold keq0 at h
    split at h
    · split at h
      · rename_i hk
        obtain rfl := kEq_ok hk
        have h := Option.some.inj h
        rw [ieq_eq] at h
        rw [i_int ha, i_int hb]
        have := beq_iff_eq.1 h
        subst this
        simp [Instr.sameBits]
      · cases h
    · have h := Option.some.inj h
      rw [i_str ha, i_str hb]
      have := beq_iff_eq.1 h
      subst this
      show (({ data := _ } : ByteArray) == { data := _ }) = true
      rw [show ∀ (x y : Array UInt8), (({ data := x } : ByteArray) == { data := y }) = (x == y) from fun _ _ => rfl]
      simp
    · have h := Option.some.inj h
      rw [i_bool ha, i_bool hb]
      have := beq_iff_eq.1 h
      subst this
      simp [Instr.sameBits]
    · cases h
theorem mfind_keq : ∀ {t : TypeId} {k : V} {l : List (V × V)} {i : Nat}, mfind P t k l = some (some i) → ∃ x, l[i]? = some x ∧ keq P t k x.1 = some true
  | t, k, [], i, h => by cases h
  | t, k, (k', v') :: l, i, h => by
    simp only [mfind] at h
    split at h
    · rename_i hq
      obtain rfl := Option.some.inj (Option.some.inj h)
      exact ⟨_, rfl, hq⟩
    · split at h
      · rename_i j hj
        obtain rfl := Option.some.inj (Option.some.inj h)
        obtain ⟨x, h1, h2⟩ := mfind_keq hj
        exact ⟨x, by simpa using h1, h2⟩
      · rename_i hno; exact absurd h (hno i)
    · cases h
noncomputable def oMapU (P : Program) (fl n : Nat) (m : M) (t : TypeId) (mv k x : V) : R :=
  match mv with
  | .mp b => match M.get m b, P.underlying t with
    | .map es, some (.map kt _) => match keyT P kt && (lenOk P kt k && Nat.ble fl b), mfind P kt k es with
      | true, some none => .ok (.tup []) n (M.set m b (.map (es ++ [(k, x)])))
      | true, some (some i) => match plainV k with
        | true => .ok (.tup []) n (M.set m b (.map (es.set i (k, x))))
        | false => .fail
      | _, _ => .fail
    | _, _ => .fail
  | _ => .fail
theorem mapU_ok {t : TypeId} {x y z : Operand} {n' : Nat} {m' : M} (ho : o.op = .mapUpdate t x y z) (h : oMapU P fl n m t (evo ts x) (evo ts y) (evo ts z) = .ok v n' m') : OpOK P o ts fl n m v n' m' := by
  intro B w G a hm ha hfl next Q hn
  rw [ho] at ha
  have hx := ha x (by simp [Op.operands])
  have hy := ha y (by simp [Op.operands])
  have hz := ha z (by simp [Op.operands])
  unfold oMapU at h
  split at h
  case h_2 => cases h
  rename_i b e
  rw [e] at hx
  have ex : a.eval x = .map (some (G.ρ b)) := by cases hx' : a.eval x <;> rw [hx'] at hx <;> cases hx; rfl
  split at h
  case h_2 => cases h
  rename_i es kt et hget hu
  have hbk := hm.blk b
  rw [hget] at hbk
  obtain ⟨ys, clock, h1, h2⟩ := hbk
  have hlive : live m b := by unfold live; rw [hget]; exact fun h => by cases h
  have fin : ∀ (es' : List (V × V)) (ys' : List MapEntry) (c' : Nat), (∀ w', (setObj (G.ρ b) (.map ys'.toArray c')).run P w = .ok () w' → (Instr.mapUpdate t (a.eval x) (a.eval y) (a.eval z)).run P w = .ok () w') → EntsR G es' ys' → fl ≤ b → v = .tup [] → n' = n → m' = M.set m b (.map es') → o.wp P a w next Q := by
    intro es' ys' c' hr he hf hv hn' hm'
    subst hv; subst hn'; subst hm'
    obtain ⟨w', k1, k2, k3, k4, k5⟩ := run_setObj' (P := P) (o := .map ys'.toArray c') h1
    have := hr w' k1
    unfold Oper.wp
    have e2 : (execOp a.eval o).run P w = .ok .skip w' := by simp only [execOp, ho, Sem.run_bind, this, Result.andThen_ok]; rfl
    rw [e2]
    exact hn undef w' G ((hm.write (x := .map es') hlive k2 k3 k4 ⟨ys', c', k5, he⟩).mono hf) (cr_undef G)
  split at h
  · rename_i hc hf
    simp only [Bool.and_eq_true] at hc
    obtain ⟨hkt, hlen, hfb⟩ := hc
    have hfb := Nat.le_of_ble_eq_true hfb
    simp only [R.ok.injEq] at h
    obtain ⟨rfl, rfl, rfl⟩ := h
    have hck := check_ok (w := w) (em := false) hkt hlen hy 9998
    obtain ⟨r, hr, hfound⟩ := findKey_ok (w := w) hkt hy h2 hf
    obtain rfl : r = none := hfound
    refine fin (es ++ [(evo ts y, evo ts z)]) (ys ++ [({ key := a.eval y, val := a.eval z, born := clock } : MapEntry)]) (clock + 1) (fun w' hs => ?_) (h2.snoc ⟨hy, hz⟩) hfb rfl rfl rfl
    have hck' : (Instr.checkKey false 10000 kt (a.eval y)).run P w = .ok () w := hck
    have e3 : ys.toArray.push ({ key := a.eval y, val := a.eval z, born := clock } : MapEntry) = (ys ++ [({ key := a.eval y, val := a.eval z, born := clock } : MapEntry)]).toArray := by simp
    simp only [Instr.mapUpdate, ex, Sem.run_bind, run_underlying hu, Result.andThen_ok, run_getObj' h1, hck', hr, e3, hs]
  · rename_i i hc hf
    simp only [Bool.and_eq_true] at hc
    obtain ⟨hkt, hlen, hfb⟩ := hc
    have hfb := Nat.le_of_ble_eq_true hfb
    split at h
    case h_2 => cases h
    rename_i hpl
    simp only [R.ok.injEq] at h
    obtain ⟨rfl, rfl, rfl⟩ := h
    have hck := check_ok (w := w) (em := false) hkt hlen hy 9998
    obtain ⟨r, hr, y0, hy0, rfl⟩ := findKey_ok (w := w) hkt hy h2 hf
    obtain ⟨x0, hx0, hx1⟩ := EntsR.get h2 hy0
    obtain ⟨x1, hx2, hq⟩ := mfind_keq hf
    rw [hx0] at hx2
    obtain rfl := Option.some.inj hx2
    have hsb := sameBits_of (w := w) hq hpl hy hx1.1
    refine fin (es.set i (evo ts y, evo ts z)) (ys.modify i fun e => { e with key := a.eval y, val := a.eval z }) clock (fun w' hs => ?_) (EntsR.modify (fun y' => ⟨hy, hz⟩) h2 i) hfb rfl rfl rfl
    have hck' : (Instr.checkKey false 10000 kt (a.eval y)).run P w = .ok () w := hck
    have hks : (Instr.keyThatStays (((ys.toArray[0 + i]?).map (·.key)).getD (a.eval y)) (a.eval y)).run P w = .ok (a.eval y) w := by
      have : ys.toArray[0 + i]? = some y0 := by rw [Nat.zero_add]; simpa using hy0
      rw [this]
      simp only [Option.map_some, Option.getD_some, Instr.keyThatStays, hsb, if_true]
      rfl
    have e3 : ys.toArray.modify (0 + i) (fun e => { e with key := a.eval y, val := a.eval z }) = (ys.modify i fun e => { e with key := a.eval y, val := a.eval z }).toArray := by rw [Nat.zero_add]; simp
    simp only [Instr.mapUpdate, ex, Sem.run_bind, run_underlying hu, Result.andThen_ok, run_getObj' h1, hck', hr, hks, e3, hs]
  · cases h
end
end Go.Proofs.YtbpjinefbnlenaaGreatDoor.E

/- An exact machine, part 11: conversions, iterators, type assertions, builtins. -/
namespace Go.Proofs.YtbpjinefbnlenaaGreatDoor.E
open Go Go.RowKit
set_option linter.unusedVariables false

section
variable {P : Program} {o : Oper} {ts : T} {v : V} {fl n : Nat} {m : M}
def pConv (P : Program) (src dst : TypeId) (x : V) : Option V :=
  match P.underlying src, P.underlying dst, x with
  | some _, some (.int k), .int _ i => some (.int k (wr k i))
  | some _, some .string, .str s => some (.str s)
  | _, _, _ => none
theorem conv_ok {s d : TypeId} {x : Operand} (ho : o.op = .convert s d x) (h : pConv P s d (evo ts x) = some v) : PureOK P o ts v := by
  intro G a w ha
  rw [ho] at ha
  have hx := ha x (by simp [Op.operands])
  unfold pConv at h
  split at h
  · rename_i us k _ i hs hd e
    obtain rfl := Option.some.inj h
    rw [e] at hx
    have ex := i_int hx
    refine ⟨.int k (k.wrap i), ?_, by rw [wr_eq]; exact .int _ _⟩
    simp only [execOp, ho, convert, Sem.run_bind, run_underlying hs, run_underlying hd, Result.andThen_ok, ex, Conv.intToInt, Sem.run_pure]
  · rename_i us s' hs hd e
    obtain rfl := Option.some.inj h
    rw [e] at hx
    have ex := i_str hx
    refine ⟨.string ⟨s'.toArray⟩, ?_, .str _⟩
    simp only [execOp, ho, convert, Sem.run_bind, run_underlying hs, run_underlying hd, Result.andThen_ok, ex, Sem.run_pure]
  · cases h
def strC (x : V) (ih : Option (List UInt8)) : Option (List UInt8) := match x with | .int .u8 n => (match ih with | some s => some (UInt8.ofNat n.toNat :: s) | none => none) | _ => none
theorem strC_ok {x : V} {ih : Option (List UInt8)} {s : List UInt8} (h : strC x ih = some s) : ∃ n s', x = .int .u8 n ∧ ih = some s' ∧ s = UInt8.ofNat n.toNat :: s' := by
  unfold strC at h
  split at h
  · split at h
    · exact ⟨_, _, rfl, rfl, (Option.some.inj h).symm⟩
    · cases h
  · cases h
noncomputable def strL (l : List V) : Option (List UInt8) := List.rec (some []) (fun x _ ih => strC x ih) l
theorem strL_ok : ∀ {G : Gh} {l : List V} {us : List Value} {s : List UInt8}, strL l = some s → LR G l us → ∃ ns : List Int, us = ns.map (Value.int .u8) ∧ s = ns.map fun n => UInt8.ofNat n.toNat
  | G, [], us, s, h, hl => by
    obtain rfl := hl.nil_inv
    obtain rfl := Option.some.inj (show some [] = some s from h)
    exact ⟨[], rfl, rfl⟩
  | G, x :: l, us, s, h, hl => by
    obtain ⟨y, t, rfl, h1, h2⟩ := hl.head
    obtain ⟨n, s', rfl, hs, rfl⟩ := strC_ok (show strC x (strL l) = some s from h)
    obtain ⟨ns, rfl, rfl⟩ := strL_ok hs h2
    exact ⟨n :: ns, by rw [i_int h1]; rfl, rfl⟩
theorem foldl_push : ∀ (ns : List Int) (r : ByteArray), ns.foldl (fun r n => r.push (UInt8.ofNat n.toNat)) r = ⟨r.data ++ (ns.map fun n => UInt8.ofNat n.toNat).toArray⟩
  | [], r => by simp
  | n :: ns, r => by
    simp only [List.foldl_cons, List.map_cons]
    rw [foldl_push ns]
    simp [ByteArray.push]
def runC (x : V) (ih : Option (List UInt8)) : Option (List UInt8) := match x with | .int .i32 n => (match ile 0 n && ilt n 128, ih with | true, some s => some (UInt8.ofNat n.toNat :: s) | _, _ => none) | _ => none
theorem runC_ok {x : V} {ih : Option (List UInt8)} {s : List UInt8} (h : runC x ih = some s) : ∃ n s', x = .int .i32 n ∧ (0 ≤ n ∧ n < 128) ∧ ih = some s' ∧ s = UInt8.ofNat n.toNat :: s' := by
  unfold runC at h
  split at h
  · split at h
    · rename_i hb
      simp only [Bool.and_eq_true, ile_eq, ilt_eq, decide_eq_true_eq] at hb
      exact ⟨_, _, rfl, hb, rfl, (Option.some.inj h).symm⟩
    · cases h
  · cases h
noncomputable def runL (l : List V) : Option (List UInt8) := List.rec (some []) (fun x _ ih => runC x ih) l
theorem runL_ok : ∀ {G : Gh} {l : List V} {us : List Value} {s : List UInt8}, runL l = some s → LR G l us → ∃ ns : List Int, us = ns.map (Value.int .i32) ∧ (∀ n ∈ ns, 0 ≤ n ∧ n < 128) ∧ s = ns.map fun n => UInt8.ofNat n.toNat
  | G, [], us, s, h, hl => by
    obtain rfl := hl.nil_inv
    obtain rfl := Option.some.inj (show some [] = some s from h)
    exact ⟨[], rfl, (by simp), rfl⟩
  | G, x :: l, us, s, h, hl => by
    obtain ⟨y, t, rfl, h1, h2⟩ := hl.head
    obtain ⟨n, s', rfl, hb, hs, rfl⟩ := runC_ok (show runC x (runL l) = some s from h)
    obtain ⟨ns, rfl, h3, rfl⟩ := runL_ok hs h2
    exact ⟨n :: ns, by rw [i_int h1]; rfl, fun k hk => (List.mem_cons.1 hk).elim (fun e => e ▸ hb) (h3 k), rfl⟩
theorem enc_ascii {n : Int} (h : 0 ≤ n ∧ n < 128) : Utf8.encode n = ⟨#[UInt8.ofNat n.toNat]⟩ := by
  have hv : Utf8.valid n = true := by unfold Utf8.valid; simp; omega
  unfold Utf8.encode
  rw [hv]
  simp only [if_true]
  rw [if_pos (by omega)]
theorem foldl_enc : ∀ (ns : List Int) (r : ByteArray), (∀ n ∈ ns, 0 ≤ n ∧ n < 128) → ns.foldl (fun r n => r ++ Utf8.encode n) r = ⟨r.data ++ (ns.map fun n => UInt8.ofNat n.toNat).toArray⟩
  | [], r, _ => by simp
  | n :: ns, r, h => by
    simp only [List.foldl_cons, List.map_cons]
    rw [foldl_enc ns _ fun k hk => h k (List.mem_cons_of_mem _ hk), enc_ascii (h n List.mem_cons_self)]
    congr 1
    simp [ByteArray.data_append]
noncomputable def oConv (P : Program) (n : Nat) (m : M) (s d : TypeId) (x : V) : R :=
  match P.underlying s, P.underlying d with
  | some (.slice e), some .string => match P.underlying e, x with
    | some (.int .u8), .nils => .ok (.str []) n m
    | some (.int .u8), .sl b o q c op => (match slCells 1 o q (M.get m b) with | some l => (match strL l with | some r => .ok (.str r) n m | none => .fail) | none => .fail)
    | some (.int .i32), .nils => .ok (.str []) n m
    | some (.int .i32), .sl b o q c op => (match slCells 1 o q (M.get m b) with | some l => (match runL l with | some r => .ok (.str r) n m | none => .fail) | none => .fail)
    | _, _ => .fail
  | some .string, some (.slice e) => match P.underlying e, x with
    | some (.int .u8), .str s => (match Nat.ble s.length 1000000 with | true => .ok (.sl n 0 s.length 0 true) (n + 1) (M.set m n (.cells e (bytesL s) (some 1))) | false => .fail)
    | _, _ => .fail
  | _, _ => match pConv P s d x with | some v => .ok v n m | none => .fail
theorem oconv_ok {s d : TypeId} {x : Operand} {n' : Nat} {m' : M} (ho : o.op = .convert s d x) (h : oConv P n m s d (evo ts x) = .ok v n' m') : OpOK P o ts fl n m v n' m' := by
  unfold oConv at h
  split at h
  · rename_i e hs hd
    refine op_of_run fun B w G a hm ha hfl => ?_
    rw [ho] at ha
    have hx := ha x (by simp [Op.operands])
    split at h
    · rename_i he ex
      simp only [R.ok.injEq] at h
      obtain ⟨rfl, rfl, rfl⟩ := h
      rw [ex] at hx
      refine ⟨.string .empty, w, G, ?_, Post.refl hm fl, .str []⟩
      have : a.eval x = .slice none 0 0 := by generalize a.eval x = u at hx; cases hx; rfl
      simp only [execOp, ho, convert, Sem.run_bind, run_underlying hs, run_underlying hd, run_underlying he, Result.andThen_ok, this, Conv.bytesToString, Sem.run_pure]
    · rename_i b o' q c op he ex
      split at h
      case h_2 => cases h
      rename_i l hl
      split at h
      case h_2 => cases h
      rename_i r hr
      simp only [R.ok.injEq] at h
      obtain ⟨rfl, rfl, rfl⟩ := h
      rw [ex] at hx
      obtain ⟨es, hal, _⟩ := i_sl hx
      obtain ⟨_, us, h2, h3, _, h5⟩ := slCells_ok (P := P) hl (hm.blk b)
      obtain ⟨ns, rfl, rfl⟩ := strL_ok hr h2.lr
      refine ⟨_, w, G, ?_, Post.refl hm fl, .str _⟩
      rw [Nat.mul_one] at h5
      have := run_bytesToString (P := P) w _ q (capV G b c op) ns h5
      rw [foldl_push] at this
      simp only [execOp, ho, convert, Sem.run_bind, run_underlying hs, run_underlying hd, run_underlying he, Result.andThen_ok, es, this, Sem.run_pure]
      simp
    · rename_i he ex
      simp only [R.ok.injEq] at h
      obtain ⟨rfl, rfl, rfl⟩ := h
      rw [ex] at hx
      refine ⟨.string .empty, w, G, ?_, Post.refl hm fl, .str []⟩
      have : a.eval x = .slice none 0 0 := by generalize a.eval x = u at hx; cases hx; rfl
      simp only [execOp, ho, convert, Sem.run_bind, run_underlying hs, run_underlying hd, run_underlying he, Result.andThen_ok, this, Conv.runesToString, Sem.run_pure]
    · rename_i b o' q c op he ex
      split at h
      case h_2 => cases h
      rename_i l hl
      split at h
      case h_2 => cases h
      rename_i r hr
      simp only [R.ok.injEq] at h
      obtain ⟨rfl, rfl, rfl⟩ := h
      rw [ex] at hx
      obtain ⟨es, hal, _⟩ := i_sl hx
      obtain ⟨_, us, h2, h3, _, h5⟩ := slCells_ok (P := P) hl (hm.blk b)
      obtain ⟨ns, rfl, hasc, rfl⟩ := runL_ok hr h2.lr
      refine ⟨_, w, G, ?_, Post.refl hm fl, .str _⟩
      rw [Nat.mul_one] at h5
      have := run_runesToString (P := P) w _ q (capV G b c op) ns h5
      unfold runesBytes at this
      rw [foldl_enc _ _ hasc] at this
      simp only [execOp, ho, convert, Sem.run_bind, run_underlying hs, run_underlying hd, run_underlying he, Result.andThen_ok, es, this, Sem.run_pure]
      simp
    · cases h
  · rename_i e hs hd
    split at h
    · rename_i s' he ex
      split at h
      case h_2 => cases h
      rename_i hble
      have hble := Nat.le_of_ble_eq_true hble
      simp only [R.ok.injEq] at h
      obtain ⟨rfl, rfl, rfl⟩ := h
      refine op_of_run fun B w G a hm ha hfl => ?_
      rw [ho] at ha
      have hx := ha x (by simp [Op.operands])
      rw [ex] at hx
      have es := i_str hx
      have hr := run_bytes_of_string (P := P) w s d e ⟨s'.toArray⟩ hs hd he
      have hsz : (⟨s'.toArray⟩ : ByteArray).size = s'.length := by simp [ByteArray.size]
      rw [hsz] at hr
      have hge := grownCap_ge w s'.length 0 e
      have hcm := grownCap_le_maxLen w s'.length 0 e (by unfold maxLen; omega)
      have hb : ∀ fr, Below w.heap.size w (w.drew.alloc (.cells (bytesRow ⟨s'.toArray⟩ (grownCap w s'.length 0 e)) e fr)) := fun fr => ((Below.refl _ w).drew).alloc (Nat.le_refl _) _
      have hrow : bytesRow ⟨s'.toArray⟩ (grownCap w s'.length 0 e) = ((s'.map fun b : UInt8 => Value.int .u8 b.toNat) ++ List.replicate (grownCap w s'.length 0 e - s'.length) (Value.int .u8 0)).toArray := by
        unfold bytesRow
        rw [hsz]
        apply Array.ext'
        simp
      have hfr : ∀ fr, fr = ((bytesRow ⟨s'.toArray⟩ (grownCap w s'.length 0 e)).size, (bytesRow ⟨s'.toArray⟩ (grownCap w s'.length 0 e)).size + 1) → BkR (w.drew.alloc (.cells (bytesRow ⟨s'.toArray⟩ (grownCap w s'.length 0 e)) e fr)) (G.put n w.heap.size (grownCap w s'.length 0 e)) n (.cells e (bytesL s') (some 1)) := by
        intro fr efr
        refine ⟨_, List.replicate (grownCap w s'.length 0 e - s'.length) (.int .u8 0), fr, ?_, .inr ?_, bytesL_ok _ s', fun h => (by cases h), fun k hk => ?_⟩
        · rw [Gh.put_ρ, show w.heap.size = w.drew.heap.size from rfl, heap_alloc_new, hrow]
        · rw [efr, hrow]
          simp
        · obtain rfl := Option.some.inj hk
          rw [Gh.put_κ]
          refine ⟨?_, hcm, by omega⟩
          simp only [List.length_map, List.length_replicate]
          omega
      refine ⟨.slice (some ⟨w.heap.size, 0, none⟩) s'.length (grownCap w s'.length 0 e), _, G.put n w.heap.size (grownCap w s'.length 0 e), ?_, (hm.more (hfl.2 n (Nat.le_refl _) (by omega)) (g := w.heap.size) (k := grownCap w s'.length 0 e) (hb _) (Nat.le_refl _) (by simp) (hfr _ rfl)).mono hfl.1, ?_⟩
      rotate_left
      · have hc : capV (G.put n w.heap.size (grownCap w s'.length 0 e)) n 0 true = grownCap w s'.length 0 e := by simp only [capV, cond_true, Gh.put_κ, Nat.sub_zero]
        have := CR.sl (G := G.put n w.heap.size (grownCap w s'.length 0 e)) n 0 s'.length 0 true (.inl rfl) (by rw [hc]; exact hge)
        rw [hc, Gh.put_ρ] at this
        exact this
      · simp only [execOp, ho, es, Sem.run_bind, hr, Result.andThen_ok, Sem.run_pure]
    · cases h
  · split at h
    · rename_i v' hp
      simp only [R.ok.injEq] at h
      obtain ⟨rfl, rfl, rfl⟩ := h
      exact (conv_ok ho hp).op
    · cases h
end
end Go.Proofs.YtbpjinefbnlenaaGreatDoor.E

/- An exact machine, part 12: iterators, type assertions, builtins. -/
namespace Go.Proofs.YtbpjinefbnlenaaGreatDoor.E
open Go Go.RowKit
set_option linter.unusedVariables false

section
variable {P : Program} {o : Oper} {ts : T} {v : V} {fl n : Nat} {m : M}
noncomputable def oNext (fl n : Nat) (m : M) (x : V) (st : Bool) : R :=
  match x, st with
  | .ptr b 0, true => match M.get m b with
    | .iter s pos => match Nat.blt pos s.length with
      | true => match Nat.ble fl b && Nat.blt (s.getD pos 0).toNat 128 with
        | true => .ok (.tup [.bool true, .int .i64 pos, .int .i32 (s.getD pos 0).toNat]) n (M.set m b (.iter s (pos + 1)))
        | false => .fail
      | false => .ok (.tup [.bool false]) n m
    | _ => .fail
  | _, _ => .fail
theorem cr_tup1 {G : Gh} {a : V} {x : Value} (h : CR G a x) : CR G (.tup [a]) (.tuple #[x]) := by
  have := (LR.nil (G := G)).cons h
  exact .tup _ _ this.1 this.2
theorem cr_tup3 {G : Gh} {a b c : V} {x y z : Value} (h : CR G a x) (k : CR G b y) (l : CR G c z) : CR G (.tup [a, b, c]) (.tuple #[x, y, z]) := by
  have := ((LR.nil (G := G)).cons l |>.cons k).cons h
  exact .tup _ _ this.1 this.2
theorem next_ok {x : Operand} {st : Bool} {n' : Nat} {m' : M} (ho : o.op = .next x st) (h : oNext fl n m (evo ts x) st = .ok v n' m') : OpOK P o ts fl n m v n' m' := by
  refine op_of_run fun B w G a hm ha hfl => ?_
  rw [ho] at ha
  have hx := ha x (by simp [Op.operands])
  unfold oNext at h
  split at h
  case h_2 => cases h
  rename_i b ex
  rw [ex] at hx
  obtain ⟨ep, hal⟩ := i_ptr hx
  split at h
  case h_2 => cases h
  rename_i s pos hget
  have hbk := hm.blk b
  rw [hget] at hbk
  have hbk : w.heap[G.ρ b]? = some (.stringIter ⟨s.toArray⟩ pos) := hbk
  have hsz : (⟨s.toArray⟩ : ByteArray).size = s.length := by simp [ByteArray.size]
  split at h
  · rename_i hlt
    have hlt : pos < s.length := Nat.le_of_ble_eq_true hlt
    split at h
    case h_2 => cases h
    rename_i hc
    rw [Bool.and_eq_true] at hc
    have hfb := Nat.le_of_ble_eq_true hc.1
    have hc2 : (s.getD pos 0).toNat < 128 := Nat.le_of_ble_eq_true hc.2
    simp only [R.ok.injEq] at h
    obtain ⟨rfl, rfl, rfl⟩ := h
    have hg : (⟨s.toArray⟩ : ByteArray)[pos]'(by rw [hsz]; exact hlt) = s.getD pos 0 := by
      show s.toArray[pos]'_ = _
      simp [List.getD_eq_getElem?_getD, hlt]
    have hr := Lib.run_next_ascii_at (P := P) w (G.ρ b) ⟨s.toArray⟩ pos o.type hbk (by rw [hsz]; exact hlt) (by rw [hg]; exact hc2)
    rw [hg] at hr
    have hlive : live m b := by unfold live; rw [hget]; exact fun h => by cases h
    refine ⟨_, w.iterAt (G.ρ b) ⟨s.toArray⟩ (pos + 1), G, ?_, (hm.write (w' := w.iterAt (G.ρ b) ⟨s.toArray⟩ (pos + 1)) (x := .iter s (pos + 1)) hlive ⟨rfl, rfl, rfl, by rw [Lib.iterAt_size]; exact Nat.le_refl _⟩ (Lib.iterAt_size _ _ _ _) (fun k hk => Lib.iterAt_other w _ _ _ _ hk) (Lib.iterAt_heap w _ _ _ _ hbk)).mono hfb, cr_tup3 (.bool _) (.int _ _) (.int _ _)⟩
    simp only [execOp, ho, ep, Sem.run_bind, hr, Result.andThen_ok, Sem.run_pure]
  · rename_i hlt
    have hlt : ¬ pos < s.length := fun e => by
      have : Nat.blt pos s.length = true := Nat.ble_eq_true_of_le e
      rw [this] at hlt; cases hlt
    simp only [R.ok.injEq] at h
    obtain ⟨rfl, rfl, rfl⟩ := h
    have hr := Lib.run_next_end_at (P := P) w (G.ρ b) ⟨s.toArray⟩ pos o.type hbk (by rw [hsz]; exact hlt)
    refine ⟨_, w, G, ?_, Post.refl hm fl, cr_tup1 (.bool _)⟩
    simp only [execOp, ho, ep, Sem.run_bind, hr, Result.andThen_ok, Sem.run_pure]
def pTA (P : Program) (t : TypeId) (ok : Bool) (x : V) (z : Option V) : Option V :=
  match x, ok, notAgg P t, P.underlying t, z with
  | .nili, true, true, some _, some z => some (.tup [z, .bool false])
  | _, _, _, _, _ => none
theorem ta_ok {x : Operand} {t t' : TypeId} {ok : Bool} (ho : o.op = .typeAssert x t' t ok) (h : pTA P t ok (evo ts x) (zv1 P t) = some v) : PureOK P o ts v := by
  intro G a w ha
  rw [ho] at ha
  have hx := ha x (by simp [Op.operands])
  unfold pTA at h
  split at h
  · rename_i d z e hna hu hz
    obtain rfl := Option.some.inj h
    rw [e] at hx
    have ex : a.eval x = .nilIface := by generalize a.eval x = u at hx; cases hx; rfl
    obtain ⟨zz, hzr, hzc⟩ := zv1_run (w := w) hz hna
    refine ⟨.tuple #[zz, .bool false], ?_, cr_pair (hzc G) (.bool _)⟩
    simp only [execOp, ho, Instr.typeAssert, Sem.run_bind, run_underlying hu, Result.andThen_ok, ex]
    cases d <;> simp only [Sem.run_bind, hzr, Result.andThen_ok, Sem.run_pure, if_true]
  · cases h
/-! builtins -/
noncomputable def lenV (P : Program) (m : M) (t : TypeId) (x : V) : Option Nat :=
  match P.underlying t, x with
  | some .string, .str s => some s.length
  | some (.slice _), .sl _ _ k _ _ => some k
  | some (.slice _), .nils => some 0
  | some (.slice _), .emp _ => some 0
  | some (.array k _), _ => some k
  | some (.pointer a), _ => (match P.underlying a with | some (.array k _) => some k | _ => none)
  | some (.map _ _), .nilm => some 0
  | some (.map _ _), .mp b => (match M.get m b with | .map es => some es.length | _ => none)
  | _, _ => none
theorem lenV_run {B : Nat} {w : World} {G : Gh} {t ty : TypeId} {x : V} {u : Value} {k : Nat} (hm : MemR B w G n m) (h : lenV P m t x = some k) (hx : CR G x u) : (Builtin.len_ #[t] ty #[u]).run P w = .ok (.int .i64 k) w := by
  unfold lenV at h
  split at h
  · rename_i s hu
    obtain rfl := Option.some.inj h
    rw [i_str hx]
    unfold Builtin.len_
    have hs : (⟨s.toArray⟩ : ByteArray).size = s.length := by simp [ByteArray.size]
    simp only [List.getElem?_toArray, List.getElem?_cons_zero, Sem.run_bind, run_underlying hu, Result.andThen_ok, goInt, hs, Sem.run_pure]
  · rename_i hu
    obtain rfl := Option.some.inj h
    obtain ⟨e, _⟩ := i_sl hx
    rw [e]
    unfold Builtin.len_
    simp [run_underlying hu, goInt]
  · rename_i hu
    obtain rfl := Option.some.inj h
    cases hx
    unfold Builtin.len_
    simp [run_underlying hu, goInt]
  · rename_i hu
    obtain rfl := Option.some.inj h
    cases hx
    unfold Builtin.len_
    simp [run_underlying hu, goInt]
  · rename_i hu
    obtain rfl := Option.some.inj h
    unfold Builtin.len_
    simp [run_underlying hu, goInt]
  · rename_i a hu
    split at h
    · rename_i ha
      obtain rfl := Option.some.inj h
      unfold Builtin.len_
      simp [run_underlying hu, run_underlying ha, goInt]
    · cases h
  · rename_i hu
    obtain rfl := Option.some.inj h
    cases hx
    unfold Builtin.len_
    simp [run_underlying hu, goInt]
  · rename_i b hu
    split at h
    · rename_i es hget
      obtain rfl := Option.some.inj h
      have hbk := hm.blk b
      rw [hget] at hbk
      obtain ⟨ys, clock, h1, h2⟩ := hbk
      cases hx
      have hl : ys.length = es.length := EntsR.len h2
      unfold Builtin.len_
      simp [run_underlying hu, goInt, getObj, Sem.run, h1, hl]
    · cases h
  · cases h
/-- a call of a builtin -/
def bCall (b : Builtin) (args : Array Operand) (tys : Array TypeId) : Op := .call { callee := .builtin b, args := args, argTypes := tys }
theorem bi_len {t : TypeId} {x : Operand} {k : Nat} (ho : o.op = bCall .len #[x] #[t]) (h : lenV P m t (evo ts x) = some k) : OpOK P o ts fl n m (.int .i64 k) n m := by
  refine op_of_run fun B w G a hm ha hfl => ?_
  rw [ho] at ha
  have hx := ha x (by simp [bCall, Op.operands, Call.operands])
  refine ⟨.int .i64 k, w, G, ?_, Post.refl hm fl, .int _ _⟩
  have hr := lenV_run (ty := o.type) hm h hx
  simp only [execOp, ho, bCall, resolve, Sem.run_bind, Sem.run_pure, Result.andThen_ok, invoke, builtin, List.map_toArray, List.map_cons, List.map_nil, hr]
def capVV (P : Program) (t : TypeId) (x : V) : Option Nat :=
  match P.underlying t, x with
  | some (.slice _), .sl _ _ _ c false => some c
  | some (.slice _), .nils => some 0
  | some (.slice _), .emp true => some 0
  | some (.array k _), _ => some k
  | some (.pointer a), _ => (match P.underlying a with | some (.array k _) => some k | _ => none)
  | _, _ => none
theorem bi_cap {t : TypeId} {x : Operand} {k : Nat} (ho : o.op = bCall .cap #[x] #[t]) (h : capVV P t (evo ts x) = some k) : PureOK P o ts (.int .i64 k) := by
  intro G a w ha
  rw [ho] at ha
  have hx := ha x (by simp [bCall, Op.operands, Call.operands])
  refine ⟨.int .i64 k, ?_, .int _ _⟩
  have hr : (Builtin.cap_ #[t] o.type #[a.eval x]).run P w = .ok (.int .i64 k) w := by
    unfold capVV at h
    split at h
    · rename_i hu e
      obtain rfl := Option.some.inj h
      rw [e] at hx
      obtain ⟨e, _⟩ := i_sl hx
      rw [e]
      simp [Builtin.cap_, run_underlying hu, goInt, capV]
    · rename_i hu e
      obtain rfl := Option.some.inj h
      rw [e] at hx
      generalize a.eval x = u at hx
      cases hx
      simp [Builtin.cap_, run_underlying hu, goInt]
    · rename_i hu e
      obtain rfl := Option.some.inj h
      rw [e] at hx
      generalize a.eval x = u at hx
      cases hx with
      | emp z a c hz =>
        obtain rfl := hz rfl
        simp [Builtin.cap_, run_underlying hu, goInt]
    · rename_i hu
      obtain rfl := Option.some.inj h
      simp [Builtin.cap_, run_underlying hu, goInt]
    · rename_i a' hu
      split at h
      · rename_i ha'
        obtain rfl := Option.some.inj h
        simp [Builtin.cap_, run_underlying hu, run_underlying ha', goInt]
      · cases h
    · cases h
  simp only [execOp, ho, bCall, resolve, Sem.run_bind, Sem.run_pure, Result.andThen_ok, invoke, builtin, List.map_toArray, List.map_cons, List.map_nil, hr]
noncomputable def minV (a b : V) : Option V := match a, b with
  | .int k x, .int _ y => some (.int k (match ilt y x with | true => y | false => x))
  | _, _ => none
theorem bi_min {x y : Operand} {tys : Array TypeId} (ho : o.op = bCall .min #[x, y] tys) (h : minV (evo ts x) (evo ts y) = some v) : PureOK P o ts v := by
  intro G a w ha
  rw [ho] at ha
  have hx := ha x (by simp [bCall, Op.operands, Call.operands])
  have hy := ha y (by simp [bCall, Op.operands, Call.operands])
  unfold minV at h
  split at h
  · rename_i k i k' j e1 e2
    obtain rfl := Option.some.inj h
    rw [e1] at hx
    rw [e2] at hy
    refine ⟨_, ?_, .int _ _⟩
    simp only [execOp, ho, bCall, resolve, Sem.run_bind, Sem.run_pure, Result.andThen_ok, invoke, builtin, List.map_toArray, List.map_cons, List.map_nil, Builtin.min_, List.foldlM, i_int hx, i_int hy, Builtin.min2]
    rw [ilt_eq]
    by_cases hlt : j < i <;> simp [hlt]
  · cases h
/-- what is copied -/
noncomputable def src2 (m : M) (k : Nat) (x : V) : Option (Nat × List V) := match x with
  | .str s => (match Nat.beq k 1 with | true => some (s.length, bytesL s) | false => none)
  | x => srcV m k x
theorem src2_ok {B : Nat} {w : World} {G : Gh} {k q : Nat} {x : V} {l : List V} {u : Value} (hm : MemR B w G n m) (h : src2 m k x = some (q, l)) (hx : CR G x u) :
    (Builtin.lenOf u).run P w = .ok q w ∧ ∀ j, j ≤ q → ∃ us, L1 G (l.take (j * k)) us ∧ us.length = j * k ∧ (Builtin.firstCells k j u).run P w = .ok us.toArray w := by
  unfold src2 at h
  split at h
  · rename_i s
    split at h
    case h_2 => cases h
    rename_i hk
    obtain rfl := Nat.eq_of_beq_eq_true hk
    simp only [Option.some.injEq, Prod.mk.injEq] at h
    obtain ⟨rfl, rfl⟩ := h
    rw [i_str hx]
    refine ⟨by simp [Builtin.lenOf, ByteArray.size], fun j hj => ⟨(s.map fun b => Value.int .u8 b.toNat).take (j * 1), (bytesL_ok G s).take _, by simp; omega, ?_⟩⟩
    simp only [Builtin.firstCells, Sem.run_pure]
    congr 1
    simp [ByteArray.data_extract, List.map_take]
  · obtain ⟨hl, ad, c, rfl, hs⟩ := srcV_ok hm h hx
    refine ⟨by simp [Builtin.lenOf], fun j hj => ?_⟩
    rcases Nat.eq_zero_or_pos q with h0 | h0
    · have : j = 0 := by omega
      subst this
      refine ⟨[], by rw [Nat.zero_mul, List.take_zero]; exact .nil, by simp, ?_⟩
      cases ad
      · simp [Builtin.firstCells]
      · exact run_firstCells_some w k 0 _ q c [] (by simp) (fun j v h => by simp at h)
    · obtain ⟨b, us, rfl, h1, h2, h3⟩ := hs h0
      have hle : j * k ≤ q * k := Nat.mul_le_mul_right _ hj
      refine ⟨us.take (j * k), h1.take _, by simp; omega, run_firstCells_some w k j b q c _ (by simp; omega) fun i v hi => ?_⟩
      rw [List.getElem?_take] at hi
      split at hi
      · exact h3 i v hi
      · cases hi
noncomputable def oCopy (P : Program) (fl n : Nat) (m : M) (t : TypeId) (d x : V) : R :=
  match elT P t with
  | some (e, k) => match src2 m k x, d with
    | some _, .nils => .ok (.int .i64 0) n m
    | some _, .emp _ => .ok (.int .i64 0) n m
    | some (q, ys), .sl b o p c op => match M.get m b with
      | .cells tt l op2 => match Nat.ble fl b && Nat.ble (o + Nat.min q p * k) l.length with
        | true => .ok (.int .i64 (Nat.min q p)) n (M.set m b (.cells tt (setR l o (ys.take (Nat.min q p * k))) op2))
        | false => .fail
      | _ => .fail
    | _, _ => .fail
  | none => .fail
theorem bi_copy {t t2 : TypeId} {x y : Operand} {n' : Nat} {m' : M} (ho : o.op = bCall .copy #[x, y] #[t, t2]) (h : oCopy P fl n m t (evo ts x) (evo ts y) = .ok v n' m') : OpOK P o ts fl n m v n' m' := by
  refine op_of_run fun B w G a hm ha hfl => ?_
  rw [ho] at ha
  have hx := ha x (by simp [bCall, Op.operands, Call.operands])
  have hy := ha y (by simp [bCall, Op.operands, Call.operands])
  unfold oCopy at h
  split at h
  case h_2 => cases h
  rename_i e k he
  obtain ⟨inf, zv, ht, hi, hz, hk, h0, hzs, hby⟩ := elT_ok he
  have hso : (sizeOf e).run P w = .ok k w := by simp [sizeOf, typeInfo, hi, hk]
  have fin : ∀ (r : Value) (w' : World), (Builtin.copy_ #[t, t2] o.type #[a.eval x, a.eval y]).run P w = .ok r w' → (execOp a.eval o).run P w = .ok (.value r) w' := by
    intro r w' hr
    simp only [execOp, ho, bCall, resolve, Sem.run_bind, Sem.run_pure, Result.andThen_ok, invoke, builtin, List.map_toArray, List.map_cons, List.map_nil, hr]
  split at h
  · rename_i p hp ex
    obtain ⟨q, ys⟩ := p
    simp only [R.ok.injEq] at h
    obtain ⟨rfl, rfl, rfl⟩ := h
    rw [ex] at hx
    obtain ⟨h1, h2⟩ := src2_ok (P := P) hm hp hy
    obtain ⟨us, _, hul, hr⟩ := h2 0 (Nat.zero_le _)
    have ed : a.eval x = .slice none 0 0 := by generalize a.eval x = u at hx; cases hx; rfl
    refine ⟨.int .i64 0, w, G, fin _ _ ?_, Post.refl hm fl, .int _ _⟩
    simp only [Builtin.copy_, Sem.run_bind, run_underlying ht, Result.andThen_ok, ed, h1, hso, Nat.min_zero, hr, List.getElem?_toArray, List.getElem?_cons_zero, List.getElem?_cons_succ, Sem.run_pure]
    rfl
  · rename_i p z hp ex
    obtain ⟨q, ys⟩ := p
    simp only [R.ok.injEq] at h
    obtain ⟨rfl, rfl, rfl⟩ := h
    rw [ex] at hx
    obtain ⟨h1, h2⟩ := src2_ok (P := P) hm hp hy
    obtain ⟨us, _, hul, hr⟩ := h2 0 (Nat.zero_le _)
    obtain ⟨ad, c, ed⟩ : ∃ ad c, a.eval x = .slice (some ad) 0 c := by generalize a.eval x = u at hx; cases hx; exact ⟨_, _, rfl⟩
    have hus : us = [] := List.length_eq_zero_iff.1 (by rw [hul]; omega)
    subst hus
    refine ⟨.int .i64 0, w, G, fin _ _ ?_, Post.refl hm fl, .int _ _⟩
    simp only [Builtin.copy_, Sem.run_bind, run_underlying ht, Result.andThen_ok, ed, h1, hso, Nat.min_zero, hr, List.getElem?_toArray, List.getElem?_cons_zero, List.getElem?_cons_succ, Sem.run_pure, storeCells]
    rfl
  · rename_i q ys b off p c op hp ex
    rw [ex] at hx
    obtain ⟨es, hal, hpc⟩ := i_sl hx
    split at h
    case h_2 => cases h
    rename_i tt l op2 hget
    split at h
    case h_2 => cases h
    rename_i hc
    rw [Bool.and_eq_true] at hc
    have c1 := Nat.le_of_ble_eq_true hc.1
    have c2 := Nat.le_of_ble_eq_true hc.2
    simp only [R.ok.injEq] at h
    obtain ⟨rfl, rfl, rfl⟩ := h
    obtain ⟨h1, h2⟩ := src2_ok (P := P) hm hp hy
    obtain ⟨us, hL, hul, hr⟩ := h2 (Nat.min q p) (Nat.min_le_left _ _)
    have hbk := hm.blk b
    rw [hget] at hbk
    have hlen := hL.lr.1
    obtain ⟨w', k1, k2, k3, k4, k5⟩ := store_run (P := P) hbk hL (off := off) (by omega)
    have hlive : live m b := by unfold live; rw [hget]; exact fun h => by cases h
    refine ⟨.int .i64 (Nat.min q p), w', G, fin _ _ ?_, (hm.write hlive k2 k3 k4 k5).mono c1, .int _ _⟩
    simp only [Builtin.copy_, Sem.run_bind, run_underlying ht, Result.andThen_ok, es, h1, hso, hr, List.getElem?_toArray, List.getElem?_cons_zero, List.getElem?_cons_succ, Sem.run_pure, k1]
    rfl
  · cases h
noncomputable def oDel (P : Program) (fl n : Nat) (m : M) (t : TypeId) (mv k : V) : R :=
  match mv with
  | .mp b => match M.get m b, P.underlying t with
    | .map es, some (.map kt _) => match keyT P kt && (lenOk P kt k && Nat.ble fl b), mfind P kt k es with
      | true, some none => .ok (.tup []) n (M.set m b (.map es))
      | true, some (some i) => .ok (.tup []) n (M.set m b (.map (es.eraseIdx i)))
      | _, _ => .fail
    | _, _ => .fail
  | _ => .fail
theorem bi_del {t t2 : TypeId} {x y : Operand} {n' : Nat} {m' : M} (ho : o.op = bCall .delete #[x, y] #[t, t2]) (h : oDel P fl n m t (evo ts x) (evo ts y) = .ok v n' m') : OpOK P o ts fl n m v n' m' := by
  refine op_of_run fun B w G a hm ha hfl => ?_
  rw [ho] at ha
  have hx := ha x (by simp [bCall, Op.operands, Call.operands])
  have hy := ha y (by simp [bCall, Op.operands, Call.operands])
  unfold oDel at h
  split at h
  case h_2 => cases h
  rename_i b e
  rw [e] at hx
  have ex : a.eval x = .map (some (G.ρ b)) := by generalize a.eval x = u at hx; cases hx; rfl
  split at h
  case h_2 => cases h
  rename_i es kt et hget hu
  have hbk := hm.blk b
  rw [hget] at hbk
  obtain ⟨ys, clock, h1, h2⟩ := hbk
  have hlive : live m b := by unfold live; rw [hget]; exact fun h => by cases h
  have fin : ∀ w', (Builtin.delete_ #[t, t2] o.type #[a.eval x, a.eval y]).run P w = .ok (.tuple #[]) w' → (execOp a.eval o).run P w = .ok (.value (.tuple #[])) w' := by
    intro w' hr
    simp only [execOp, ho, bCall, resolve, Sem.run_bind, Sem.run_pure, Result.andThen_ok, invoke, builtin, List.map_toArray, List.map_cons, List.map_nil, hr]
  split at h
  · rename_i hc hf
    simp only [Bool.and_eq_true] at hc
    obtain ⟨hkt, hlen, hfb⟩ := hc
    have hfb := Nat.le_of_ble_eq_true hfb
    simp only [R.ok.injEq] at h
    obtain ⟨rfl, rfl, rfl⟩ := h
    have hck : (Instr.checkKey ys.toArray.isEmpty 10000 kt (a.eval y)).run P w = .ok () w := check_ok (em := ys.toArray.isEmpty) hkt hlen hy 9998
    obtain ⟨r, hr, hfound⟩ := findKey_ok (w := w) hkt hy h2 hf
    obtain rfl : r = none := hfound
    obtain ⟨w', k1, k2, k3, k4, k5⟩ := run_setObj' (P := P) (o := .map ys.toArray clock) h1
    refine ⟨.tuple #[], w', G, fin _ ?_, (hm.write (x := .map es) hlive k2 k3 k4 ⟨ys, clock, k5, h2⟩).mono hfb, cr_undef G⟩
    simp only [Builtin.delete_, Sem.run_bind, run_underlying hu, Result.andThen_ok, ex, run_getObj' h1, hck, hr, k1, List.getElem?_toArray, List.getElem?_cons_zero, List.getElem?_cons_succ, Sem.run_pure]
  · rename_i i hc hf
    simp only [Bool.and_eq_true] at hc
    obtain ⟨hkt, hlen, hfb⟩ := hc
    have hfb := Nat.le_of_ble_eq_true hfb
    simp only [R.ok.injEq] at h
    obtain ⟨rfl, rfl, rfl⟩ := h
    have hck : (Instr.checkKey ys.toArray.isEmpty 10000 kt (a.eval y)).run P w = .ok () w := check_ok (em := ys.toArray.isEmpty) hkt hlen hy 9998
    obtain ⟨r, hr, y0, hy0, rfl⟩ := findKey_ok (w := w) hkt hy h2 hf
    obtain ⟨w', k1, k2, k3, k4, k5⟩ := run_setObj' (P := P) (o := .map (ys.eraseIdx i).toArray clock) h1
    have hlt : i < ys.length := (List.getElem?_eq_some_iff.1 hy0).1
    have e3 : ys.toArray.eraseIdxIfInBounds (0 + i) = (ys.eraseIdx i).toArray := by
      rw [Nat.zero_add]
      simp [Array.eraseIdxIfInBounds, hlt]
    refine ⟨.tuple #[], w', G, fin _ ?_, (hm.write (x := .map (es.eraseIdx i)) hlive k2 k3 k4 ⟨ys.eraseIdx i, clock, k5, h2.erase i⟩).mono hfb, cr_undef G⟩
    simp only [Builtin.delete_, Sem.run_bind, run_underlying hu, Result.andThen_ok, ex, run_getObj' h1, hck, hr, e3, k1, List.getElem?_toArray, List.getElem?_cons_zero, List.getElem?_cons_succ, Sem.run_pure]
  · cases h
theorem bi_app {t : TypeId} {x y : Operand} {n' : Nat} {m' : M} (ho : o.op = bCall .append #[x, y] #[t, t]) (h : appendV P fl n m t (evo ts x) (evo ts y) = .ok v n' m') : OpOK P o ts fl n m v n' m' := by
  refine op_of_run fun B w G a hm ha hfl => ?_
  rw [ho] at ha
  have hx := ha x (by simp [bCall, Op.operands, Call.operands])
  have hy := ha y (by simp [bCall, Op.operands, Call.operands])
  obtain ⟨r, w', G', hr, h1, h2⟩ := append_run (ty := o.type) h hm hx hy hfl
  refine ⟨r, w', G', ?_, h1, h2⟩
  simp only [execOp, ho, bCall, resolve, Sem.run_bind, Sem.run_pure, Result.andThen_ok, invoke, builtin, List.map_toArray, List.map_cons, List.map_nil, hr]
end
end Go.Proofs.YtbpjinefbnlenaaGreatDoor.E

/- An exact machine, part 13: any one operation. -/
namespace Go.Proofs.YtbpjinefbnlenaaGreatDoor.E
open Go Go.RowKit
set_option linter.unusedVariables false

/-- a call: floor, function, arguments, next name, memory -/
abbrev CallT := Nat → Nat → List V → Nat → M → R
inductive Res where
  | fail
  | pure (v : V)
  | load (b : Nat) (v : V)
  | alloc (v : V) (x : Bk)
  | store (b : Nat) (x : Bk)
  | other (r : R)
def callable (P : Program) (f : Nat) : Bool :=
  match P.funcs[f]? with
  | some fn => fn.body.isSome && fn.name != "runtime.NumGoroutine"
  | none => false
theorem run_callFunc {P : Program} {w : World} {f : Nat} (h : callable P f = true) (args : Array Value) : (callFunc f args).run P w = .ok (.enter f args) w := by
  unfold callable at h
  split at h
  · rename_i fn hfn
    simp only [Bool.and_eq_true, bne_iff_ne, ne_eq] at h
    have hb : fn.body.isNone = false := by cases hb : fn.body <;> simp [hb] at h ⊢
    have hn : (fn.name == "runtime.NumGoroutine") = false := by simpa using h.2
    unfold callFunc program
    simp only [Sem.run_bind]
    simp only [Sem.run, Result.andThen, hfn, hn, hb, Bool.false_eq_true, if_false]
    rfl
  · cases h
/-- what a call does -/
def FnOK (P : Program) (f : Nat) (args : List V) (fl n : Nat) (m : M) (v : V) (n' : Nat) (m' : M) : Prop :=
  ∀ (B : Nat) (w : World) (G : Gh) (vs : List Value), MemR B w G n m → LR G args vs → fl ≤ n ∧ Free G n n' → Calls P f vs.toArray w fun e w' => ∃ x G', e = .returned x ∧ Post B n m w G n' m' w' G' fl ∧ CR G' v x
def CallOK (P : Program) (call : CallT) : Prop := ∀ fl f args n m v n' m', call fl f args n m = .ok v n' m' → n ≤ n' ∧ callable P f = true ∧ FnOK P f args fl n m v n' m'
def RLe (n : Nat) : R → Prop
  | .fail => True
  | .ok _ n' _ => n ≤ n'
section
variable {P : Program} {o : Oper} {ts : T} {v : V} {fl n : Nat} {m : M}
def ResOK (P : Program) (o : Oper) (ts : T) (fl n : Nat) (m : M) : Res → Prop
  | .fail => True
  | .pure v => PureOK P o ts v
  | .load b v => LdOK P o ts b (M.get m b) v
  | .alloc v x => NewOK P o ts n v x
  | .store b x => M.get m b ≠ .dead ∧ StOK P o ts b (M.get m b) x
  | .other .fail => True
  | .other (.ok v n' m') => n ≤ n' ∧ OpOK P o ts fl n m v n' m'
noncomputable def toR (fl n : Nat) (m : M) (r : Res) : R := Res.rec .fail (fun v => .ok v n m) (fun _ v => .ok v n m) (fun v x => .ok v (Nat.succ n) (M.set m n x)) (fun b x => Bool.rec .fail (.ok (.tup []) n (M.set m b x)) (Nat.ble fl b)) (fun r => r) r
theorem toR_ok {r : Res} {n' : Nat} {m' : M} (h : ResOK P o ts fl n m r) (e : toR fl n m r = .ok v n' m') : n ≤ n' ∧ OpOK P o ts fl n m v n' m' := by
  cases r with
  | fail => cases e
  | pure u =>
    have e : R.ok u n m = .ok v n' m' := e
    simp only [R.ok.injEq] at e
    obtain ⟨rfl, rfl, rfl⟩ := e
    exact ⟨Nat.le_refl _, PureOK.op h⟩
  | load b u =>
    have e : R.ok u n m = .ok v n' m' := e
    simp only [R.ok.injEq] at e
    obtain ⟨rfl, rfl, rfl⟩ := e
    exact ⟨Nat.le_refl _, LdOK.op rfl h⟩
  | alloc u x =>
    have e : R.ok u (n + 1) (M.set m n x) = .ok v n' m' := e
    simp only [R.ok.injEq] at e
    obtain ⟨rfl, rfl, rfl⟩ := e
    exact ⟨Nat.le_succ _, NewOK.op h⟩
  | store b x =>
    cases hb : Nat.ble fl b with
    | true =>
      have e : R.ok (.tup []) n (M.set m b x) = .ok v n' m' := by rw [← e]; show _ = Bool.rec (motive := fun _ => R) _ _ (Nat.ble fl b); rw [hb]
      simp only [R.ok.injEq] at e
      obtain ⟨rfl, rfl, rfl⟩ := e
      exact ⟨Nat.le_refl _, StOK.op rfl h.1 (Nat.le_of_ble_eq_true hb) h.2⟩
    | false =>
      have e : R.fail = .ok v n' m' := by rw [← e]; show _ = Bool.rec (motive := fun _ => R) _ _ (Nat.ble fl b); rw [hb]
      cases e
  | other r =>
    cases r with
    | fail => cases e
    | ok u k m2 =>
      have e : R.ok u k m2 = .ok v n' m' := e
      simp only [R.ok.injEq] at e
      obtain ⟨rfl, rfl, rfl⟩ := e
      exact h
noncomputable def pureO (x : Option V) : Res := Option.rec .fail .pure x
theorem pureO_ok {x : Option V} (h : ∀ v, x = some v → PureOK P o ts v) : ResOK P o ts fl n m (pureO x) := by
  cases x with
  | none => trivial
  | some v => exact h v rfl
noncomputable def newO (x : Option (V × Bk)) : Res := Option.rec .fail (fun p => Prod.rec (fun v b => .alloc v b) p) x
theorem newO_ok {x : Option (V × Bk)} (h : ∀ v b, x = some (v, b) → NewOK P o ts n v b) : ResOK P o ts fl n m (newO x) := by
  cases x with
  | none => trivial
  | some p => obtain ⟨v, b⟩ := p; exact h v b rfl
theorem other_ok {r : R} (hn : RLe n r) (h : ∀ v n' m', r = .ok v n' m' → OpOK P o ts fl n m v n' m') : ResOK P o ts fl n m (.other r) := by
  cases r with
  | fail => trivial
  | ok v n' m' => exact ⟨hn, h v n' m' rfl⟩
/-! each operation -/
abbrev Ev := Program → CallT → Nat → T → Nat → M → Res
noncomputable def oMove (x : Operand) : Ev := fun P call fl ts n m => .pure (evo ts x)
noncomputable def oPick (c a b : Operand) : Ev := fun P call fl ts n m => pureO (pPick (evo ts c) (evo ts a) (evo ts b))
noncomputable def oAlloc (t : TypeId) : Ev := fun P call fl ts n m => Option.rec .fail (fun l => .alloc (.ptr n 0) (.cells t l none)) (zc P t)
noncomputable def oBox (t : TypeId) (x : Operand) : Ev := fun P call fl ts n m => Option.rec .fail (fun l => .alloc (.ptr n 0) (.cells t l none)) (flat (evo ts x))
noncomputable def oBuild (t : TypeId) (ps : Array (Nat × Operand)) : Ev := fun P call fl ts n m => pureO (pBuild P t ps.toList ts)
noncomputable def oBuildS (t : TypeId) (k : Nat) (ps : Array (Nat × Operand)) : Ev := fun P call fl ts n m => newO (pBuildS P t k ps.toList ts n)
noncomputable def oLoad (t : TypeId) (p : Operand) : Ev := fun P call fl ts n m =>
  vPtr .fail (evo ts p) fun b off => Bk.casesOn (M.get m b) .fail (fun tt l op => Option.rec .fail (fun v => .load b v) (ldc P t l off)) (fun _ => .fail) (fun _ _ => .fail)
noncomputable def oStore (t : TypeId) (p x : Operand) : Ev := fun P call fl ts n m =>
  vPtr .fail (evo ts p) fun b off => Bk.casesOn (M.get m b) .fail (fun tt l op => Option.rec .fail (fun r => .store b (.cells tt r op)) (stoV P t off l (flat (evo ts x)))) (fun _ => .fail) (fun _ _ => .fail)
noncomputable def oNil (x : Operand) : Ev := fun P call fl ts n m => pureO (pNil (evo ts x))
noncomputable def oBin (op : BinOp) (t : TypeId) (a b : Operand) (_ : TypeId) : Ev := fun P call fl ts n m => pureO (pBin P op t a b (evo ts a) (evo ts b))
noncomputable def oUn (op : UnOp) (_ : TypeId) (a : Operand) : Ev := fun P call fl ts n m => pureO (evUn op (evo ts a))
noncomputable def oFunc (f : Fn) (first caps : Array Operand) : Ev := fun P call fl ts n m => pureO (pFunc f first.toList (evos caps.toList ts))
noncomputable def oMap (t : TypeId) (r : Option Operand) : Ev := fun P call fl ts n m => Option.rec (.alloc (.mp n) (.map [])) (fun _ => .fail) r
noncomputable def oMakeS (t : TypeId) (a b : Operand) : Ev := fun P call fl ts n m => newO (pMakeS P t (evo ts a) (evo ts b) n)
def mxOk (hi mx : Option Operand) : Bool := match mx, hi with | none, _ => true | some _, some _ => true | some _, none => false
theorem mxOk_ok {hi mx : Option Operand} (h : mxOk hi mx = true) : mx = none ∨ hi ≠ none := by
  cases mx with
  | none => exact .inl rfl
  | some _ => cases hi with
    | none => cases h
    | some _ => exact .inr (by simp)
noncomputable def oSlice (t : TypeId) (x : Operand) (lo hi mx : Option Operand) : Ev := fun P call fl ts n m =>
  match oV ts lo, oV ts hi, oV ts mx, mxOk hi mx with
  | some l, some h, some k, true => pureO (pSlice P t (evo ts x) l h k)
  | _, _, _, _ => .fail
noncomputable def oFA (t : TypeId) (x : Operand) (i : Nat) : Ev := fun P call fl ts n m => pureO (pFA P t i (evo ts x))
noncomputable def oF (t : TypeId) (x : Operand) (i : Nat) : Ev := fun P call fl ts n m => pureO (pF P t i (evo ts x))
noncomputable def oIA (t : TypeId) (x y : Operand) : Ev := fun P call fl ts n m => pureO (pIA P t (evo ts x) (evo ts y))
noncomputable def oI (t : TypeId) (x y : Operand) : Ev := fun P call fl ts n m => pureO (pI P t (evo ts x) (evo ts y))
noncomputable def oExt (x : Operand) (i : Nat) : Ev := fun P call fl ts n m => pureO (pExt i (evo ts x))
noncomputable def oTA (x : Operand) (_ t : TypeId) (ok : Bool) : Ev := fun P call fl ts n m => pureO (pTA P t ok (evo ts x) (zv1 P t))
noncomputable def oRange (t : TypeId) (x : Operand) : Ev := fun P call fl ts n m => match P.underlying t, evo ts x with
  | some .string, .str s => .alloc (.ptr n 0) (.iter s 0)
  | _, _ => .fail
noncomputable def oLook (t : TypeId) (x y : Operand) (ok : Bool) : Ev := fun P call fl ts n m => match evo ts x with
  | .nilm => pureO (pLookup P t (evo ts y) ok [])
  | .mp b => Bk.casesOn (M.get m b) .fail (fun _ _ _ => .fail) (fun es => Option.rec .fail (fun v => .load b v) (pLookup P t (evo ts y) ok es)) (fun _ _ => .fail)
  | _ => .fail
noncomputable def oConvR (s d : TypeId) (x : Operand) : Ev := fun P call fl ts n m =>
  match P.underlying s, P.underlying d with
  | some (.slice e), some .string => match P.underlying e, evo ts x with
    | some (.int .u8), .nils => .pure (.str [])
    | some (.int .u8), .sl b o q c op => (match slCells 1 o q (M.get m b) with | some l => Option.rec .fail (fun r => .load b (.str r)) (strL l) | none => .fail)
    | some (.int .i32), .nils => .pure (.str [])
    | some (.int .i32), .sl b o q c op => (match slCells 1 o q (M.get m b) with | some l => Option.rec .fail (fun r => .load b (.str r)) (runL l) | none => .fail)
    | _, _ => .fail
  | some .string, some (.slice e) => .other (oConv P n m s d (evo ts x))
  | _, _ => pureO (pConv P s d (evo ts x))
def lenP (P : Program) (t : TypeId) (x : V) : Option Nat :=
  match P.underlying t, x with
  | some .string, .str s => some s.length
  | some (.slice _), .sl _ _ k _ _ => some k
  | some (.slice _), .nils => some 0
  | some (.slice _), .emp _ => some 0
  | some (.array k _), _ => some k
  | some (.pointer a), _ => (match P.underlying a with | some (.array k _) => some k | _ => none)
  | some (.map _ _), .nilm => some 0
  | _, _ => none
noncomputable def lenR (P : Program) (n : Nat) (m : M) (t : TypeId) (x : V) : Res :=
  match x with
  | .mp b => .other (match lenV P m t (.mp b) with | some k => .ok (.int .i64 k) n m | none => .fail)
  | x => (match lenP P t x with | some k => .pure (.int .i64 k) | none => .fail)
noncomputable def biR (b : Builtin) (args : List Operand) (tys : List TypeId) : Ev := fun P call fl ts n m =>
  match b, args, tys with
  | .len, [x], [t] => lenR P n m t (evo ts x)
  | .append, [x, y], [t, t'] => (match Nat.beq t t' with | true => .other (appendV P fl n m t (evo ts x) (evo ts y)) | false => .fail)
  | .copy, [x, y], [t, _] => .other (oCopy P fl n m t (evo ts x) (evo ts y))
  | .delete, [x, y], [t, _] => .other (oDel P fl n m t (evo ts x) (evo ts y))
  | .min, [x, y], _ => pureO (minV (evo ts x) (evo ts y))
  | .cap, [x], [t] => (match capVV P t (evo ts x) with | some k => .pure (.int .i64 k) | none => .fail)
  | _, _, _ => .fail
noncomputable def caV (call : CallT) (fl n : Nat) (m : M) (xs : List V) (f : V) : Res := match f with
  | .fn g caps => .other (call fl g (xs ++ caps) n m)
  | _ => .fail
noncomputable def oCall (c : Go.Call) : Ev := fun P call fl ts n m =>
  Callee.rec (fun f => caV call fl n m (evos c.args.toList ts) (evo ts f)) (fun _ _ => .fail) (fun b => biR b c.args.toList c.argTypes.toList P call fl ts n m) c.callee
noncomputable def oMapUR (t : TypeId) (x y z : Operand) : Ev := fun P call fl ts n m => .other (oMapU P fl n m t (evo ts x) (evo ts y) (evo ts z))
noncomputable def oNextR (x : Operand) (st : Bool) : Ev := fun P call fl ts n m => .other (oNext fl n m (evo ts x) st)
noncomputable def oFail : Ev := fun P call fl ts n m => .fail
noncomputable def evR (op : Op) : Ev :=
  Op.rec (motive := fun _ => Ev) oMove oMove oPick oAlloc oBox oBuild oBuildS (fun _ _ _ _ => oFail) oLoad oStore (fun _ => oFail) (fun _ => oFail) oNil oBin oUn oConvR (fun _ _ => oFail) (fun _ _ => oFail) oFunc oMap (fun _ _ => oFail) oMakeS oSlice oFA oF oIA oI oLook oMapUR (fun _ _ _ => oFail) (fun _ _ _ _ => oFail) oRange oNextR (fun _ => oFail) oTA oExt oCall (fun _ => oFail) (fun _ => oFail) (fun _ => oFail) (fun _ _ => oFail) (fun _ _ _ => oFail) (fun _ _ => oFail) op
/-! … and what they say -/
theorem load_r {t : TypeId} {p : Operand} {P : Program} {call : CallT} (ho : o.op = .load t p) : ResOK P o ts fl n m (oLoad t p P call fl ts n m) := by
  unfold oLoad
  cases hp : evo ts p with
  | ptr b off =>
    show ResOK P o ts fl n m (Bk.casesOn (motive := fun _ => Res) (M.get m b) _ _ _ _)
    cases hb : M.get m b with
    | cells tt l op =>
      show ResOK P o ts fl n m (Option.rec (motive := fun _ => Res) _ _ (ldc P t l off))
      cases hl : ldc P t l off with
      | none => trivial
      | some v => show LdOK P o ts b (M.get m b) v; rw [hb]; exact load_ok ho hp hl
    | _ => trivial
  | _ => trivial
theorem store_r {t : TypeId} {p x : Operand} {P : Program} {call : CallT} (ho : o.op = .store t p x) : ResOK P o ts fl n m (oStore t p x P call fl ts n m) := by
  unfold oStore
  cases hp : evo ts p with
  | ptr b off =>
    show ResOK P o ts fl n m (Bk.casesOn (motive := fun _ => Res) (M.get m b) _ _ _ _)
    cases hb : M.get m b with
    | cells tt l op =>
      show ResOK P o ts fl n m (Option.rec (motive := fun _ => Res) _ _ (stoV P t off l (flat (evo ts x))))
      cases hl : stoV P t off l (flat (evo ts x)) with
      | none => trivial
      | some v => exact ⟨by rw [hb]; exact fun h => (by cases h), by rw [hb]; exact store_ok ho hp hl⟩
    | _ => trivial
  | _ => trivial
theorem look_r {t : TypeId} {x y : Operand} {ok : Bool} {P : Program} {call : CallT} (ho : o.op = .lookup t x y ok) : ResOK P o ts fl n m (oLook t x y ok P call fl ts n m) := by
  have fin : ∀ (a : Act) (w : World) r, (Instr.lookup t (a.eval x) (a.eval y) ok).run P w = .ok r w → (execOp a.eval o).run P w = .ok (.value r) w := by
    intro a w r hr
    simp only [execOp, ho, Sem.run_bind, hr, Result.andThen_ok]
    rfl
  unfold oLook
  split
  · rename_i e
    refine pureO_ok fun v hv G a w ha => ?_
    rw [ho] at ha
    have hx := ha x (by simp [Op.operands])
    have hy := ha y (by simp [Op.operands])
    rw [e] at hx
    obtain ⟨r, hr, hv⟩ := lookup_run (P := P) (w := w) (um := a.eval x) (ys := []) hv hy rfl (.inl ⟨by generalize a.eval x = u at hx; cases hx; rfl, rfl⟩)
    exact ⟨r, fin a w r hr, hv⟩
  · rename_i b e
    show ResOK P o ts fl n m (Bk.casesOn (motive := fun _ => Res) (M.get m b) _ _ _ _)
    cases hb : M.get m b with
    | map es =>
      show ResOK P o ts fl n m (Option.rec (motive := fun _ => Res) _ _ (pLookup P t (evo ts y) ok es))
      cases hl : pLookup P t (evo ts y) ok es with
      | none => trivial
      | some v =>
        show LdOK P o ts b (M.get m b) v
        rw [hb]
        intro G a w ha
        rw [ho] at ha
        have hx := ha x (by simp [Op.operands])
        have hy := ha y (by simp [Op.operands])
        rw [e] at hx
        refine ⟨by generalize a.eval x = u at hx; cases hx; assumption, fun hbk => ?_⟩
        obtain ⟨ys, clock, h1, h2⟩ := hbk
        obtain ⟨r, hr, hv⟩ := lookup_run (P := P) (w := w) (um := a.eval x) hl hy h2 (.inr ⟨_, clock, by generalize a.eval x = u at hx; cases hx; rfl, h1⟩)
        exact ⟨r, fin a w r hr, hv⟩
    | _ => trivial
  · trivial
theorem conv_r {s d : TypeId} {x : Operand} {P : Program} {call : CallT} (ho : o.op = .convert s d x) : ResOK P o ts fl n m (oConvR s d x P call fl ts n m) := by
  unfold oConvR
  split
  · rename_i e hs hd
    have nil : (∀ w, (convert s d (.slice none 0 0)).run P w = .ok (.string .empty) w) → evo ts x = .nils → PureOK P o ts (.str []) := by
      intro hc ex G a w ha
      rw [ho] at ha
      have hx := ha x (by simp [Op.operands])
      rw [ex] at hx
      have : a.eval x = .slice none 0 0 := by generalize a.eval x = u at hx; cases hx; rfl
      refine ⟨.string .empty, ?_, .str []⟩
      simp only [execOp, ho, Sem.run_bind, this, hc, Sem.run_pure, Result.andThen_ok]
    split
    · rename_i he ex
      refine nil (fun w => ?_) ex
      simp only [convert, Sem.run_bind, run_underlying hs, run_underlying hd, run_underlying he, Result.andThen_ok, Conv.bytesToString, Sem.run_pure]
    · rename_i b o' q c op he ex
      split
      · rename_i l hl
        cases hr : strL l with
        | none => trivial
        | some r =>
          show LdOK P o ts b (M.get m b) (.str r)
          intro G a w ha
          rw [ho] at ha
          have hx := ha x (by simp [Op.operands])
          rw [ex] at hx
          obtain ⟨es, hal, _⟩ := i_sl hx
          refine ⟨hal, fun hbk => ?_⟩
          obtain ⟨_, us, h2, h3, _, h5⟩ := slCells_ok (P := P) hl hbk
          obtain ⟨ns, rfl, rfl⟩ := strL_ok hr h2.lr
          refine ⟨_, ?_, .str _⟩
          rw [Nat.mul_one] at h5
          have := run_bytesToString (P := P) w _ q (capV G b c op) ns h5
          rw [foldl_push] at this
          simp only [execOp, ho, convert, Sem.run_bind, run_underlying hs, run_underlying hd, run_underlying he, Result.andThen_ok, es, this, Sem.run_pure]
          simp
      · trivial
    · rename_i he ex
      refine nil (fun w => ?_) ex
      simp only [convert, Sem.run_bind, run_underlying hs, run_underlying hd, run_underlying he, Result.andThen_ok, Conv.runesToString, Sem.run_pure]
    · rename_i b o' q c op he ex
      split
      · rename_i l hl
        cases hr : runL l with
        | none => trivial
        | some r =>
          show LdOK P o ts b (M.get m b) (.str r)
          intro G a w ha
          rw [ho] at ha
          have hx := ha x (by simp [Op.operands])
          rw [ex] at hx
          obtain ⟨es, hal, _⟩ := i_sl hx
          refine ⟨hal, fun hbk => ?_⟩
          obtain ⟨_, us, h2, h3, _, h5⟩ := slCells_ok (P := P) hl hbk
          obtain ⟨ns, rfl, hasc, rfl⟩ := runL_ok hr h2.lr
          refine ⟨_, ?_, .str _⟩
          rw [Nat.mul_one] at h5
          have := run_runesToString (P := P) w _ q (capV G b c op) ns h5
          unfold runesBytes at this
          rw [foldl_enc _ _ hasc] at this
          simp only [execOp, ho, convert, Sem.run_bind, run_underlying hs, run_underlying hd, run_underlying he, Result.andThen_ok, es, this, Sem.run_pure]
          simp
      · trivial
    · trivial
  · rename_i e hs hd
    refine other_ok ?_ fun v n' m' h => oconv_ok ho h
    unfold oConv
    rw [hs, hd]
    simp only
    split
    · split <;> simp [RLe]
    · trivial
  · exact pureO_ok fun v hv => conv_ok ho hv
theorem lenP_run {w : World} {G : Gh} {t ty : TypeId} {x : V} {u : Value} {k : Nat} (h : lenP P t x = some k) (hx : CR G x u) : (Builtin.len_ #[t] ty #[u]).run P w = .ok (.int .i64 k) w := by
  unfold lenP at h
  split at h
  · rename_i s hu
    obtain rfl := Option.some.inj h
    rw [i_str hx]
    unfold Builtin.len_
    have hs : (⟨s.toArray⟩ : ByteArray).size = s.length := by simp [ByteArray.size]
    simp only [List.getElem?_toArray, List.getElem?_cons_zero, Sem.run_bind, run_underlying hu, Result.andThen_ok, goInt, hs, Sem.run_pure]
  · rename_i hu
    obtain rfl := Option.some.inj h
    obtain ⟨e, _⟩ := i_sl hx
    rw [e]
    unfold Builtin.len_
    simp [run_underlying hu, goInt]
  · rename_i hu
    obtain rfl := Option.some.inj h
    cases hx
    unfold Builtin.len_
    simp [run_underlying hu, goInt]
  · rename_i hu
    obtain rfl := Option.some.inj h
    cases hx
    unfold Builtin.len_
    simp [run_underlying hu, goInt]
  · rename_i hu
    obtain rfl := Option.some.inj h
    unfold Builtin.len_
    simp [run_underlying hu, goInt]
  · rename_i a hu
    split at h
    · rename_i ha
      obtain rfl := Option.some.inj h
      unfold Builtin.len_
      simp [run_underlying hu, run_underlying ha, goInt]
    · cases h
  · rename_i hu
    obtain rfl := Option.some.inj h
    cases hx
    unfold Builtin.len_
    simp [run_underlying hu, goInt]
  · cases h
theorem len_r {t : TypeId} {x : Operand} (ho : o.op = bCall .len #[x] #[t]) : ResOK P o ts fl n m (lenR P n m t (evo ts x)) := by
  unfold lenR
  split
  · rename_i b e
    refine other_ok ?_ fun v n' m' h => ?_
    · split <;> simp [RLe]
    · split at h
      · rename_i k hk
        simp only [R.ok.injEq] at h
        obtain ⟨rfl, rfl, rfl⟩ := h
        exact bi_len ho (by rw [e]; exact hk)
      · cases h
  · split
    · rename_i k hk
      intro G a w ha
      rw [ho] at ha
      have hx := ha x (by simp [bCall, Op.operands, Call.operands])
      refine ⟨.int .i64 k, ?_, .int _ _⟩
      have hr := lenP_run (w := w) (ty := o.type) hk hx
      simp only [execOp, ho, bCall, resolve, Sem.run_bind, Sem.run_pure, Result.andThen_ok, invoke, builtin, List.map_toArray, List.map_cons, List.map_nil, hr]
    · trivial
theorem app_le {t : TypeId} {s x : V} : RLe n (appendV P fl n m t s x) := by
  unfold appendV
  repeat' split
  all_goals simp [RLe]
theorem copy_le {t : TypeId} {s x : V} : RLe n (oCopy P fl n m t s x) := by
  unfold oCopy
  repeat' split
  all_goals simp [RLe]
theorem del_le {t : TypeId} {s x : V} : RLe n (oDel P fl n m t s x) := by
  unfold oDel
  repeat' split
  all_goals simp [RLe]
theorem mapU_le {t : TypeId} {s x y : V} : RLe n (oMapU P fl n m t s x y) := by
  unfold oMapU
  repeat' split
  all_goals simp [RLe]
theorem next_le {x : V} {st : Bool} : RLe n (oNext fl n m x st) := by
  unfold oNext
  repeat' split
  all_goals simp [RLe]
theorem arr1 {α : Type} {a : Array α} {x : α} (h : a.toList = [x]) : a = #[x] := Array.toList_inj.1 (by simpa using h)
theorem arr2 {α : Type} {a : Array α} {x y : α} (h : a.toList = [x, y]) : a = #[x, y] := Array.toList_inj.1 (by simpa using h)
theorem bi_r {b : Builtin} {args : Array Operand} {tys : Array TypeId} {call : CallT} (ho : o.op = bCall b args tys) : ResOK P o ts fl n m (biR b args.toList tys.toList P call fl ts n m) := by
  unfold biR
  split
  · rename_i x t h1 h2
    obtain rfl := arr1 h1
    obtain rfl := arr1 h2
    exact len_r ho
  · rename_i x y t t' h1 h2
    obtain rfl := arr2 h1
    obtain rfl := arr2 h2
    split
    · rename_i ht
      obtain rfl := Nat.eq_of_beq_eq_true ht
      exact other_ok app_le fun v n' m' h => bi_app ho h
    · trivial
  · rename_i x y t t' h1 h2
    obtain rfl := arr2 h1
    obtain rfl := arr2 h2
    exact other_ok copy_le fun v n' m' h => bi_copy ho h
  · rename_i x y t t' h1 h2
    obtain rfl := arr2 h1
    obtain rfl := arr2 h2
    exact other_ok del_le fun v n' m' h => bi_del ho h
  · rename_i x y h1
    obtain rfl := arr2 h1
    exact pureO_ok fun v hv => bi_min ho hv
  · rename_i x t h1 h2
    obtain rfl := arr1 h1
    obtain rfl := arr1 h2
    split
    · rename_i k hk
      exact bi_cap ho hk
    · trivial
  · trivial
theorem call_ok {f : Operand} {args : Array Operand} {tys : Array TypeId} {g : Nat} {caps : List V} {call : CallT} {n' : Nat} {m' : M} (hc : CallOK P call) (ho : o.op = .call { callee := .value f, args := args, argTypes := tys }) (hf : evo ts f = .fn g caps) (h : call fl g (evos args.toList ts ++ caps) n m = .ok v n' m') :
    OpOK P o ts fl n m v n' m' := by
  obtain ⟨_, hcall, hfn⟩ := hc _ _ _ _ _ _ _ _ h
  intro B w G a hm ha hfl next Q hn
  rw [ho] at ha
  have hx := ha f (by simp [Op.operands, Call.operands])
  have hl := orels (G := G) (a := a) args.toList fun x hx => ha x (by simp [Op.operands, Call.operands]; simp at hx; exact .inr hx)
  rw [hf] at hx
  obtain ⟨cs, ef, hcs⟩ : ∃ cs : List Value, a.eval f = .func (.func g) #[] cs.toArray ∧ LR G caps cs := by
    generalize a.eval f = u at hx
    cases hx with
    | fn _ _ cs h1 h2 => exact ⟨cs, rfl, h1, h2⟩
  have hrun : (execOp a.eval o).run P w = .ok (.enter g (args.toList.map a.eval ++ cs).toArray) w := by
    have e2 : (#[] ++ args.map a.eval ++ cs.toArray : Array Value) = (args.toList.map a.eval ++ cs).toArray := by
      apply Array.ext'; simp
    simp only [execOp, ho, resolve, ef, Deferred.ofValue, Sem.run_bind, Sem.run_pure, Result.andThen_ok, invoke]
    rw [run_callFunc hcall, e2]
  unfold Oper.wp
  rw [hrun]
  refine Calls.mono (hfn B w G _ hm (hl.append hcs) hfl) fun e w' hq => ?_
  obtain ⟨x, G', rfl, h1, h2⟩ := hq
  exact hn x w' G' h1 h2
theorem call_r {c : Go.Call} {call : CallT} (hc : CallOK P call) (ho : o.op = .call c) : ResOK P o ts fl n m (oCall c P call fl ts n m) := by
  obtain ⟨callee, args, tys⟩ := c
  cases callee with
  | value f =>
    show ResOK P o ts fl n m (caV call fl n m (evos args.toList ts) (evo ts f))
    unfold caV
    split
    · rename_i g caps e
      refine other_ok ?_ fun v n' m' h => call_ok hc ho e h
      cases h : call fl g (evos args.toList ts ++ caps) n m with
      | fail => trivial
      | ok v n' m' => exact (hc _ _ _ _ _ _ _ _ h).1
    · trivial
  | invoke _ _ => trivial
  | builtin b => exact bi_r (call := call) ho
theorem evR_ok {P : Program} {call : CallT} (hc : CallOK P call) (o : Oper) (ts : T) (fl n : Nat) (m : M) : ResOK P o ts fl n m (evR o.op P call fl ts n m) := by
  cases hop : o.op with
  | move x => exact move_ok (.inl hop)
  | assign x => exact move_ok (.inr hop)
  | pick c x y => exact pureO_ok fun v hv => pick_ok hop hv
  | alloc t =>
    show ResOK P o ts fl n m (Option.rec (motive := fun _ => Res) _ _ (zc P t))
    cases h : zc P t with
    | none => trivial
    | some l => exact alloc_ok n hop h
  | box t x =>
    show ResOK P o ts fl n m (Option.rec (motive := fun _ => Res) _ _ (flat (evo ts x)))
    cases h : flat (evo ts x) with
    | none => trivial
    | some l => exact box_ok n hop h
  | build t ps => exact pureO_ok fun v hv => build_ok hop hv
  | buildSlice t k ps => exact newO_ok fun v b hv => bs_ok hop hv
  | load t p => exact load_r (call := call) hop
  | store t p x => exact store_r (call := call) hop
  | nilCheck x => exact pureO_ok fun v hv => nil_ok hop hv
  | binOp op t x y t' => exact pureO_ok fun v hv => bin_ok hop hv
  | unOp op t x => exact pureO_ok fun v hv => un_ok hop hv
  | convert s d x => exact conv_r (call := call) hop
  | makeFunc f first caps => exact pureO_ok fun v hv => func_ok hop hv
  | makeMap t r => cases r with
    | none => exact mm_ok hop
    | some _ => trivial
  | makeSlice t x y => exact newO_ok fun v b hv => ms_ok hop hv
  | slice t x lo hi mx =>
    show ResOK P o ts fl n m (oSlice t x lo hi mx P call fl ts n m)
    unfold oSlice
    split
    · rename_i l h k h1 h2 h3 h4
      exact pureO_ok fun v hv => slice_ok hop h1 h2 h3 (mxOk_ok h4) hv
    · trivial
  | fieldAddr t x i => exact pureO_ok fun v hv => fa_ok hop hv
  | field t x i => exact pureO_ok fun v hv => f_ok hop hv
  | indexAddr t x y => exact pureO_ok fun v hv => ia_ok hop hv
  | index t x y => exact pureO_ok fun v hv => ix_ok hop hv
  | lookup t x y ok => exact look_r (call := call) hop
  | mapUpdate t x y z => exact other_ok mapU_le fun v n' m' h => mapU_ok hop h
  | range t x =>
    show ResOK P o ts fl n m (oRange t x P call fl ts n m)
    unfold oRange
    split
    · rename_i s hu e
      exact rg_ok hop e hu
    · trivial
  | next x st => exact other_ok next_le fun v n' m' h => next_ok hop h
  | typeAssert x t' t ok => exact pureO_ok fun v hv => ta_ok hop hv
  | extract x i => exact pureO_ok fun v hv => ext_ok hop hv
  | call c => exact call_r hc hop
  | _ => trivial
end
end Go.Proofs.YtbpjinefbnlenaaGreatDoor.E

/- An exact machine, part 14: regions in the order of the text; code. -/
namespace Go.Proofs.YtbpjinefbnlenaaGreatDoor.E
open Go Go.RowKit
set_option linter.unusedVariables false

inductive Out where
  | fail
  | nrm (ts : T) (n : Nat) (m : M)
  | ex (i : Nat) (ts : T) (n : Nat) (m : M)
  | ret (ts : T) (n : Nat) (m : M)
abbrev K := Program → CallT → Nat → T → Nat → M → Out
/-- is the guard met? -/
noncomputable def dstOf (l : List Oper) : Nat → Option Tmp := List.rec (fun _ => none) (fun o _ ih i => Nat.rec o.dst (fun j _ => ih j) i) l
theorem dstOf_eq : ∀ (l : List Oper) (i : Nat), dstOf l i = (l[i]?).bind (·.dst)
  | [], i => rfl
  | o :: l, 0 => rfl
  | o :: l, i + 1 => dstOf_eq l i
def gV (want : Bool) (v : V) : Option Bool := match v with
  | .bool b => some (match b, want with | true, true => true | false, false => true | _, _ => false)
  | .tup _ => some false
  | _ => none
noncomputable def gd (all : List Oper) (ts : T) (g : Nat × Bool) : Option Bool := Prod.rec (fun i want => Option.rec none (fun d => gV want (T.get ts d)) (dstOf all i)) g
theorem gd_ok {G : Gh} {arr : Array Oper} {ts : T} {nt : Nat} {a : Act} {o : Oper} {g : Nat × Bool} {b : Bool} (ht : TR G ts nt a) (hg : o.guard = some g) (h : gd arr.toList ts g = some b) : Region.wanted o (yielded arr a.tmps) = b := by
  obtain ⟨i, want⟩ := g
  have h : Option.rec (motive := fun _ => Option Bool) none (fun d => gV want (T.get ts d)) (dstOf arr.toList i) = some b := h
  rw [dstOf_eq] at h
  have e : arr.toList[i]? = arr[i]? := by simp
  rw [e] at h
  unfold Region.wanted
  rw [hg]
  simp only
  unfold yielded
  cases hd : (arr[i]?).bind (·.dst) with
  | none => rw [hd] at h; cases h
  | some d =>
    rw [hd] at h
    have h : gV want (T.get ts d) = some b := h
    have hv := ht.val d
    simp only [Option.bind_some]
    unfold gV at h
    split at h
    · rename_i x e1
      rw [e1] at hv
      have e2 := i_bool hv
      have hlt : d < a.tmps.size := by
        rcases Nat.lt_or_ge d a.tmps.size with h' | h'
        · exact h'
        · simp [Array.getD, Nat.not_lt.2 h', undef] at e2
      have e3 : a.tmps[d]? = some (.bool x) := by
        rw [← e2]; simp [hlt]
      rw [e3]
      have h := Option.some.inj h
      rw [← h]
      cases x <;> cases want <;> rfl
    · rename_i l e1
      rw [e1] at hv
      obtain ⟨cs, e2⟩ : ∃ cs, a.tmps.getD d undef = .tuple cs := by
        generalize a.tmps.getD d undef = u at hv
        cases hv; exact ⟨_, rfl⟩
      have h := Option.some.inj h
      rw [← h]
      cases h3 : a.tmps[d]? with
      | none => rfl
      | some u =>
        have : a.tmps.getD d undef = u := by simp [Array.getD_eq_getD_getElem?, h3]
        rw [this] at e2
        subst e2
        rfl
    · cases h
noncomputable def stp (k : T → Nat → M → Out) (d : Option Tmp) (ts : T) (r : R) : Out := R.rec Out.fail (fun v n m => k (put1 d ts v) n m) r
noncomputable def gdd (k : T → Nat → M → Out) (d : Option Tmp) (run : R) (ts : T) (n : Nat) (m : M) (b : Option Bool) : Out :=
  Option.rec Out.fail (fun b => Bool.rec (k (put1 d ts (.tup [])) n m) (stp k d ts run) b) b
noncomputable def op1 (o : Oper) (all : List Oper) (P : Program) (call : CallT) (fl : Nat) (k : T → Nat → M → Out) (ts : T) (n : Nat) (m : M) : Out :=
  Option.rec (stp k o.dst ts (toR fl n m (evR o.op P call fl ts n m))) (fun g => gdd k o.dst (toR fl n m (evR o.op P call fl ts n m)) ts n m (gd all ts g)) o.guard
noncomputable def ops (l : List Oper) : List Oper → K :=
  List.rec (fun _ _ _ _ ts n m => Out.nrm ts n m) (fun o _ ih all P call fl => op1 o all P call fl (ih all P call fl)) l
def nOf : Out → Nat
  | .fail => 0
  | .nrm _ n _ => n
  | .ex _ _ n _ => n
  | .ret _ n _ => n
def KO (fl B n : Nat) (m : M) (w : World) (G : Gh) (nt : Nat) (Q : Exit → Act → World → Prop) : Out → Prop
  | .fail => False
  | .nrm ts' n' m' => ∀ a' w' G', Post B n m w G n' m' w' G' fl → TR G' ts' nt a' → a'.defers = [] → Q .normal a' w'
  | .ex i ts' n' m' => ∀ a' w' G', Post B n m w G n' m' w' G' fl → TR G' ts' nt a' → a'.defers = [] → Q (.exit i) a' w'
  | .ret ts' n' m' => ∀ a' w' G', Post B n m w G n' m' w' G' fl → TR G' ts' nt a' → a'.defers = [] → Q .ret a' w'
theorem KO.after {fl B n n1 nt : Nat} {m m1 : M} {w w1 : World} {G G1 : Gh} {Q : Exit → Act → World → Prop} {out : Out} (h0 : MemR B w G n m) (hp : Post B n m w G n1 m1 w1 G1 fl) (hfl : fl ≤ n) (h : KO fl B n m w G nt Q out) : KO fl B n1 m1 w1 G1 nt Q out := by
  cases out with
  | fail => exact h
  | nrm ts' n' m' => exact fun a' w' G' h1 => h a' w' G' (Post.trans h0 hp h1 hfl)
  | ex i ts' n' m' => exact fun a' w' G' h1 => h a' w' G' (Post.trans h0 hp h1 hfl)
  | ret ts' n' m' => exact fun a' w' G' h1 => h a' w' G' (Post.trans h0 hp h1 hfl)
theorem KO.mono {fl B n nt : Nat} {m : M} {w : World} {G : Gh} {Q Q' : Exit → Act → World → Prop} {out : Out} (h : KO fl B n m w G nt Q out) (hq : ∀ e a w, Q e a w → Q' e a w) : KO fl B n m w G nt Q' out := by
  cases out with
  | fail => exact h
  | nrm ts' n' m' => exact fun a' w' G' h1 h2 h3 => hq _ _ _ (h a' w' G' h1 h2 h3)
  | ex i ts' n' m' => exact fun a' w' G' h1 h2 h3 => hq _ _ _ (h a' w' G' h1 h2 h3)
  | ret ts' n' m' => exact fun a' w' G' h1 h2 h3 => hq _ _ _ (h a' w' G' h1 h2 h3)
/-- what code does, when the machine runs through it -/
def ExOK (P : Program) (nt : Nat) (c : Code) (f : K) : Prop := ∀ (call : CallT) (fl : Nat) (ts : T) (n : Nat) (m : M), CallOK P call → f P call fl ts n m ≠ .fail → n ≤ nOf (f P call fl ts n m) ∧
  ∀ (B : Nat) (w : World) (G : Gh) (a : Act) (Q : Exit → Act → World → Prop), MemR B w G n m → TR G ts nt a → a.defers = [] → fl ≤ n → Free G n (nOf (f P call fl ts n m)) → KO fl B n m w G nt Q (f P call fl ts n m) → c.wp P Q a w
/-- one operation in its turn -/
theorem op1_ok {P : Program} {call : CallT} {fl nt : Nat} {arr : Array Oper} {o : Oper} {k : T → Nat → M → Out} {ts : T} {n : Nat} {m : M} (hc : CallOK P call) (hd : dstOk nt o.dst = true) (hne : op1 o arr.toList P call fl k ts n m ≠ .fail) :
    ∃ v n1 m1, op1 o arr.toList P call fl k ts n m = k (put1 o.dst ts v) n1 m1 ∧ n ≤ n1 ∧
    ∀ (B : Nat) (w : World) (G : Gh) (a : Act) (Kk : Act → World → Prop) (Q : Exit → Act → World → Prop), MemR B w G n m → TR G ts nt a → a.defers = [] → fl ≤ n ∧ Free G n n1 →
      (∀ a' w' G', Post B n m w G n1 m1 w' G' fl → TR G' (put1 o.dst ts v) nt a' → a'.defers = [] → Kk a' w') →
      (if Region.wanted o (yielded arr a.tmps) then o.wp P a w Kk Q ∨ (o.asks P a w ∧ LetsOut Q) else Kk (a.put o.dst undef) w) := by
  have run : ∀ (hb : stp k o.dst ts (toR fl n m (evR o.op P call fl ts n m)) ≠ .fail), ∃ v n1 m1, stp k o.dst ts (toR fl n m (evR o.op P call fl ts n m)) = k (put1 o.dst ts v) n1 m1 ∧ n ≤ n1 ∧
    ∀ (B : Nat) (w : World) (G : Gh) (a : Act) (Kk : Act → World → Prop) (Q : Exit → Act → World → Prop), MemR B w G n m → TR G ts nt a → a.defers = [] → fl ≤ n ∧ Free G n n1 →
      (∀ a' w' G', Post B n m w G n1 m1 w' G' fl → TR G' (put1 o.dst ts v) nt a' → a'.defers = [] → Kk a' w') → o.wp P a w Kk Q := by
    intro hb
    cases hr : toR fl n m (evR o.op P call fl ts n m) with
    | fail => rw [hr] at hb; exact absurd rfl hb
    | ok v n1 m1 =>
      obtain ⟨h1, h2⟩ := toR_ok (evR_ok hc o ts fl n m) hr
      refine ⟨v, n1, m1, rfl, h1, fun B w G a Kk Q hm ht hdf hfl hK => ?_⟩
      refine h2 B w G a hm (ht.orel _) hfl _ _ fun x w' G' hp hx => ?_
      exact hK _ _ _ hp ((ht.ext hp.ext).put o.dst hd hx) (by rw [put_defers]; exact hdf)
  cases hg : o.guard with
  | none =>
    have e : op1 o arr.toList P call fl k ts n m = stp k o.dst ts (toR fl n m (evR o.op P call fl ts n m)) := by unfold op1; rw [hg]
    rw [e] at hne ⊢
    obtain ⟨v, n1, m1, h1, h2, h3⟩ := run hne
    refine ⟨v, n1, m1, h1, h2, fun B w G a Kk Q hm ht hdf hfl hK => ?_⟩
    have : Region.wanted o (yielded arr a.tmps) = true := by unfold Region.wanted; rw [hg]
    rw [this, if_pos rfl]
    exact .inl (h3 B w G a Kk Q hm ht hdf hfl hK)
  | some g =>
    have e : op1 o arr.toList P call fl k ts n m = gdd k o.dst (toR fl n m (evR o.op P call fl ts n m)) ts n m (gd arr.toList ts g) := by unfold op1; rw [hg]
    rw [e] at hne ⊢
    cases hb : gd arr.toList ts g with
    | none => rw [hb] at hne; exact absurd rfl hne
    | some b =>
      rw [hb] at hne
      cases b with
      | true =>
        obtain ⟨v, n1, m1, h1, h2, h3⟩ := run hne
        refine ⟨v, n1, m1, h1, h2, fun B w G a Kk Q hm ht hdf hfl hK => ?_⟩
        rw [gd_ok ht hg hb, if_pos rfl]
        exact .inl (h3 B w G a Kk Q hm ht hdf hfl hK)
      | false =>
        refine ⟨.tup [], n, m, rfl, Nat.le_refl _, fun B w G a Kk Q hm ht hdf hfl hK => ?_⟩
        rw [gd_ok ht hg hb, if_neg (by simp)]
        exact hK _ _ _ (Post.refl hm fl) (ht.put o.dst hd (cr_undef G)) (by rw [put_defers]; exact hdf)
theorem ops_ok {P : Program} {call : CallT} {fl nt : Nat} {arr : Array Oper} (hc : CallOK P call) : ∀ (l : List Oper) (k : Nat), arr.toList.drop k = l → (∀ o ∈ l, dstOk nt o.dst = true) → ∀ (ts : T) (n : Nat) (m : M), ops l arr.toList P call fl ts n m ≠ .fail →
    (∃ ts' n' m', ops l arr.toList P call fl ts n m = .nrm ts' n' m') ∧ n ≤ nOf (ops l arr.toList P call fl ts n m) ∧
    ∀ (B : Nat) (w : World) (G : Gh) (a : Act) (Q : Exit → Act → World → Prop), MemR B w G n m → TR G ts nt a → a.defers = [] → fl ≤ n → Free G n (nOf (ops l arr.toList P call fl ts n m)) → KO fl B n m w G nt Q (ops l arr.toList P call fl ts n m) →
      wpOps P arr Q (List.range' k (arr.size - k)) a w
  | [], k, hk, _, ts, n, m, _ => by
    refine ⟨⟨ts, n, m, rfl⟩, Nat.le_refl _, fun B w G a Q hm ht hdf hfl hfr hK => ?_⟩
    have hle : arr.size ≤ k := by have := List.drop_eq_nil_iff.1 hk; simpa using this
    rw [show arr.size - k = 0 by omega]
    exact hK a w G (Post.refl hm fl) ht hdf
  | o :: l, k, hk, hd, ts, n, m, hne => by
    have hok : arr[k]? = some o := by
      have : (arr.toList.drop k)[0]? = some o := by rw [hk]; rfl
      rw [List.getElem?_drop] at this
      simpa using this
    have hk' : arr.toList.drop (k + 1) = l := by
      rw [← List.drop_drop, hk]; rfl
    have hlt : k < arr.size := (Array.getElem?_eq_some_iff.1 hok).1
    have e : ops (o :: l) arr.toList P call fl ts n m = op1 o arr.toList P call fl (ops l arr.toList P call fl) ts n m := rfl
    rw [e] at hne ⊢
    obtain ⟨v, n1, m1, h1, h2, h3⟩ := op1_ok hc (hd o List.mem_cons_self) hne
    rw [h1] at hne ⊢
    obtain ⟨h4, h5, h6⟩ := ops_ok hc l (k + 1) hk' (fun o ho => hd o (List.mem_cons_of_mem _ ho)) _ _ _ hne
    refine ⟨h4, Nat.le_trans h2 h5, fun B w G a Q hm ht hdf hfl hfr hK => ?_⟩
    rw [show arr.size - k = (arr.size - (k + 1)) + 1 by omega, List.range'_succ]
    simp only [wpOps, hok]
    refine h3 B w G a _ Q hm ht hdf ⟨hfl, hfr.sub (Nat.le_refl _) h5⟩ fun a' w' G' hp ht' hdf' => ?_
    exact h6 B w' G' a' Q hp.memr ht' hdf' (Nat.le_trans hfl h2) ((hp.free hfr)) (hK.after hm hp hfl)
theorem wp_region_text {P : Program} {id : Nat} {arr : Array Oper} {Q : Exit → Act → World → Prop} {a : Act} {w : World} (h : wpOps P arr Q (List.range arr.size) a w) : (Code.region id arr false).wp P Q a w := by
  intro b k cs
  obtain ⟨e, a', w', hq, harr⟩ := wp_ops (List.range arr.size) a w h b k cs
  exact ⟨e, a', w', hq, .of_steps (.one step_region) harr⟩
def dOks (nt : Nat) (l : List Oper) : Bool := l.all fun o => dstOk nt o.dst
noncomputable def cReg (arr : Array Oper) : K := fun P call fl ts n m => ops arr.toList arr.toList P call fl ts n m
theorem reg_ok {P : Program} {nt id : Nat} {arr : Array Oper} (hd : dOks nt arr.toList = true) : ExOK P nt (.region id arr false) (cReg arr) := by
  intro call fl ts n m hc hne
  unfold dOks at hd
  obtain ⟨_, h1, h2⟩ := ops_ok (arr := arr) (nt := nt) (fl := fl) hc arr.toList 0 rfl (List.all_eq_true.1 hd) ts n m hne
  refine ⟨h1, fun B w G a Q hm ht hdf hfl hfr hK => wp_region_text ?_⟩
  have := h2 B w G a Q hm ht hdf hfl hfr hK
  rwa [Nat.sub_zero, ← List.range_eq_range'] at this
/-! code -/
noncomputable def thn (k : T → Nat → M → Out) (o : Out) : Out := Out.rec Out.fail (fun ts n m => k ts n m) (fun i ts n m => Out.ex i ts n m) (fun ts n m => Out.ret ts n m) o
noncomputable def blkO (i : Nat) (o : Out) : Out := Out.rec Out.fail (fun ts n m => Out.nrm ts n m) (fun j ts n m => Bool.rec (Out.ex j ts n m) (Out.nrm ts n m) (Nat.beq j i)) (fun ts n m => Out.ret ts n m) o
noncomputable def loopR (fuel : Nat) : (T → Nat → M → Out) → T → Nat → M → Out := Nat.rec (fun _ _ _ _ => Out.fail) (fun _ ih c ts n m => thn (ih c) (c ts n m)) fuel
noncomputable def cFail : K := fun _ _ _ _ _ _ => .fail
noncomputable def cSkip : K := fun _ _ _ ts n m => .nrm ts n m
noncomputable def cSeq (a b : K) : K := fun P call fl ts n m => thn (b P call fl) (a P call fl ts n m)
noncomputable def cnd (v : V) (a b : Out) : Out := V.rec (motive_1 := fun _ => Out) (motive_2 := fun _ => Unit) .fail (fun _ _ => .fail) (fun t => Bool.rec b a t) (fun _ => .fail) (fun _ _ => .fail) (fun _ _ => .fail) .fail (fun _ _ _ _ _ => .fail) .fail (fun _ _ => .fail) .fail (fun _ => .fail) .fail (fun _ _ _ => .fail) .fail (fun _ => .fail) () (fun _ _ _ _ => ()) v
noncomputable def cCond (c : Operand) (a b : K) : K := fun P call fl ts n m => cnd (evo ts c) (a P call fl ts n m) (b P call fl ts n m)
noncomputable def cBlk (i : Nat) (a : K) : K := fun P call fl ts n m => blkO i (a P call fl ts n m)
noncomputable def cLoop (a : K) : K := fun P call fl ts n m => loopR 100000 (a P call fl) ts n m
noncomputable def cExit (i : Nat) : K := fun _ _ _ ts n m => .ex i ts n m
noncomputable def cRet : K := fun _ _ _ ts n m => .ret ts n m
section
variable {P : Program} {nt : Nat}
theorem skip_ok : ExOK P nt .skip cSkip := fun call fl ts n m hc hne => ⟨Nat.le_refl _, fun B w G a Q hm ht hdf hfl hfr hK => wp_skip (hK a w G (Post.refl hm fl) ht hdf)⟩
theorem label_ok {l : Nat} : ExOK P nt (.label l) cSkip := fun call fl ts n m hc hne => ⟨Nat.le_refl _, fun B w G a Q hm ht hdf hfl hfr hK => wp_label (hK a w G (Post.refl hm fl) ht hdf)⟩
theorem exit_ok {i : Nat} : ExOK P nt (.exit i) (cExit i) := fun call fl ts n m hc hne => ⟨Nat.le_refl _, fun B w G a Q hm ht hdf hfl hfr hK => wp_exit (hK a w G (Post.refl hm fl) ht hdf)⟩
theorem ret_ok : ExOK P nt .ret cRet := fun call fl ts n m hc hne => ⟨Nat.le_refl _, fun B w G a Q hm ht hdf hfl hfr hK => wp_ret (hK a w G (Post.refl hm fl) ht hdf)⟩
theorem fail_ok {c : Code} : ExOK P nt c cFail := fun call fl ts n m hc hne => absurd rfl hne
theorem seq_ok {x y : Code} {f g : K} (hf : ExOK P nt x f) (hg : ExOK P nt y g) : ExOK P nt (.seq x y) (cSeq f g) := by
  intro call fl ts n m hc hne
  have e : cSeq f g P call fl ts n m = thn (g P call fl) (f P call fl ts n m) := rfl
  rw [e] at hne ⊢
  have hfn : f P call fl ts n m ≠ .fail := fun h => hne (by rw [h]; rfl)
  obtain ⟨h1, h2⟩ := hf call fl ts n m hc hfn
  cases ho : f P call fl ts n m with
  | fail => exact absurd ho hfn
  | nrm ts1 n1 m1 =>
    rw [ho] at hne h1 h2
    have hne : g P call fl ts1 n1 m1 ≠ .fail := hne
    obtain ⟨h3, h4⟩ := hg call fl ts1 n1 m1 hc hne
    have h1 : n ≤ n1 := h1
    refine ⟨Nat.le_trans h1 h3, fun B w G a Q hm ht hdf hfl hfr hK => wp_seq ?_⟩
    have hfr : Free G n (nOf (g P call fl ts1 n1 m1)) := hfr
    refine h2 B w G a _ hm ht hdf hfl (hfr.sub (Nat.le_refl _) h3) fun a' w' G' hp ht' hdf' => ?_
    exact h4 B w' G' a' Q hp.memr ht' hdf' (Nat.le_trans hfl h1) (hp.free hfr) (KO.after hm hp hfl hK)
  | ex i ts1 n1 m1 =>
    rw [ho] at hne h1 h2
    exact ⟨h1, fun B w G a Q hm ht hdf hfl hfr hK => wp_seq (h2 B w G a _ hm ht hdf hfl hfr fun a' w' G' hp ht' hdf' => hK a' w' G' hp ht' hdf')⟩
  | ret ts1 n1 m1 =>
    rw [ho] at hne h1 h2
    exact ⟨h1, fun B w G a Q hm ht hdf hfl hfr hK => wp_seq (h2 B w G a _ hm ht hdf hfl hfr fun a' w' G' hp ht' hdf' => hK a' w' G' hp ht' hdf')⟩
theorem cond_ok {c : Operand} {x y : Code} {f g : K} (hf : ExOK P nt x f) (hg : ExOK P nt y g) : ExOK P nt (.cond c x y) (cCond c f g) := by
  intro call fl ts n m hc hne
  have e : cCond c f g P call fl ts n m = cnd (evo ts c) (f P call fl ts n m) (g P call fl ts n m) := rfl
  rw [e] at hne ⊢
  cases hv : evo ts c with
  | bool t =>
    rw [hv] at hne
    have key : ∀ a : Act, ∀ G, TR G ts nt a → a.eval c = .bool t := fun a G ht => by have := evo_ok ht c; rw [hv] at this; exact i_bool this
    cases t with
    | true =>
      obtain ⟨h1, h2⟩ := hf call fl ts n m hc hne
      exact ⟨h1, fun B w G a Q hm ht hdf hfl hfr hK => wp_cond_true (key a G ht) (h2 B w G a Q hm ht hdf hfl hfr hK)⟩
    | false =>
      obtain ⟨h1, h2⟩ := hg call fl ts n m hc hne
      exact ⟨h1, fun B w G a Q hm ht hdf hfl hfr hK => wp_cond_false (key a G ht) (h2 B w G a Q hm ht hdf hfl hfr hK)⟩
  | _ => rw [hv] at hne; exact absurd rfl hne
theorem blk_ok {i : Nat} {x : Code} {f : K} (hf : ExOK P nt x f) : ExOK P nt (.block i x) (cBlk i f) := by
  intro call fl ts n m hc hne
  have e : cBlk i f P call fl ts n m = blkO i (f P call fl ts n m) := rfl
  rw [e] at hne ⊢
  have hfn : f P call fl ts n m ≠ .fail := fun h => hne (by rw [h]; rfl)
  obtain ⟨h1, h2⟩ := hf call fl ts n m hc hfn
  cases ho : f P call fl ts n m with
  | fail => exact absurd ho hfn
  | nrm ts1 n1 m1 =>
    rw [ho] at hne h1 h2
    exact ⟨h1, fun B w G a Q hm ht hdf hfl hfr hK => wp_block (h2 B w G a _ hm ht hdf hfl hfr fun a' w' G' hp ht' hdf' => hK a' w' G' hp ht' hdf')⟩
  | ret ts1 n1 m1 =>
    rw [ho] at hne h1 h2
    exact ⟨h1, fun B w G a Q hm ht hdf hfl hfr hK => wp_block (h2 B w G a _ hm ht hdf hfl hfr fun a' w' G' hp ht' hdf' => hK a' w' G' hp ht' hdf')⟩
  | ex j ts1 n1 m1 =>
    rw [ho] at hne h1 h2
    have e2 : blkO i (.ex j ts1 n1 m1) = Bool.rec (motive := fun _ => Out) (Out.ex j ts1 n1 m1) (Out.nrm ts1 n1 m1) (Nat.beq j i) := rfl
    rw [e2] at hne ⊢
    cases hj : Nat.beq j i with
    | true =>
      have hj' := Nat.eq_of_beq_eq_true hj
      refine ⟨h1, fun B w G a Q hm ht hdf hfl hfr hK => wp_block (h2 B w G a _ hm ht hdf hfl hfr fun a' w' G' hp ht' hdf' => ?_)⟩
      show (if j = i then Q .normal a' w' else Q (.exit j) a' w')
      rw [if_pos hj']
      exact hK a' w' G' hp ht' hdf'
    | false =>
      have hj' : j ≠ i := fun e => by subst e; rw [Nat.beq_refl] at hj; cases hj
      refine ⟨h1, fun B w G a Q hm ht hdf hfl hfr hK => wp_block (h2 B w G a _ hm ht hdf hfl hfr fun a' w' G' hp ht' hdf' => ?_)⟩
      show (if j = i then Q .normal a' w' else Q (.exit j) a' w')
      rw [if_neg hj']
      exact hK a' w' G' hp ht' hdf'
/-- a loop, by how many rounds it still goes -/
theorem wp_loop_n {Q : Exit → Act → World → Prop} {c : Code} (I : Nat → Act → World → Prop) (round : ∀ n a w, I n a w → c.wp P (Exit.then (fun a' w' => ∃ k, k < n ∧ I k a' w') Q) a w) {n : Nat} {a : Act} {w : World} (h0 : I n a w) : (Code.loop c).wp P Q a w := by
  intro b k cs
  have key : ∀ n a w, I n a w → ∃ e a' w', Q e a' w' ∧ Arrives P (lone (b.at a (.code c :: .inLoop c :: k)) cs w) b k cs e a' w' := by
    intro n
    induction n using Nat.strongRecOn with
    | _ n ih =>
      intro a w hI
      obtain ⟨e, a₁, w₁, hq, harr⟩ := round n a w hI b (.inLoop c :: k) cs
      cases e with
      | normal =>
        obtain ⟨j, hlt, hI₁⟩ := hq
        obtain ⟨e₂, a₂, w₂, hq₂, harr₂⟩ := ih j hlt a₁ w₁ hI₁
        exact ⟨e₂, a₂, w₂, hq₂, .of_steps (Steps.trans harr (.one step_inLoop)) harr₂⟩
      | exit id => exact ⟨_, a₁, w₁, hq, .pass (x := .inLoop c) rfl (fun _ _ => .inl (by simp)) harr⟩
      | goto l => exact ⟨_, a₁, w₁, hq, .pass (x := .inLoop c) rfl (fun _ _ => .inl (by simp)) harr⟩
      | ret => exact ⟨_, a₁, w₁, hq, .pass (x := .inLoop c) rfl (fun _ _ => .inl (by simp)) harr⟩
      | panic ch => exact ⟨_, a₁, w₁, hq, .pass (x := .inLoop c) rfl (fun _ _ => .inl (by simp)) harr⟩
      | outgrown => exact ⟨_, a₁, w₁, hq, .pass (x := .inLoop c) rfl (fun _ _ => .inl (by simp)) harr⟩
  obtain ⟨e, a', w', hq, harr⟩ := key n a w h0
  exact ⟨e, a', w', hq, .of_steps (.one step_loop) harr⟩
theorem loopR_le {x : Code} {f : K} (hf : ExOK P nt x f) {call : CallT} {fl : Nat} (hc : CallOK P call) : ∀ (fuel : Nat) (ts : T) (n : Nat) (m : M), loopR fuel (f P call fl) ts n m ≠ .fail → n ≤ nOf (loopR fuel (f P call fl) ts n m)
  | 0, ts, n, m, h => absurd rfl h
  | fuel + 1, ts, n, m, h => by
    have e : loopR (fuel + 1) (f P call fl) ts n m = thn (loopR fuel (f P call fl)) (f P call fl ts n m) := rfl
    rw [e] at h ⊢
    have hfn : f P call fl ts n m ≠ .fail := fun h' => h (by rw [h']; rfl)
    have h1 := (hf call fl ts n m hc hfn).1
    cases ho : f P call fl ts n m with
    | fail => exact absurd ho hfn
    | nrm ts1 n1 m1 =>
      rw [ho] at h h1
      exact Nat.le_trans h1 (loopR_le hf hc fuel ts1 n1 m1 h)
    | ex i ts1 n1 m1 => rw [ho] at h1; exact h1
    | ret ts1 n1 m1 => rw [ho] at h1; exact h1
theorem loop_ok {x : Code} {f : K} (hf : ExOK P nt x f) : ExOK P nt (.loop x) (cLoop f) := by
  intro call fl ts n m hc hne
  refine ⟨loopR_le hf hc 100000 ts n m hne, fun B w G a Q hm ht hdf hfl hfr hK => ?_⟩
  refine wp_loop_n (n := 100000) (fun fuel a w => ∃ ts1 n1 m1 G1, loopR fuel (f P call fl) ts1 n1 m1 ≠ .fail ∧ MemR B w G1 n1 m1 ∧ TR G1 ts1 nt a ∧ a.defers = [] ∧ fl ≤ n1 ∧ Free G1 n1 (nOf (loopR fuel (f P call fl) ts1 n1 m1)) ∧ KO fl B n1 m1 w G1 nt Q (loopR fuel (f P call fl) ts1 n1 m1)) ?_ ⟨ts, n, m, G, hne, hm, ht, hdf, hfl, hfr, hK⟩
  intro fuel a w ⟨ts, n, m, G, hne, hm, ht, hdf, hfl, hfr, hK⟩
  cases fuel with
  | zero => exact absurd rfl hne
  | succ fuel =>
    have e : loopR (fuel + 1) (f P call fl) ts n m = thn (loopR fuel (f P call fl)) (f P call fl ts n m) := rfl
    rw [e] at hne hfr hK
    have hfn : f P call fl ts n m ≠ .fail := fun h' => hne (by rw [h']; rfl)
    obtain ⟨h1, h2⟩ := hf call fl ts n m hc hfn
    cases ho : f P call fl ts n m with
    | fail => exact absurd ho hfn
    | nrm ts1 n1 m1 =>
      rw [ho] at hne h1 h2 hfr hK
      have hle := loopR_le hf hc fuel ts1 n1 m1 hne
      have hfr : Free G n (nOf (loopR fuel (f P call fl) ts1 n1 m1)) := hfr
      refine h2 B w G a _ hm ht hdf hfl (hfr.sub (Nat.le_refl _) hle) fun a' w' G' hp ht' hdf' => ?_
      exact ⟨fuel, Nat.lt_succ_self _, ts1, n1, m1, G', hne, hp.memr, ht', hdf', Nat.le_trans hfl h1, hp.free hfr, KO.after hm hp hfl hK⟩
    | ex i ts1 n1 m1 =>
      rw [ho] at hne h1 h2 hfr hK
      exact h2 B w G a _ hm ht hdf hfl hfr fun a' w' G' hp ht' hdf' => hK a' w' G' hp ht' hdf'
    | ret ts1 n1 m1 =>
      rw [ho] at hne h1 h2 hfr hK
      exact h2 B w G a _ hm ht hdf hfl hfr fun a' w' G' hp ht' hdf' => hK a' w' G' hp ht' hdf'
theorem scope_ok {x : Code} {f : K} (hf : ExOK P nt x f) : ExOK P nt (.scope x) f := by
  intro call fl ts n m hc hne
  obtain ⟨h1, h2⟩ := hf call fl ts n m hc hne
  refine ⟨h1, fun B w G a Q hm ht hdf hfl hfr hK => wp_scope_straight (h2 B w G a _ hm ht hdf hfl hfr ?_)⟩
  cases ho : f P call fl ts n m with
  | fail => exact absurd ho hne
  | _ => rw [ho] at hK; exact fun a' w' G' hp ht' hdf' => hK a' w' G' hp ht' hdf'
end
end Go.Proofs.YtbpjinefbnlenaaGreatDoor.E
