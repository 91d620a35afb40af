/- An exact machine, part 6: literals and new blocks. -/
import Derived.Test.YtpmgggfjmkpleaaGreatDoorE5
import Derived.Laws.MakeOwn
namespace Go.Proofs.YtpmgggfjmkpleaaGreatDoor.E
open Go Go.RowKit
set_option linter.unusedVariables false

section
variable {P : Program} {o : Oper} {ts : T} {v : V}
theorem fold_set : ∀ (vs : List Value) (j off : Nat) (cells : Array Value) (c1 c2 c3 : List Value), cells.toList = c1 ++ c2 ++ c3 → c1.length = off + j → c2.length = vs.length →
    ((vs.zipIdx j).foldl (fun cs (x : Value × Nat) => cs.setIfInBounds (off + x.2) x.1) cells).toList = c1 ++ vs ++ c3
  | [], j, off, cells, c1, c2, c3, h, _, h2 => by
    obtain rfl : c2 = [] := List.length_eq_zero_iff.1 h2
    simpa using h
  | v :: vs, j, off, cells, c1, c2, c3, h, h1, h2 => by
    match c2, h2 with
    | x :: c2, h2 =>
      rw [List.zipIdx_cons, List.foldl_cons]
      have := fold_set vs (j + 1) off (cells.setIfInBounds (off + j) v) (c1 ++ [v]) c2 c3 (by
        rw [Array.toList_setIfInBounds, h, ← h1]
        simp) (by simp; omega) (by simpa using h2)
      simpa using this
/-- parts laid into a row of cells -/
noncomputable def fill1 (pl : Option (Nat × Nat)) (x : Option (List V)) (acc : List V) (k : List V → Option (List V)) : Option (List V) :=
  match pl, x with
  | some (off, n), some l => match Nat.beq l.length n && Nat.ble (off + n) acc.length with
    | true => k (setR acc off l)
    | false => none
  | _, _ => none
noncomputable def fillO (pl : Nat → Option (Nat × Nat)) (ts : T) (l : List (Nat × Operand)) : List V → Option (List V) :=
  List.rec (fun acc => some acc) (fun p _ ih acc => fill1 (pl p.1) (flat (evo ts p.2)) acc ih) l
theorem fillO_ok {G : Gh} {a : Act} (pl : Nat → Option (Nat × Nat)) : ∀ (l : List (Nat × Operand)) (acc r : List V) (cells : Array Value), (∀ p ∈ l, CR G (evo ts p.2) (a.eval p.2)) → fillO pl ts l acc = some r → L1 G acc cells.toList →
    ∃ cells', Instr.fill pl cells (l.map fun (i, x) => (i, a.eval x)) = some cells' ∧ L1 G r cells'.toList
  | [], acc, r, cells, _, h, hc => by obtain rfl := Option.some.inj h; exact ⟨cells, rfl, hc⟩
  | (i, x) :: l, acc, r, cells, hm, h, hc => by
    have h : fill1 (pl i) (flat (evo ts x)) acc (fillO pl ts l) = some r := h
    unfold fill1 at h
    split at h
    · rename_i off n xs hp hf
      split at h
      · rename_i hb
        rw [Bool.and_eq_true] at hb
        have b1 := Nat.eq_of_beq_eq_true hb.1
        have b2 := Nat.le_of_ble_eq_true hb.2
        have hx := flat_ok hf (hm (i, x) (by simp))
        have hsz : (a.eval x).cells.size = n := by rw [← b1, ← hx.lr.1]; simp
        have hcl : cells.size = acc.length := by rw [← hc.lr.1]; simp
        have e2 := fold_set (a.eval x).cells.toList 0 off cells (cells.toList.take off) ((cells.toList.drop off).take n) (cells.toList.drop (off + n)) (by
          rw [List.append_assoc, ← List.drop_drop, List.take_append_drop, List.take_append_drop]) (by simp; omega) (by simp; omega)
        have e3 : ((a.eval x).cells.zipIdx.foldl (fun cs (y : Value × Nat) => cs.setIfInBounds (off + y.2) y.1) cells) = (((a.eval x).cells.toList.zipIdx 0).foldl (fun cs (x : Value × Nat) => cs.setIfInBounds (off + x.2) x.1) cells) := by
          rw [← Array.foldl_toList, Array.toList_zipIdx]
        have hs := hc.setR off hx
        rw [show (a.eval x).cells.toList.length = n by simpa using hsz] at hs
        obtain ⟨cells', h4, h5⟩ := fillO_ok pl l _ r ((a.eval x).cells.zipIdx.foldl (fun cs (y : Value × Nat) => cs.setIfInBounds (off + y.2) y.1) cells) (fun p hp => hm p (by simp [hp])) h (by rw [e3, e2]; exact hs)
        refine ⟨cells', ?_, h5⟩
        simp only [List.map_cons, Instr.fill, hp]
        rw [if_neg (by simp only [Bool.or_eq_true, decide_eq_true_eq, not_or]; exact ⟨fun h => h hsz, by omega⟩)]
        exact h4
      · cases h
    · cases h
def placeS (P : Program) (fs : List Field) (i : Nat) : Option (Nat × Nat) := match fs[i]? with | some f => (match sz P f.type with | some n => some (f.offset, n) | none => none) | none => none
def allSz (P : Program) : List Field → Bool
  | [] => true
  | f :: l => match sz P f.type with | some _ => allSz P l | none => false
noncomputable def pBuild (P : Program) (t : TypeId) (ps : List (Nat × Operand)) (ts : T) : Option V :=
  match P.underlying t, zc P t with
  | some (.struct fs), some z => match allSz P fs.toList, fillO (placeS P fs.toList) ts ps z with | true, some l => some (.agg l) | _, _ => none
  | some (.array _ e), some z => match sz P e with
    | some k => (match fillO (fun i => some (i * k, k)) ts ps z with | some l => some (.agg l) | none => none)
    | none => none
  | _, _ => none
theorem places_run {w : World} : ∀ (fs : List Field), allSz P fs = true → ∃ ps : List (Nat × Nat), (fs.mapM (m := Sem) fun f => do pure (f.offset, ← sizeOf f.type)).run P w = .ok ps w ∧ ∀ i, ps[i]? = placeS P fs i
  | [], _ => ⟨[], rfl, fun i => by simp [placeS]⟩
  | f :: l, h => by
    unfold allSz at h
    split at h
    · rename_i k hk
      obtain ⟨ps, h1, h2⟩ := places_run (w := w) l h
      refine ⟨(f.offset, k) :: ps, ?_, fun i => ?_⟩
      · rw [List.mapM_cons]
        simp only [Sem.run_bind, sz_run hk, Result.andThen_ok, Sem.run_pure, h1]
      · cases i with
        | zero => simp [placeS, hk]
        | succ i => simpa [placeS] using h2 i
    · cases h
theorem build_ok {t : TypeId} {ps : Array (Nat × Operand)} (ho : o.op = .build t ps) (h : pBuild P t ps.toList ts = some v) : PureOK P o ts v := by
  intro G a w ha
  rw [ho] at ha
  have hm : ∀ p ∈ ps.toList, CR G (evo ts p.2) (a.eval p.2) := fun p hp => ha p.2 (by
    simp only [Op.operands]
    simp only [List.mem_map]
    exact ⟨p, hp, rfl⟩)
  have hmap : (ps.map fun (i, x) => (i, a.eval x)).toList = ps.toList.map fun (i, x) => (i, a.eval x) := by simp
  unfold pBuild at h
  split at h
  · rename_i fs z hu hz
    split at h
    · rename_i l hal hf
      obtain rfl := Option.some.inj h
      obtain ⟨zv, hzr, hzl⟩ := zc_run (w := w) hz
      obtain ⟨pls, hp1, hp2⟩ := places_run (w := w) fs.toList hal
      obtain ⟨cells, h1, h2⟩ := fillO_ok (G := G) (a := a) _ _ _ _ zv.cells hm hf (hzl G)
      refine ⟨.agg cells, ?_, by have := agg_of h2; simpa using this⟩
      have hp3 : (fs.mapM (m := Sem) fun f => do pure (f.offset, ← sizeOf f.type)).run P w = .ok pls.toArray w := by
        rw [Array.mapM_eq_mapM_toList]
        show ((fs.toList.mapM (m := Sem) fun f => do pure (f.offset, ← sizeOf f.type)) >>= fun l => pure l.toArray).run P w = _
        rw [Sem.run_bind, hp1, Result.andThen_ok, Sem.run_pure]
      have e4 : (fun i => pls.toArray[i]?) = placeS P fs.toList := by funext i; rw [← hp2 i]; simp
      simp only [execOp, ho, Instr.build, Sem.run_bind, hzr, Result.andThen_ok, run_underlying hu, hp3, e4, hmap, h1]
      rfl
    · cases h
  · rename_i k e z hu hz
    split at h
    · rename_i s hs
      split at h
      · rename_i l hf
        obtain rfl := Option.some.inj h
        obtain ⟨zv, hzr, hzl⟩ := zc_run (w := w) hz
        obtain ⟨cells, h1, h2⟩ := fillO_ok (G := G) (a := a) _ _ _ _ zv.cells hm hf (hzl G)
        refine ⟨.agg cells, ?_, by have := agg_of h2; simpa using this⟩
        simp only [execOp, ho, Instr.build, Sem.run_bind, hzr, Result.andThen_ok, run_underlying hu, sz_run hs, hmap, h1]
        rfl
      · cases h
    · cases h
  · cases h
/-! new blocks -/
def NewOK (P : Program) (o : Oper) (ts : T) (n : Nat) (v : V) (b : Bk) : Prop :=
  ∀ (G : Gh) (a : Act) (w : World), ORel G o.op ts a → ∃ x ob, (execOp a.eval o).run P w = .ok (.value x) (w.alloc ob) ∧ ∀ G', Ext G G' → G'.al n → G'.ρ n = w.heap.size → BkR (w.alloc ob) G' n b ∧ CR G' v x
theorem bk_cells {w : World} {G G' : Gh} {n : Nat} {t : TypeId} {l : List V} {cs : Array Value} (hl : L1 G l cs.toList) (he : Ext G G') (hr : G'.ρ n = w.heap.size) : BkR (w.alloc (.cells cs t)) G' n (.cells t l none) := by
  refine ⟨cs.toList, [], (0, 0), ?_, .inl rfl, hl.ext he, fun _ => rfl, fun s hs => by cases hs⟩
  rw [hr, heap_alloc_new]
  simp
theorem run_newVar' {P : Program} {w : World} (t : TypeId) (v : Value) : (newVar t v).run P w = .ok ⟨w.heap.size, 0, none⟩ (w.alloc (.cells v.cells t)) := by
  unfold newVar newRow newObj
  simp only [Sem.run_bind]
  rfl
theorem run_newRow' {P : Program} {w : World} (t : TypeId) (cs : Array Value) : (newRow t cs).run P w = .ok ⟨w.heap.size, 0, none⟩ (w.alloc (.cells cs t)) := by
  unfold newRow newObj
  simp only [Sem.run_bind]
  rfl
theorem alloc_ok {t : TypeId} {l : List V} (n : Nat) (ho : o.op = .alloc t) (h : zc P t = some l) : NewOK P o ts n (.ptr n 0) (.cells t l none) := by
  intro G a w ha
  obtain ⟨z, hz, hl⟩ := zc_run (w := w) h
  refine ⟨.pointer (some ⟨w.heap.size, 0, none⟩), .cells z.cells t, by simp only [execOp, ho, Instr.alloc, Sem.run_bind, hz, Result.andThen_ok, run_newVar', Sem.run_pure], fun G' he hal hr => ⟨bk_cells (hl G) he hr, ?_⟩⟩
  rw [← hr]
  exact .ptr n 0 hal
theorem box_ok {t : TypeId} {x : Operand} {l : List V} (n : Nat) (ho : o.op = .box t x) (h : flat (evo ts x) = some l) : NewOK P o ts n (.ptr n 0) (.cells t l none) := by
  intro G a w ha
  rw [ho] at ha
  have hl := flat_ok h (ha x (by simp [Op.operands]))
  refine ⟨.pointer (some ⟨w.heap.size, 0, none⟩), .cells (a.eval x).cells t, by simp only [execOp, ho, Instr.box, Sem.run_bind, Result.andThen_ok, run_newVar', Sem.run_pure], fun G' he hal hr => ⟨bk_cells hl he hr, ?_⟩⟩
  rw [← hr]
  exact .ptr n 0 hal
def repL (l : List V) : Nat → List V
  | 0 => []
  | n + 1 => l ++ repL l n
theorem made_get (z : Array Value) (N i : Nat) : (madeCells z N).toList[i]? = if i < N then some (z[i % z.size]!) else none := by
  unfold madeCells
  rw [Array.getElem?_toList, Array.getElem?_map]
  by_cases h : i < N
  · simp [h]
  · simp [h]
theorem made_ok {G : Gh} {l : List V} {z : Array Value} (hl : L1 G l z.toList) (h0 : 0 < z.size) : ∀ n, L1 G (repL l n) (madeCells z (n * z.size)).toList
  | 0 => by
    have : (madeCells z (0 * z.size)).toList = [] := List.length_eq_zero_iff.1 (by rw [Array.length_toList, size_madeCells]; omega)
    rw [this]; exact .nil
  | n + 1 => by
    have e : (madeCells z ((n + 1) * z.size)).toList = z.toList ++ (madeCells z (n * z.size)).toList := by
      apply List.ext_getElem?
      intro i
      rw [made_get]
      rcases Nat.lt_or_ge i z.size with h | h
      · rw [List.getElem?_append_left (by rw [Array.length_toList]; omega), Nat.mod_eq_of_lt (by omega), if_pos (by rw [Nat.succ_mul]; omega), Array.getElem?_toList]
        simp [h]
      · rw [List.getElem?_append_right (by rw [Array.length_toList]; omega), made_get, Array.length_toList]
        have e1 : i % z.size = (i - z.size) % z.size := by rw [Nat.mod_eq_sub_mod h]
        have e2 : (i < (n + 1) * z.size) = (i - z.size < n * z.size) := by rw [Nat.succ_mul]; apply propext; omega
        rw [e1]
        simp only [e2]
    rw [e]
    exact hl.append (made_ok hl h0 n)
noncomputable def pBuildS (P : Program) (t : TypeId) (k : Nat) (ps : List (Nat × Operand)) (ts : T) (n : Nat) : Option (V × Bk) :=
  match P.underlying t with
  | some (.slice e) => match sz P e, zc P e with
    | some s, some z => match Nat.beq z.length s && (Nat.blt 0 s && Nat.ble (k * s) 1000000) with
      | true => (match fillO (fun i => some (i * s, s)) ts ps (repL z k) with | some l => some (.sl n 0 k k false, .cells e l none) | none => none)
      | false => none
    | _, _ => none
  | _ => none
theorem bs_ok {t : TypeId} {k n : Nat} {ps : Array (Nat × Operand)} {b : Bk} (ho : o.op = .buildSlice t k ps) (h : pBuildS P t k ps.toList ts n = some (v, b)) : NewOK P o ts n v b := by
  intro G a w ha
  rw [ho] at ha
  have hm : ∀ p ∈ ps.toList, CR G (evo ts p.2) (a.eval p.2) := fun p hp => ha p.2 (by
    simp only [Op.operands]
    simp only [List.mem_map]
    exact ⟨p, hp, rfl⟩)
  have hmap : (ps.map fun (i, x) => (i, a.eval x)).toList = ps.toList.map fun (i, x) => (i, a.eval x) := by simp
  unfold pBuildS at h
  split at h
  · rename_i e hu
    split at h
    · rename_i s z hs hz
      split at h
      · rename_i hb
        simp only [Bool.and_eq_true] at hb
        obtain ⟨b1, b2, b3⟩ := hb
        have b1 := Nat.eq_of_beq_eq_true b1
        have b2 : 0 < s := Nat.le_of_ble_eq_true b2
        have b3 := Nat.le_of_ble_eq_true b3
        split at h
        · rename_i l hf
          simp only [Option.some.injEq, Prod.mk.injEq] at h
          obtain ⟨rfl, rfl⟩ := h
          obtain ⟨zv, hzr, hzl⟩ := zc_run (w := w) hz
          have hzs : zv.cells.size = s := by rw [← b1, ← (hzl G).lr.1]; simp
          have hmd := made_ok (hzl G) (by omega) k
          rw [hzs] at hmd
          obtain ⟨cells, h1, h2⟩ := fillO_ok (G := G) (a := a) _ _ _ _ (madeCells zv.cells (k * s)) hm hf hmd
          refine ⟨.slice (some ⟨w.heap.size, 0, none⟩) k k, .cells cells e, ?_, fun G' he hal hr => ⟨bk_cells h2 he hr, ?_⟩⟩
          · have h24 : ¬ k * s > 2 ^ 24 := by have : (2 : Nat) ^ 24 = 16777216 := by decide
                                              omega
            simp only [execOp, ho, Instr.buildSlice, Sem.run_bind, run_underlying hu, Result.andThen_ok, sz_run hs]
            rw [if_neg h24]
            by_cases h0 : k * s = 0
            · have e0 : madeCells zv.cells (k * s) = (Array.range (k * s)).map (fun i => (#[] : Array Value)[i % (#[] : Array Value).size]!) := by
                rw [h0]; simp [madeCells]
              rw [e0] at h1
              simp only [h0, if_true, Sem.run_bind, Sem.run_pure, Result.andThen_ok] at h1 ⊢
              rw [hmap, h1]
              simp only [Sem.run_bind, run_newRow', Result.andThen_ok, Sem.run_pure]
            · simp only [h0, if_false, Sem.run_bind, hzr, Sem.run_pure, Result.andThen_ok]
              rw [hmap]
              unfold madeCells at h1
              rw [h1]
              simp only [Sem.run_bind, run_newRow', Result.andThen_ok, Sem.run_pure]
          · rw [← hr]
            exact .sl n 0 k k false hal (Nat.le_refl _)
        · cases h
      · cases h
    · cases h
  · cases h
noncomputable def pMakeS (P : Program) (t : TypeId) (x y : V) (n : Nat) : Option (V × Bk) :=
  vInt none x fun _ i => vInt none y fun _ c => match P.underlying t with
    | some (.slice e) => match P.info? e, zc P e with
      | some inf, some z => match Nat.beq z.length inf.size && (Nat.blt 0 inf.size && (Nat.ble inf.bytes 16384 && (ile 0 i && (ile i c && ile c 1000000)))) with
        | true => some (.sl n 0 i.toNat c.toNat false, .cells e (repL z c.toNat) none)
        | false => none
      | _, _ => none
    | _ => none
theorem ms_ok {t : TypeId} {x y : Operand} {n : Nat} {b : Bk} (ho : o.op = .makeSlice t x y) (h : pMakeS P t (evo ts x) (evo ts y) n = some (v, b)) : NewOK P o ts n v b := by
  intro G a w ha
  rw [ho] at ha
  have hx := ha x (by simp [Op.operands])
  have hy := ha y (by simp [Op.operands])
  obtain ⟨k, i, e, h⟩ := vInt_some h
  obtain ⟨k', c, e', h⟩ := vInt_some h
  rw [e] at hx
  rw [e'] at hy
  have ex := i_int hx
  have ey := i_int hy
  split at h
  · rename_i el hu
    split at h
    · rename_i inf z hi hz
      split at h
      · rename_i hb
        simp only [Bool.and_eq_true, ile_eq, decide_eq_true_eq] at hb
        obtain ⟨b1, b2, b3, b4, b5, b6⟩ := hb
        have b1 := Nat.eq_of_beq_eq_true b1
        have b2 : 0 < inf.size := Nat.le_of_ble_eq_true b2
        have b3 := Nat.le_of_ble_eq_true b3
        simp only [Option.some.injEq, Prod.mk.injEq] at h
        obtain ⟨rfl, rfl⟩ := h
        unfold zc at hz
        rw [hi] at hz
        simp only at hz
        split at hz
        · rename_i zv hzv
          split at hz
          case h_2 => cases hz
          rename_i hone
          obtain rfl := Option.some.inj hz
          have hzl : L1 G _ zv.cells.toList := ⟨cvs_ok G zv.cells.toList, List.all_eq_true.1 hone⟩
          have hzs : zv.cells.size = inf.size := by rw [← b1]; simp
          have hby : (inf.bytes : Int) * c ≤ 281474976710656 := by
            have h1 : (inf.bytes : Int) * c ≤ 16384 * c := Int.mul_le_mul_of_nonneg_right (by omega) (by omega)
            omega
          have hr := run_make (P := P) w t el inf zv hu hi hzv k k' i c b4 b5 hby (by omega)
          rw [← hzs] at hr
          refine ⟨.slice (some ⟨w.heap.size, 0, none⟩) i.toNat c.toNat, .cells (madeCells zv.cells (c.toNat * zv.cells.size)) el, by simp only [execOp, ho, ex, ey, Sem.run_bind, hr, Result.andThen_ok, Sem.run_pure], fun G' he hal hq => ⟨bk_cells (made_ok hzl (by omega) c.toNat) he hq, ?_⟩⟩
          rw [← hq]
          exact .sl n 0 i.toNat c.toNat false hal (by show i.toNat ≤ c.toNat; omega)
        · cases hz
      · cases h
    · cases h
  · cases h
theorem mm_ok {t : TypeId} {n : Nat} (ho : o.op = .makeMap t none) : NewOK P o ts n (.mp n) (.map []) := by
  intro G a w ha
  refine ⟨.map (some w.heap.size), .map #[] 0, ?_, fun G' he hal hr => ⟨⟨[], 0, by rw [hr, heap_alloc_new], rfl⟩, ?_⟩⟩
  · simp only [execOp, ho, Option.map_none, Instr.makeMap, newObj, Sem.run_bind, Sem.run, Result.andThen]
    rfl
  · rw [← hr]; exact .mp n hal
theorem rg_ok {t : TypeId} {x : Operand} {n : Nat} {s : List UInt8} (ho : o.op = .range t x) (h : evo ts x = .str s) (hu : P.underlying t = some .string) : NewOK P o ts n (.ptr n 0) (.iter s 0) := by
  intro G a w ha
  rw [ho] at ha
  have hx := ha x (by simp [Op.operands])
  rw [h] at hx
  have ex := i_str hx
  refine ⟨.pointer (some ⟨w.heap.size, 0, none⟩), .stringIter ⟨s.toArray⟩ 0, ?_, fun G' he hal hr => ⟨?_, ?_⟩⟩
  · simp only [execOp, ho, ex, Instr.range, Sem.run_bind, run_underlying hu, Result.andThen_ok, Sem.run_pure, newObj, Sem.run, Result.andThen]
    rfl
  · show _ = _
    rw [hr, heap_alloc_new]
  · rw [← hr]; exact .ptr n 0 hal
end
end Go.Proofs.YtpmgggfjmkpleaaGreatDoor.E
