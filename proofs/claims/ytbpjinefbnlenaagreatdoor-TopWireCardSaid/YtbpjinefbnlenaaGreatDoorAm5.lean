/- A machine of values, part 5: operations that look into memory, and parts of values. -/
import Derived.Test.YtbpjinefbnlenaaGreatDoorAm4
namespace Go.Proofs.YtbpjinefbnlenaaGreatDoor
open Go Go.RowKit
set_option linter.unusedVariables false

theorem run_sz {P : Program} {w : World} {t : TypeId} {i : TypeInfo} (h : P.info? t = some i) : (sizeOf t).run P w = .ok i.size w := by
  have h1 : (typeInfo t).run P w = .ok i w := by
    unfold typeInfo program
    simp only [Sem.run_bind]
    simp only [Sem.run, h, Result.andThen]
    rfl
  unfold sizeOf
  simp only [Sem.run_bind, h1, Result.andThen_ok]
  rfl
theorem addr_add' (b off j : Nat) : (⟨b, off, none⟩ : Addr).add j = ⟨b, off + j, none⟩ := by
  unfold Addr.add
  split <;> simp_all
/-- these cells stand there -/
def At (w : World) (ad : Addr) (cs : List Value) : Prop := ad.spot = none ∧ ∀ j v, cs[j]? = some v → w.cell? ⟨ad.block, ad.off + j, none⟩ = some v
theorem At.sub {w : World} {b off : Nat} {c1 c2 c3 : List Value} (h : At w ⟨b, off, none⟩ (c1 ++ c2 ++ c3)) : At w ⟨b, off + c1.length, none⟩ c2 := by
  refine ⟨rfl, fun j v hj => ?_⟩
  have := h.2 (c1.length + j) v (by
    have hlt : j < c2.length := (List.getElem?_eq_some_iff.1 hj).1
    rw [List.append_assoc, List.getElem?_append_right (by omega), Nat.add_sub_cancel_left, List.getElem?_append_left hlt]; exact hj)
  show w.cell? ⟨b, off + c1.length + j, none⟩ = some v
  rw [Nat.add_assoc]
  exact this
/-- does a value of this type load as this? -/
def ldOk (P : Program) (t : TypeId) (c : AV) : Bool :=
  match P.underlying t with
  | none => false
  | some (.struct _) => c.agg && (match P.info? t with | some i => i.size == c.size | none => false)
  | some (.array _ _) => c.agg && (match P.info? t with | some i => i.size == c.size | none => false)
  | some _ => c.flat || (match c with | .unk => true | _ => false)
theorem ValR_agg {w : World} {G : Gh} {c : AV} (h : c.agg = true) {cs : List Value} (hc : CellsR w G c cs) : ValR w G c (.agg cs.toArray) := by
  cases c with
  | st a => exact ⟨_, rfl, hc⟩
  | arr n e l => exact ⟨_, rfl, hc⟩
  | _ => cases h
theorem ValR_flat {w : World} {G : Gh} {c : AV} (h : c.flat = true) {v : Value} (hc : CellsR w G c [v]) : ValR w G c v :=
  ValR.of0 ((ValR0.flat h).2 hc) (flat_tup h)
theorem flat_size {c : AV} (h : c.flat = true) : c.size = 1 := by cases c <;> first | rfl | cases h
theorem load_ok {P : Program} {w : World} {G : Gh} {t : TypeId} {c : AV} {ad : Addr} {cs : List Value} (hl : ldOk P t c = true) (hat : At w ad cs) (hc : CellsR w G c cs) :
    ∃ v, (Instr.loadAt t (.pointer (some ad))).run P w = .ok v w ∧ ValR w G c v := by
  obtain ⟨b, off, spot⟩ := ad
  obtain ⟨hs, hat⟩ := hat
  simp only at hs; subst hs
  have aggcase : ∀ i, (isAgg t).run P w = .ok true w → P.info? t = some i → i.size = c.size → c.agg = true → ∃ v, (Instr.loadAt t (.pointer (some ⟨b, off, none⟩))).run P w = .ok v w ∧ ValR w G c v := by
    intro i ha hi hz hg
    have hlen := CellsR.length c cs hc
    have hld := run_loadCells_list (P := P) w ⟨b, off, none⟩ cs (fun j v hj => by rw [addr_add']; exact hat j v hj)
    refine ⟨.agg cs.toArray, ?_, ValR_agg hg hc⟩
    simp only [Instr.loadAt, Instr.sureAddr, loadVar, Sem.run_bind, Sem.run_pure, Result.andThen_ok, ha, if_true, run_sz hi]
    rw [hz, ← hlen, hld]
    rfl
  have flatcase : (isAgg t).run P w = .ok false w → (c.flat = true ∨ c = .unk) → ∃ v, (Instr.loadAt t (.pointer (some ⟨b, off, none⟩))).run P w = .ok v w ∧ ValR w G c v := by
    intro ha hf
    have hlen := CellsR.length c cs hc
    have h1 : cs.length = 1 := by
      rcases hf with hf | hf
      · rw [hlen, flat_size hf]
      · subst hf; exact hlen
    obtain ⟨v, rfl⟩ := list_one h1
    have hv := hat 0 v rfl
    refine ⟨v, ?_, ?_⟩
    · simp only [Instr.loadAt, Instr.sureAddr, loadVar, Sem.run_bind, Sem.run_pure, Result.andThen_ok, ha, Bool.false_eq_true, if_false]
      simp only [load, Sem.run, Nat.add_zero] at hv ⊢
      simp only [hv]
    · rcases hf with hf | hf
      · exact ValR_flat hf hc
      · subst hf; trivial
  unfold ldOk at hl
  cases hu : P.underlying t with
  | none => rw [hu] at hl; cases hl
  | some d =>
    rw [hu] at hl
    cases d with
    | struct fs =>
      simp only [Bool.and_eq_true] at hl
      obtain ⟨hg, hi⟩ := hl
      cases hin : P.info? t with
      | none => rw [hin] at hi; cases hi
      | some i =>
        rw [hin] at hi
        exact aggcase i (by unfold isAgg; simp only [Sem.run_bind, run_underlying hu, Result.andThen_ok]; rfl) hin (by simpa using hi) hg
    | array n e =>
      simp only [Bool.and_eq_true] at hl
      obtain ⟨hg, hi⟩ := hl
      cases hin : P.info? t with
      | none => rw [hin] at hi; cases hi
      | some i =>
        rw [hin] at hi
        exact aggcase i (by unfold isAgg; simp only [Sem.run_bind, run_underlying hu, Result.andThen_ok]; rfl) hin (by simpa using hi) hg
    | _ =>
      refine flatcase (by unfold isAgg; simp only [Sem.run_bind, run_underlying hu, Result.andThen_ok]; rfl) ?_
      simp only [Bool.or_eq_true] at hl
      rcases hl with hl | hl
      · exact .inl hl
      · right; cases c <;> first | rfl | cases hl
/-- a block's contents -/
def blkAV : Blk → Option AV
  | .box _ c => some c
  | .row _ e l => some (.arr l.length e l)
  | .rowl _ e l none => some (.arr l.length e l)
  | _ => none
theorem blk_at {B : Nat} {w : World} {G : Gh} {i : Nat} {b : Blk} {c : AV} (h : BlkR B w G i b) (hc : blkAV b = some c) : ∃ cs, CellsR w G c cs ∧ ∀ j v, cs[j]? = some v → w.cell? ⟨(G.addr i).block, (G.addr i).off + j, none⟩ = some v := by
  cases b with
  | dead => cases hc
  | sav ts a => cases hc
  | bbuf t e l => cases hc
  | rowl t e l x =>
    cases x with
    | some y => cases hc
    | none =>
      simp only [blkAV, Option.some.injEq] at hc; subst hc
      obtain ⟨ha, c1, c2, hrow, hcat, hx⟩ := h
      obtain rfl : c2 = [] := hx
      exact ⟨c1, ⟨rfl, hcat⟩, fun j v hj => hrow.at ha (by rw [List.append_nil]; exact hj)⟩
  | iter s p => cases hc
  | map t k e l => cases hc
  | box t c' =>
    simp only [blkAV, Option.some.injEq] at hc; subst hc
    obtain ⟨h0, cs, h1, h2⟩ := h
    exact ⟨cs, h2, fun j v hj => by rw [h0, Nat.zero_add]; exact h1.cell hj⟩
  | row t e l =>
    simp only [blkAV, Option.some.injEq] at hc; subst hc
    obtain ⟨h0, cs, h1, h2⟩ := h
    refine ⟨cs, ⟨rfl, h2⟩, fun j v hj => ?_⟩
    rcases h1 with ⟨_, rfl, _⟩ | ⟨g, cap, rest, hv, hcap, _, ho, _⟩
    · simp at hj
    · have := h0 g (by rw [hv]; cases cap with | zero => omega | succ n => rfl)
      rw [this, Nat.zero_add]
      exact ho.cell hj
def evLoad (P : Program) (mem : List Blk) (t : TypeId) (p : AV) : Option (AV × Prop) :=
  match p with
  | .ptr b q =>
    match blkAV (lk mem b) with
    | some c =>
      match AV.get q c with
      | some (c', C) => if ldOk P t c' then some (c', C) else none
      | none => none
    | none =>
      match lk mem b, q with
      | .rowl _ e l (some (z, c)), .lst o :: q' =>
        match AV.get q' c with
        | some (c', C) => if ldOk P t c' then some (c', (z = true ∧ o = l.length * e.size) ∧ C) else none
        | none => none
      | _, _ => none
  | .pv c => if ldOk P t c then some (c, True) else none
  | _ => none
theorem val_ptr {w : World} {G : Gh} {b : Nat} {p : List Step} {v : Value} (h : ValR w G (.ptr b p) v) : v = .pointer (some ⟨(G.addr b).block, (G.addr b).off + offs p, none⟩) := by
  have h' : [v] = [Value.pointer (some ⟨(G.addr b).block, (G.addr b).off + offs p, none⟩)] := h
  simpa using h'
theorem val_pv {w : World} {G : Gh} {c : AV} {v : Value} (h : ValR w G (.pv c) v) : ∃ b off cells, v = .pointer (some ⟨b, off, none⟩) ∧ G.fz b ∧ b < w.heap.size ∧ CellsR w G c cells ∧ At w ⟨b, off, none⟩ cells := by
  obtain ⟨b, off, e, hf, hb, cells, hc, hx⟩ := (show CellsR w G (.pv c) [v] from h)
  exact ⟨b, off, cells, by simpa using e, hf, hb, hc, rfl, hx⟩
theorem mk_pv {w : World} {G : Gh} {c : AV} {b off : Nat} {cells : List Value} (hf : G.fz b) (hb : b < w.heap.size) (hc : CellsR w G c cells) (hat : At w ⟨b, off, none⟩ cells) : ValR w G (.pv c) (.pointer (some ⟨b, off, none⟩)) :=
  show CellsR w G (.pv c) [_] from ⟨b, off, rfl, hf, hb, cells, hc, hat.2⟩
theorem evLoad_ok {P : Program} {B : Nat} {w : World} {G : Gh} {mem : List Blk} {t : TypeId} {p c : AV} {C : Prop} {v : Value} (h : evLoad P mem t p = some (c, C)) (hC : C) (hm : MemR B w G mem) (hv : ValR w G p v) :
    ∃ r, (Instr.loadAt t v).run P w = .ok r w ∧ ValR w G c r := by
  unfold evLoad at h
  split at h
  · rename_i b q
    split at h
    · rename_i c0 hc0
      split at h
      · rename_i c' C' hget
        split at h
        · rename_i hl
          simp only [Option.some.injEq, Prod.mk.injEq] at h
          obtain ⟨rfl, rfl⟩ := h
          obtain ⟨cs, h1, h2⟩ := blk_at (hm.blk b) hc0
          obtain ⟨c1, c2, c3, rfl, hlen, h3⟩ := AV.get_ok q c0 c' C' cs hget hC h1
          rw [val_ptr hv]
          have hat := At.sub (w := w) (b := (G.addr b).block) (off := (G.addr b).off) (c1 := c1) (c2 := c2) (c3 := c3) ⟨rfl, h2⟩
          rw [hlen] at hat
          exact load_ok hl hat h3
        · cases h
      · cases h
    · split at h
      · rename_i T e l z c0 o q' hlk
        split at h
        · rename_i c' C' hget
          split at h
          · rename_i hl
            simp only [Option.some.injEq, Prod.mk.injEq] at h
            obtain ⟨rfl, rfl⟩ := h
            obtain ⟨⟨hz, ho⟩, hC⟩ := hC
            have hb := hm.blk b
            rw [hlk] at hb
            obtain ⟨ha, d1, d2, hrow, hcat, hx⟩ := hb
            obtain ⟨c1, c2, c3, rfl, hlen, h3⟩ := AV.get_ok q' c0 c' C' d2 hget hC (hx.1 hz)
            rw [val_ptr hv]
            have hd1 : d1.length = o := by rw [CatR.length (fun y c hy => ShR.length e y c hy) _ _ hcat, ho]
            have hat := At.sub (w := w) (b := (G.addr b).block) (off := (G.addr b).off) (c1 := d1 ++ c1) (c2 := c2) (c3 := c3) ⟨rfl, fun j v hj => hrow.at ha (by simpa [List.append_assoc] using hj)⟩
            rw [List.length_append, hd1, hlen] at hat
            exact load_ok hl hat h3
          · cases h
        · cases h
      · cases h
  · rename_i c0
    split at h
    · rename_i hl
      simp only [Option.some.injEq, Prod.mk.injEq] at h
      obtain ⟨rfl, rfl⟩ := h
      obtain ⟨b, off, cells, rfl, _, _, hc, hat⟩ := val_pv hv
      exact load_ok hl hat hc
    · cases h
  · cases h

/-- a field's offset -/
def fldOf (P : Program) (s : TypeId) (f : Nat) : Option Field :=
  match P.underlying s with
  | some (.struct fs) => fs[f]?
  | _ => none
def evFieldAddr (P : Program) (s : TypeId) (p : AV) (f : Nat) : Option AV :=
  match fldOf P s f with
  | some fd =>
    match P.info? fd.type with
    | some i =>
      if i.size = 0 then none else
      match p with
      | .ptr b q => some (.ptr b (q ++ [.fld f fd.offset]))
      | .pv (.st c) => (AV.fldGet f fd.offset c).map .pv
      | _ => none
    | none => none
  | none => none
theorem evFieldAddr_ok {P : Program} {w : World} {G : Gh} {s : TypeId} {p c : AV} {f : Nat} {v : Value} (h : evFieldAddr P s p f = some c) (hv : ValR w G p v) : ∃ r, (Instr.fieldAt s v f).run P w = .ok r w ∧ ValR w G c r := by
  unfold evFieldAddr at h
  split at h
  · rename_i fd hfd
    unfold fldOf at hfd
    split at hfd
    · rename_i fs hu
      split at h
      · rename_i i hi
        split at h
        · cases h
        · rename_i hz
          have hrun : ∀ b off, (Instr.fieldAt s (.pointer (some ⟨b, off, none⟩)) f).run P w = .ok (.pointer (some ⟨b, off + fd.offset, none⟩)) w := by
            intro b off
            simp only [Instr.fieldAt, Sem.run_bind, run_underlying hu, Result.andThen_ok, hfd, Instr.sureAddr, Sem.run_pure, fieldPlace, run_sz hi]
            rw [if_neg hz, addr_add']
            rfl
          split at h
          · rename_i b q
            simp only [Option.some.injEq] at h
            subst h
            rw [val_ptr hv]
            refine ⟨_, hrun _ _, ?_⟩
            show [Value.pointer _] = [Value.pointer _]
            rw [offs_append, Nat.add_assoc]
            rfl
          · rename_i c0
            simp only [Option.map_eq_some_iff] at h
            obtain ⟨c', hg, rfl⟩ := h
            obtain ⟨b, off, cells, rfl, hf, hb, hc, hat⟩ := val_pv hv
            obtain ⟨c1, c2, c3, rfl, hl, h2, _⟩ := fld_ok f fd.offset c0 c' cells hg hc
            refine ⟨_, hrun _ _, mk_pv hf hb h2 ?_⟩
            rw [← hl]
            exact hat.sub
          · cases h
      · cases h
    · cases hfd
  · cases h
/-- is the index in range? -/
def inR (i : Int) (n : Nat) : Prop := 0 ≤ i ∧ i < n
def evIndexAddr (P : Program) (mem : List Blk) (t : TypeId) (x ix : AV) : Option (AV × Prop) :=
  match ix with
  | .int k i =>
    match P.underlying t with
    | some (.slice el) =>
      match P.info? el with
      | some inf =>
        match x with
        | .sl e l => if inf.size = e.size then some (.pv (e.av (l.getD i.toNat e.dflt)), inR i l.length) else none
        | .row r =>
          match lk mem r with
          | .row _ e l => if inf.size = e.size then some (.ptr r [.idx i.toNat e.size], inR i l.length) else none
          | .rowl _ e l none => if inf.size = e.size then some (.ptr r [.idx i.toNat e.size], inR i l.length) else none
          | .rowl _ e l (some (z, _)) => if inf.size = e.size then some (.ptr r [.lst (i.toNat * e.size)], z = true ∧ i = l.length) else none
          | _ => none
        | _ => none
      | none => none
    | some (.array n el) =>
      match P.info? el with
      | some inf =>
        match x with
        | .ptr b q => some (.ptr b (q ++ [.idx i.toNat inf.size]), inR i n)
        | .pv (.arr m e l) => if inf.size = e.size ∧ m = n then some (.pv (e.av (l.getD i.toNat e.dflt)), inR i n) else none
        | _ => none
      | none => none
    | _ => none
  | _ => none
theorem cat_at {w : World} {fz : Nat → Prop} {e : Sh} {l : List e.T} {cells : List Value} {b off k : Nat} (h : CatR (ShR w fz e) l cells) (hk : k < l.length) (hat : At w ⟨b, off, none⟩ cells) :
    ∃ c2, ShR w fz e (l.getD k e.dflt) c2 ∧ At w ⟨b, off + k * e.size, none⟩ c2 := by
  obtain ⟨c1, c2, c3, rfl, hl, h2, _⟩ := CatR.at (fun x c hx => ShR.length e x c hx) h (getD_some (d := e.dflt) hk)
  refine ⟨c2, h2, ?_⟩
  rw [← hl]
  exact hat.sub
theorem evIndexAddr_ok {P : Program} {B : Nat} {w : World} {G : Gh} {mem : List Blk} {t : TypeId} {x ix c : AV} {C : Prop} {u v : Value} (h : evIndexAddr P mem t x ix = some (c, C)) (hC : C) (hm : MemR B w G mem) (hu : ValR w G x u) (hv : ValR w G ix v) :
    ∃ r, (Instr.indexAt t u v).run P w = .ok r w ∧ ValR w G c r := by
  unfold evIndexAddr at h
  split at h
  · rename_i k i
    rw [val_int hv]
    split at h
    · rename_i el hut
      split at h
      · rename_i inf hinf
        have hrun : ∀ (ad : Addr) (n cap : Nat), 0 ≤ i → i < (n : Int) → (Instr.indexAt t (.slice (some ad) n cap) (.int k i)).run P w = .ok (.pointer (some (ad.add (i.toNat * inf.size)))) w := by
          intro ad n cap h0 h1
          simp only [Instr.indexAt, asIntOf, Sem.run_bind, Sem.run_pure, Result.andThen_ok, run_underlying hut]
          rw [if_pos ⟨h0, h1⟩]
          simp only [Sem.run_bind, Sem.run_pure, Result.andThen_ok, run_sz hinf]
        split at h
        · rename_i e l
          split at h
          · rename_i hz
            simp only [Option.some.injEq, Prod.mk.injEq] at h
            obtain ⟨rfl, rfl⟩ := h
            obtain ⟨h0, h1⟩ := hC
            obtain ⟨ad, cap, e1, hlc, hcm, hx⟩ := (show ShR w G.fz (.sl e) l [u] from hu)
            obtain rfl : u = .slice ad l.length cap := by simpa using e1
            obtain ⟨b, off, cells, rfl, hf, hb, hcat, hcell⟩ := hx (by omega)
            obtain ⟨c2, h2, h3⟩ := cat_at (k := i.toNat) hcat (by omega) (⟨rfl, hcell⟩ : At w ⟨b, off, none⟩ cells)
            refine ⟨_, hrun _ _ _ h0 h1, ?_⟩
            rw [addr_add', hz]
            exact mk_pv hf hb ((CellsR.av e _ _).2 h2) h3
          · cases h
        · rename_i r
          split at h
          · rename_i tt e l hlk
            split at h
            · rename_i hz
              simp only [Option.some.injEq, Prod.mk.injEq] at h
              obtain ⟨rfl, rfl⟩ := h
              obtain ⟨h0, h1⟩ := hC
              obtain ⟨e1, _⟩ := (show [u] = [G.rowv r] ∧ _ from hu)
              obtain rfl : u = G.rowv r := by simpa using e1
              have hb := hm.blk r
              rw [hlk] at hb
              obtain ⟨ha, cs, hrow, _⟩ := hb
              rcases hrow with ⟨hn, _, _⟩ | ⟨g, cap, rest, hval, hcap, _, ho, _⟩
              · omega
              · have hg := ha g (by rw [hval]; cases cap with | zero => omega | succ n => rfl)
                rw [hval]
                refine ⟨_, hrun _ _ _ h0 h1, ?_⟩
                show [Value.pointer _] = [Value.pointer _]
                rw [addr_add', hg, hz]
                simp [offs]
            · cases h
          · rename_i tt e l hlk
            split at h
            · rename_i hz
              simp only [Option.some.injEq, Prod.mk.injEq] at h
              obtain ⟨rfl, rfl⟩ := h
              obtain ⟨h0, h1⟩ := hC
              obtain ⟨e1, _⟩ := (show [u] = [G.rowv r] ∧ _ from hu)
              obtain rfl : u = G.rowv r := by simpa using e1
              have hb := hm.blk r
              rw [hlk] at hb
              obtain ⟨ha, c1, c2, hrow, _⟩ := hb
              rcases hrow with ⟨hn, _, _⟩ | ⟨g, pre, cap, rest, hval, hcap, _, ho, _⟩
              · simp only [lstN] at hn; omega
              · have hg := ha g _ _ cap hval hcap
                rw [hval]
                refine ⟨_, hrun _ _ _ h0 (by simpa [lstN] using h1), ?_⟩
                show [Value.pointer _] = [Value.pointer _]
                rw [addr_add', hg, hz]
                simp [offs]
            · cases h
          · rename_i tt e l z c0 hlk
            split at h
            · rename_i hz
              simp only [Option.some.injEq, Prod.mk.injEq] at h
              obtain ⟨rfl, rfl⟩ := h
              obtain ⟨h0, h1⟩ := hC
              obtain ⟨e1, _⟩ := (show [u] = [G.rowv r] ∧ _ from hu)
              obtain rfl : u = G.rowv r := by simpa using e1
              have hb := hm.blk r
              rw [hlk] at hb
              obtain ⟨ha, c1, c2, hrow, _⟩ := hb
              have hN : lstN (some (z, c0)) = 1 := by rw [h0]; rfl
              rw [hN] at hrow
              rcases hrow with ⟨hn, _, _⟩ | ⟨g, pre, cap, rest, hval, hcap, _, ho, _⟩
              · omega
              · have hg := ha g _ _ cap hval hcap
                rw [hval]
                refine ⟨_, hrun _ _ _ (by omega) (by omega), ?_⟩
                show [Value.pointer _] = [Value.pointer _]
                rw [addr_add', hg, hz]
                simp [offs]
            · cases h
          · cases h
        · cases h
      · cases h
    · rename_i n el hut
      split at h
      · rename_i inf hinf
        have hrun : ∀ ad, 0 ≤ i → i < (n : Int) → (Instr.indexAt t (.pointer (some ad)) (.int k i)).run P w = .ok (.pointer (some (ad.add (i.toNat * inf.size)))) w := by
          intro ad h0 h1
          simp only [Instr.indexAt, asIntOf, Sem.run_bind, Sem.run_pure, Result.andThen_ok, run_underlying hut, Instr.sureAddr]
          rw [if_pos ⟨h0, h1⟩]
          simp only [Sem.run_bind, Sem.run_pure, Result.andThen_ok, run_sz hinf]
        split at h
        · rename_i b q
          simp only [Option.some.injEq, Prod.mk.injEq] at h
          obtain ⟨rfl, rfl⟩ := h
          obtain ⟨h0, h1⟩ := hC
          rw [val_ptr hu]
          refine ⟨_, hrun _ h0 h1, ?_⟩
          show [Value.pointer _] = [Value.pointer _]
          rw [addr_add', offs_append, Nat.add_assoc]
          rfl
        · rename_i m e l
          split at h
          · rename_i hz
            obtain ⟨hz, rfl⟩ := hz
            simp only [Option.some.injEq, Prod.mk.injEq] at h
            obtain ⟨rfl, rfl⟩ := h
            obtain ⟨h0, h1⟩ := hC
            obtain ⟨b, off, cells, rfl, hf, hb, hc, hat⟩ := val_pv hu
            obtain ⟨hlen, hcat⟩ := hc
            obtain ⟨c2, h2, h3⟩ := cat_at (k := i.toNat) hcat (by omega) hat
            refine ⟨_, hrun _ h0 h1, ?_⟩
            rw [addr_add', hz]
            exact mk_pv hf hb ((CellsR.av e _ _).2 h2) h3
          · cases h
        · cases h
      · cases h
    · cases h
  · cases h
end Go.Proofs.YtbpjinefbnlenaaGreatDoor
