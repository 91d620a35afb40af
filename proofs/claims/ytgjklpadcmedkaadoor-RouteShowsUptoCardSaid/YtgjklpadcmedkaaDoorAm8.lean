/- A machine of values, part 8: literals' operations; calls of functions that write nothing; all pure operations. -/
import Derived.Test.YtgjklpadcmedkaaDoorAm7
namespace Go.Proofs.YtgjklpadcmedkaaDoor
open Go Go.RowKit
set_option linter.unusedVariables false

theorem newRow {w : World} {G : Gh} {base len : Nat} {t : TypeId} {e : Sh} {l : List e.T} {cells : Array Value} (hc : CatR (ShR w G.fz e) l cells.toList) (hl : l.length = len) (hm : len ≤ maxLen) (hfz : ∀ b, G.fz b → b < w.heap.size) :
    NewR w (w.alloc (.cells cells t)) G (G.put base ⟨w.heap.size, 0, none⟩ (.slice (some ⟨w.heap.size, 0, none⟩) len len)) base [.row t e l] := by
  have hb : Below w.heap.size w (w.alloc (.cells cells t)) := (Below.refl _ _).alloc (Nat.le_refl _) _
  have hsz : (w.alloc (.cells cells t)).heap.size = w.heap.size + 1 := by simp
  have hl0 : ∀ (j x : Nat), (lk [Blk.row t e l] j).live (G.put base ⟨w.heap.size, 0, none⟩ (.slice (some ⟨w.heap.size, 0, none⟩) len len)) (base + j) = some x → j = 0 ∧ x = w.heap.size := by
    intro j x h
    cases j with
    | zero =>
      simp only [lk, Blk.live, Gh.put, List.getD_cons_zero, Nat.add_zero, if_true] at h
      cases len with
      | zero => simp [rowBlk] at h
      | succ n => simp [rowBlk] at h; exact ⟨rfl, h.symm⟩
    | succ j => simp [lk, Blk.live] at h
  have hlen : cells.toList.length = l.length * e.size := CatR.length (fun y c hy => ShR.length e y c hy) _ _ hc
  refine ⟨hb, fun i hi => Gh.put_agree _ _ _ _ _ (by simp at hi; omega), fun _ h => h, fun _ h => .inl h, fun j => ?_, fun j k x hjk h1 h2 => ?_, fun j x h => ?_⟩
  · cases j with
    | zero =>
      refine ⟨fun g hg => ?_, cells.toList, ?_, CatR.mono (fun y c hy => ShR.keep (fz := G.fz) ⟨hb.size, fun b h hlt => hb.block b hlt, fun _ h => h⟩ e y c hy) _ _ hc⟩
      · simp only [Gh.put, Nat.add_zero, if_true] at hg ⊢
        cases len with
        | zero => simp [rowBlk] at hg
        | succ n => simp [rowBlk] at hg; rw [hg]
      · simp only [Gh.put, Nat.add_zero, if_true]
        rcases Nat.eq_zero_or_pos len with h0 | h0
        · refine .inl ⟨by omega, ?_, _, by rw [h0]⟩
          apply List.length_eq_zero_iff.1
          rw [hlen, hl, h0, Nat.zero_mul]
        · refine .inr ⟨w.heap.size, len, [], by rw [hl], h0, Nat.le_refl _, ?_, by omega, hm, hlen, by rw [List.append_nil, hlen, hl]⟩
          refine ⟨(0, 0), ?_, .inl rfl⟩
          rw [List.append_nil, alloc_new]
    | succ j => simp [lk, BlkR]
  · have := hl0 j x h1; have := hl0 k x h2; omega
  · obtain ⟨_, rfl⟩ := hl0 j x h
    exact ⟨Nat.le_refl _, by omega, fun hf => by have := hfz _ hf; omega⟩

/-! 'build' -/
def placesOf (P : Program) (fs : List Field) : Option (List (Nat × Nat)) := fs.mapM (fun f => (P.info? f.type).map fun i => (f.offset, i.size))
theorem mapM_get {α β : Type} (f : α → Option β) : ∀ (l : List α) (r : List β), l.mapM f = some r → ∀ (i : Nat) (x : α), l[i]? = some x → ∃ y, f x = some y ∧ r[i]? = some y
  | [], r, h, i, x, hi => by simp at hi
  | a :: l, r, h, i, x, hi => by
    rw [List.mapM_cons] at h
    cases ha : f a with
    | none => simp [ha] at h
    | some y =>
      cases hl : l.mapM f with
      | none => simp [ha, hl] at h
      | some r' =>
        simp [ha, hl] at h
        subst h
        cases i with
        | zero => simp at hi; subst hi; exact ⟨y, ha, rfl⟩
        | succ i => exact mapM_get f l r' hl i x (by simpa using hi)
def evBuild (P : Program) (ts : List AV) (t : TypeId) (parts : List (Nat × Operand)) : Option (AV × Prop) :=
  match evAlloc P t with
  | some z =>
    match P.underlying t with
    | some (.struct fs) =>
      match placesOf P fs.toList with
      | some _ =>
        match setParts (partAtP P t) ts parts z with
        | some (r, C) => if r.agg then some (r, C) else none
        | none => none
      | none => none
    | some (.array _ el) =>
      match P.info? el with
      | some _ =>
        match setParts (partAtP P t) ts parts z with
        | some (r, C) => if r.agg then some (r, C) else none
        | none => none
      | none => none
    | _ => none
  | none => none
theorem evBuild_ok {P : Program} {w : World} {G : Gh} {ts : List AV} {a : Act} {t : TypeId} {parts : Array (Nat × Operand)} {r : AV} {C : Prop} (h : evBuild P ts t parts.toList = some (r, C)) (hC : C) (ht : TmpsR w G ts a) :
    ∃ v, (Instr.build t (parts.map fun (i, x) => (i, a.eval x))).run P w = .ok v w ∧ ValR w G r v := by
  have hmap : (parts.map fun (i, x) => (i, a.eval x)).toList = parts.toList.map fun (i, x) => (i, a.eval x) := by simp
  unfold evBuild at h
  split at h
  · rename_i z0 hz0
    unfold evAlloc at hz0
    split at hz0
    · rename_i it hit
      split at hz0
      · rename_i z hz
        split at hz0
        · rename_i hchk
          simp only [Option.some.injEq] at hz0
          subst hz0
          have hcz : CellsR w G (zav P 12 t) z.cells.toList := AV.chk_ok _ _ hchk
          split at h
          · rename_i fs hut
            split at h
            · rename_i places hpl
              split at h
              · rename_i r' D hset
                split at h
                · rename_i hg
                  simp only [Option.some.injEq, Prod.mk.injEq] at h
                  obtain ⟨rfl, rfl⟩ := h
                  obtain ⟨cells, h1, h2⟩ := setParts_ok ht (partAtP P t) (places.toArray[·]?) (fun i s n hp => by
                    unfold partAtP at hp
                    rw [hut] at hp
                    simp only at hp
                    split at hp
                    · rename_i f hf
                      split at hp
                      · rename_i inf hinf
                        simp only [Option.some.injEq, Prod.mk.injEq] at hp
                        obtain ⟨rfl, rfl⟩ := hp
                        obtain ⟨y, hy, hy2⟩ := mapM_get _ _ _ hpl i f (by simpa using hf)
                        rw [hinf] at hy
                        simp only [Option.map_some, Option.some.injEq] at hy
                        subst hy
                        simpa [offs] using hy2
                      · cases hp
                    · cases hp) _ _ _ _ _ hset hC hcz
                  refine ⟨.agg cells, run_build (P := P) w t _ cells ?_, ?_⟩
                  · unfold Program.built
                    rw [hit, hut]
                    simp only [hz]
                    unfold placesOf at hpl
                    rw [hpl, hmap]
                    exact h1
                  · have := ValR_agg hg h2
                    simpa using this
                · cases h
              · cases h
            · cases h
          · rename_i n el hut
            split at h
            · rename_i ie hie
              split at h
              · rename_i r' D hset
                split at h
                · rename_i hg
                  simp only [Option.some.injEq, Prod.mk.injEq] at h
                  obtain ⟨rfl, rfl⟩ := h
                  obtain ⟨cells, h1, h2⟩ := setParts_ok ht (partAtP P t) (fun i => some (i * ie.size, ie.size)) (fun i s n hp => by
                    unfold partAtP at hp
                    rw [hut] at hp
                    simp only at hp
                    rw [hie] at hp
                    simp only [Option.some.injEq, Prod.mk.injEq] at hp
                    obtain ⟨rfl, rfl⟩ := hp
                    simp [offs]) _ _ _ _ _ hset hC hcz
                  refine ⟨.agg cells, run_build (P := P) w t _ cells ?_, ?_⟩
                  · unfold Program.built
                    rw [hit, hut]
                    simp only [hz, hie]
                    rw [hmap]
                    exact h1
                  · have := ValR_agg hg h2
                    simpa using this
                · cases h
              · cases h
            · cases h
          · cases h
        · cases hz0
      · cases hz0
    · cases hz0
  · cases h
end Go.Proofs.YtgjklpadcmedkaaDoor
