/- A machine of values, part 35: a text's bytes appended to an own row. -/
import Derived.Test.YtbpjinefbnlenaaGreatDoorAm27
import Derived.Lib.AppendStr
namespace Go.Proofs.YtbpjinefbnlenaaGreatDoor
open Go Go.RowKit
set_option linter.unusedVariables false

theorem TOS.ofEff {P : Program} {w0 : World} {fz0 : Nat → Prop} {st : St} {Q : Exit → Act → World → Prop} {ops : Array Oper} {k : Nat} {o : Oper} {C : Prop} (st' : St) (hok : ops[k]? = some o) (hg : evGuard ops.toList st.1 o = some true) (he : EffOp P o st.1 st.2 st'.1 st'.2 C)
    (hrt : (∀ t r, r ∈ (st.1.getD t .unk).refs → r < st.2.length) → ∀ t r, r ∈ (st'.1.getD t .unk).refs → r < st'.2.length) (hrm : (∀ i r, r ∈ (lk st.2 i).refs → r < st.2.length) → ∀ i r, r ∈ (lk st'.2 i).refs → r < st'.2.length) (hC : C)
    (hn : TOS P w0 fz0 ops (k + 1) st' Q) : TOS P w0 fz0 ops k st Q := by
  intro G a w hs
  have hlt : k < ops.size := (Array.getElem?_eq_some_iff.1 hok).1
  rw [show ops.size - k = (ops.size - (k + 1)) + 1 by omega, List.range'_succ]
  simp only [wpOps, hok]
  rw [evGuard_ok hs.tmps hg]
  simp only [if_true]
  refine .inl ?_
  exact StR.step he hrt hrm hC hs _ Q (fun a' w' G' hs' => hn G' a' w' hs')
theorem run_appS {P : Program} {w : World} {B n : Nat} {t u ty el : TypeId} {inf : TypeInfo} {z : Value} (ht : P.underlying t = some (.slice el)) (hu : P.underlying u = some .string) (hi : P.info? el = some inf) (hz : inf.zero = some z) (hzs : z.cells.size = 1) (hsz : inf.size = 1) (hb : inf.bytes ≤ 4096)
    {v : Value} {xs : List Value} (hv : RowV B w el 1 v n xs) (s : ByteArray) (hC : n + s.size ≤ capK P el) (hB : B ≤ w.heap.size) :
    ∃ v' w', (Builtin.append_ #[t, u] ty #[v, .string s]).run P w = .ok v' w' ∧ RowV B w' el 1 v' (n + s.size) (xs ++ Lib.strCells s) ∧ Below B w w' ∧ (∀ g, g < w.heap.size → rowBlk v ≠ some g → w'.heap[g]? = w.heap[g]?) ∧ (∀ g, rowBlk v' = some g → rowBlk v = some g ∨ w.heap.size ≤ g) ∧ (Tight v → Tight v') := by
  obtain ⟨hbytes, hK⟩ := capK_le hi hC
  have hmax : n + s.size ≤ maxLen := by unfold maxLen; omega
  have hul := Lib.strCells_length s
  have tg : ∀ (a : Addr) (k c : Nat), 0 < c → Tight (.slice (some a) k c) := fun a k c hc b j e => by
    have := (Value.slice.inj e).2.2
    omega
  have grown : ∀ (n' : Nat) (xs' : List Value) (old : Nat) (w' : World), n' + s.size ≤ maxLen → 0 < n' + s.size → xs'.length = n' →
      w' = w.drew.alloc (.cells ((xs' ++ Lib.strCells s).toArray ++ Builtin.zeroCells z.cells (grownCap w (n' + s.size) old el - (n' + s.size))) el) →
      RowV B w' el 1 (.slice (some ⟨w.heap.size, 0, none⟩) (n' + s.size) (grownCap w (n' + s.size) old el)) (n' + s.size) (xs' ++ Lib.strCells s) ∧ Below B w w' ∧ (∀ g, g < w.heap.size → w'.heap[g]? = w.heap[g]?) ∧ (∀ g, rowBlk (.slice (some ⟨w.heap.size, 0, none⟩) (n' + s.size) (grownCap w (n' + s.size) old el)) = some g → w.heap.size ≤ g) := by
    intro n' xs' old w' hmax' hpos hxs' hw'
    have hge := grownCap_ge w (n' + s.size) old el
    have hcm := grownCap_le_maxLen w (n' + s.size) old el hmax'
    have hlen : (xs' ++ Lib.strCells s).length = (n' + s.size) * 1 := by rw [List.length_append, hxs', hul, Nat.mul_one]
    subst hw'
    refine ⟨?_, ((Below.refl B w).drew).alloc hB _, fun g hg => Below.heap_alloc w.drew _ g hg, fun g hg => ?_⟩
    · refine .inr ⟨w.heap.size, grownCap w (n' + s.size) old el, (Builtin.zeroCells z.cells (grownCap w (n' + s.size) old el - (n' + s.size))).toList, rfl, by omega, hB, ?_, hge, hcm, hlen, ?_⟩
      · refine ⟨(0, 0), ?_, .inl rfl⟩
        rw [show w.heap.size = w.drew.heap.size from rfl, alloc_new]
        congr 2
        apply Array.ext'
        simp
      · rw [List.length_append, hlen]
        simp only [Array.length_toList, zcells_size, hzs, Nat.mul_one]
        omega
    · generalize grownCap w (n' + s.size) old el = gc at hg
      cases gc with
      | zero => simp [rowBlk] at hg
      | succ k => simp [rowBlk] at hg; omega
  rcases Nat.eq_zero_or_pos s.size with hm | hm
  · have hnil : Lib.strCells s = [] := List.length_eq_zero_iff.1 (by omega)
    obtain ⟨a, cap, hval, hnc, _, _⟩ := hv.slice
    refine ⟨v, w, ?_, by rw [hnil, hm, List.append_nil, Nat.add_zero]; exact hv, Below.refl _ _, fun _ _ _ => rfl, fun g hg => .inl hg, id⟩
    subst hval
    have hf := Lib.run_firstCells_string (P := P) w 1 s
    rw [hnil, hm] at hf
    cases a <;> simp [Builtin.append_, run_underlying ht, run_underlying hu, sizeOf, typeInfo, hi, Builtin.lenOf, hsz, hm, hf, hnc, storeCells]
  · rcases hv with ⟨rfl, rfl, a, rfl⟩ | ⟨g, cap, rest, rfl, hcap, hBg, ho, h1, h2, h3, h4⟩
    · cases a with
      | none =>
        have hr := run_append_nil_string (P := P) w t u ty el inf z ht hu hi hz s hm (by omega) (by simp only [Nat.zero_add] at hbytes; omega)
        have hg := grown 0 [] 0 _ hmax (by omega) rfl rfl
        simp only [Nat.zero_add, List.nil_append] at hg ⊢
        have ea : s.data.map (fun b => Value.int .u8 b.toNat) = (Lib.strCells s).toArray := by apply Array.ext'; simp [Lib.strCells]
        rw [ea] at hr
        exact ⟨_, _, hr, hg.1, hg.2.1, fun g hlt _ => hg.2.2.1 g hlt, fun g h => .inr (hg.2.2.2 g h), fun _ => tg _ _ _ (by have := grownCap_ge w s.size 0 el; omega)⟩
      | some a =>
        have hr := Lib.run_append_grow_string (P := P) w t u ty el inf z ht hu hi hz a 0 0 [] (by simp) (fun j u hj => by simp at hj) s (by omega) (by omega) (growslice_fits (by omega) hbytes)
        have hg := grown 0 [] 0 _ hmax (by omega) (by simp) rfl
        have e : (([] : List Value).toArray ++ (Lib.strCells s).toArray) = ([] ++ Lib.strCells s).toArray := by simp
        rw [e] at hr
        exact ⟨_, _, hr, hg.1, hg.2.1, fun g hlt _ => hg.2.2.1 g hlt, fun g h => .inr (hg.2.2.2 g h), fun _ => tg _ _ _ (by have := grownCap_ge w (0 + s.size) 0 el; omega)⟩
    · rw [Nat.mul_one] at h3 h4
      by_cases hroom : n + s.size ≤ cap
      · obtain ⟨fr, ho, hfr⟩ := ho
        have hf := Lib.run_firstCells_string (P := P) w 1 s
        have hst := run_storeCells_fr P g n el fr (Lib.strCells s) 0 (xs ++ rest).toArray w ho (by simp only [List.size_toArray]; omega) (hfr.imp id fun h => by simpa using h.2) (Lib.strCells_oneCell s)
        simp only [Nat.add_zero, hul] at hst
        have hr : (Builtin.append_ #[t, u] ty #[.slice (some ⟨g, 0, none⟩) n cap, .string s]).run P w = .ok (.slice (some ⟨g, 0, none⟩) (n + s.size) cap) (w.setRow g ((xs ++ rest).toArray.toList.take n ++ Lib.strCells s ++ (xs ++ rest).toArray.toList.drop (n + s.size)).toArray) := by
          simp [Builtin.append_, run_underlying ht, run_underlying hu, sizeOf, typeInfo, hi, hsz, Builtin.lenOf, hroom, hf, Addr.add_lit, hst]
        refine ⟨_, _, hr, ?_, ⟨rfl, rfl, rfl, by simp, fun k hk => setRow_other _ _ _ _ (by omega)⟩, fun g' _ hne => setRow_other _ _ _ _ (fun e => hne ?_), fun g' hg' => .inl ?_, fun _ => tg _ _ _ hcap⟩
        · refine .inr ⟨g, cap, rest.drop s.size, rfl, hcap, hBg, ?_, hroom, h2, by rw [List.length_append, h3, hul, Nat.mul_one], ?_⟩
          · have hfr2 : fr = (0, 0) ∨ (el = 5 ∧ (xs ++ Lib.strCells s ++ rest.drop s.size).length ≤ fr.1) := hfr.imp id fun h => by
              refine ⟨h.1, ?_⟩
              have h := h.2
              simp only [List.length_append, List.length_drop] at h h4 ⊢
              omega
            refine ⟨fr, ?_, hfr2⟩
            rw [setRow_heap w g _ _ el fr ho]
            congr 2
            simp only [List.append_assoc]
            rw [List.take_left' h3, ← hul, ← List.drop_drop, List.drop_left' h3]
          · simp only [List.length_append, List.length_drop, Nat.mul_one] at h4 ⊢
            omega
        · subst e
          cases cap with
          | zero => omega
          | succ k => rfl
        · cases cap with
          | zero => omega
          | succ k => simp [rowBlk] at hg' ⊢; exact hg'
      · have holds : ∀ j u, xs[j]? = some u → w.cell? ((⟨g, 0, none⟩ : Addr).add j) = some u := fun j u hj => by rw [addr_add', Nat.zero_add]; exact ho.cell hj
        have hr := Lib.run_append_grow_string (P := P) w t u ty el inf z ht hu hi hz ⟨g, 0, none⟩ n cap xs (by rw [h3, hsz, Nat.mul_one]) holds s (by omega) (by omega) (growslice_fits (by omega) hbytes)
        have hg := grown n xs cap _ hmax (by omega) h3 rfl
        have e : (xs.toArray ++ (Lib.strCells s).toArray) = (xs ++ Lib.strCells s).toArray := by simp
        rw [e] at hr
        exact ⟨_, _, hr, hg.1, hg.2.1, fun g hlt _ => hg.2.2.1 g hlt, fun g h => .inr (hg.2.2.2 g h), fun _ => tg _ _ _ (by have := grownCap_ge w (n + s.size) cap el; omega)⟩
/-- a text's bytes, as numbers -/
def byI (s : List UInt8) : List Int := s.map fun b => ((b.toNat : Nat) : Int)
theorem byI_cat {w : World} {fz : Nat → Prop} : ∀ s : List UInt8, CatR (ShR w fz (.int .u8)) (byI s) (Lib.strCells ⟨s.toArray⟩)
  | [] => rfl
  | b :: s => ⟨[.int .u8 b.toNat], Lib.strCells ⟨s.toArray⟩, by simp [Lib.strCells], rfl, byI_cat s⟩
def appSFx (P : Program) (ts : List AV) (mem : List Blk) (o : Oper) : Option (AV × List Blk × Prop) :=
  match o.op with
  | .call { callee := .builtin .append, args := args, argTypes := tys } =>
    match args.toList, tys.toList with
    | [s, x], [t, u] =>
      match P.underlying t, P.underlying u, ev ts s, ev ts x with
      | some (.slice el), some .string, some (.row r), some (.str l') =>
        match lk mem r with
        | .row T (.int .u8) l => if T = el ∧ elemOk P el (.int .u8) = true then some (.row mem.length, mem.set r .dead ++ [.row el (.int .u8) (l ++ byI l')], l.length + l'.length ≤ capK P el) else none
        | .bbuf T (.int .u8) l => if T = el ∧ elemOk P el (.int .u8) = true then some (.row mem.length, mem.set r .dead ++ [.bbuf el (.int .u8) (l ++ byI l')], l.length + l'.length ≤ capK P el) else none
        | _ => none
      | _, _, _, _ => none
    | _, _ => none
  | _ => none
theorem appSFx_ok {P : Program} {ts : List AV} {mem mem' : List Blk} {o : Oper} {av : AV} {C : Prop} (h : appSFx P ts mem o = some (av, mem', C)) : EffOp P o ts mem (tput ts o.dst av) mem' C ∧ mem'.length = mem.length + 1 ∧ av = .row mem.length ∧ ∀ i r, r ∈ (lk mem' i).refs → r ∈ (lk mem i).refs := by
  unfold appSFx at h
  split at h
  · rename_i args tys ho
    split at h
    · rename_i s x t u hargs htys
      split at h
      · rename_i el r l' hut huu hs hx
        have main : ∀ (T : TypeId) (bb : Bool) (l : List Int), lk mem r = mkRow bb T (.int .u8) l → T = el → elemOk P el (.int .u8) = true → mem' = mem.set r .dead ++ [mkRow bb el (.int .u8) (l ++ byI l')] → av = .row mem.length → (C → l.length + l'.length ≤ capK P el) →
            EffOp P o ts mem (tput ts o.dst av) mem' C ∧ mem'.length = mem.length + 1 ∧ av = .row mem.length ∧ ∀ i r, r ∈ (lk mem' i).refs → r ∈ (lk mem i).refs := by
          intro T bb l hlk hT hel hmem hav hCC
          subst hT
          have hnd : lk mem r ≠ .dead := by rw [hlk]; cases bb <;> exact fun h => by cases h
          have hrl : r < mem.length := lk_lt hnd
          have hput : memPut (mem.set r .dead) mem.length [mkRow bb T (.int .u8) (l ++ byI l')] = mem' := by
            have := memPut_end (mem.set r .dead) [mkRow bb T (.int .u8) (l ++ byI l')]
            rw [List.length_set] at this
            rw [this, hmem]
          have k : ∀ (x : Blk) (i : Nat), lk (memPut (mem.set r .dead) mem.length [x]) i = if i = mem.length then x else lk (mem.set r .dead) i := by
            intro x i
            rw [lk_memPut]
            by_cases h : i = mem.length
            · subst h; rw [if_pos (by simp), if_pos rfl, Nat.sub_self]; rfl
            · rw [if_neg (by simp; omega), if_neg h]
          refine ⟨?_, by rw [hmem]; simp, hav, fun i q hq => ?_⟩
          rotate_left
          · rw [← hput, k] at hq
            split at hq
            · cases bb <;> cases hq
            · rw [lk_set] at hq
              split at hq
              · cases hq
              · exact hq
          intro B w G a hC hm ht hrt hrm next Q hn
          rw [arr2 hargs, arr2 htys] at ho
          obtain ⟨inf, z, hi, hz, h1, h2, h3, h4⟩ := elemOk_ok hel
          have hd : dstL mem (.row r) = some (r, T, ⟨.int .u8, l⟩) := by
            unfold dstL
            simp only [hlk]
            cases bb <;> rfl
          obtain ⟨cs, hrow, hcat, hlive, _, htt⟩ := dstL_ok hm hd (ev_ok ht hs)
          have ex : a.eval x = .string ⟨l'.toArray⟩ := val_str (ev_ok ht hx)
          have hsz : (⟨l'.toArray⟩ : ByteArray).size = l'.length := by simp [ByteArray.size]
          obtain ⟨v', w', hr, hr1, hr2, hr3, hr4, hr5⟩ := run_appS (P := P) (ty := o.type) hut huu hi hz h1 h2 h4 hrow ⟨l'.toArray⟩ (by rw [hsz]; exact hCC hC) hm.base.1
          have hlen : (l ++ byI l').length = l.length + (⟨l'.toArray⟩ : ByteArray).size := by rw [List.length_append, hsz]; simp [byI]
          obtain ⟨G', g1, g2, g3, g4, g5⟩ := hm.newRow (mem0 := mem.set r .dead) (e := .int .u8) (l := l ++ byI l') (old := rowBlk (a.eval s)) (fun i => by
              rw [lk_set]; split
              · exact .inr rfl
              · exact .inl rfl) (by simp) (fun i g hg hi => by
              rw [lk_set] at hi
              split at hi
              · cases hi
              · rename_i hir
                exact hm.apart i r g (fun e => hir ⟨e, hrl⟩) hi (by rw [hlive]; exact hg)) (fun g hg => (hm.own r g (by rw [hlive]; exact hg)).2.2) hrm hr2 hr3 (by rw [hlen]; exact hr1) hr4 (CatR.append hcat (byI_cat l'))
          have e1 : (execOp a.eval o).run P w = .ok (.value v') w' := by
            simp only [execOp, ho, resolve, Sem.run_bind, Sem.run_pure, Result.andThen_ok, invoke, builtin, List.map_toArray, List.map_cons, List.map_nil, ex, hr]
          unfold Oper.wp
          rw [e1]
          have g1' : MemR B w' G' mem' := by
            rw [← hput]
            cases hbb : bb with
            | false => exact g1
            | true => exact g1.swapB (r := mem.length) (fun i hi => by rw [k, k, if_neg hi, if_neg hi]) (by rw [k, if_pos rfl]) (by rw [k, if_pos rfl]; rfl) (by rw [g4]; exact hr5 (htt (by rw [hlk, hbb]; rfl)))
          subst hav
          refine hn _ w' G' hr2 ⟨fun b h => by rw [g5]; exact h, fun b h => .inl (by rw [g5] at h; exact h), g2.block⟩ g1' ((ht.keep g2 (fun t r hr => g3 r (hrt t r hr))).put _ ?_) (put_defers _ _ _)
          show [v'] = [G'.rowv mem.length] ∧ _
          rw [g4]
          exact ⟨rfl, hr1.one⟩
        split at h
        · rename_i T l hlk
          split at h
          · rename_i hc
            simp only [Option.some.injEq, Prod.mk.injEq] at h
            obtain ⟨rfl, rfl, rfl⟩ := h
            exact main T false l hlk hc.1 hc.2 rfl rfl id
          · cases h
        · rename_i T l hlk
          split at h
          · rename_i hc
            simp only [Option.some.injEq, Prod.mk.injEq] at h
            obtain ⟨rfl, rfl, rfl⟩ := h
            exact main T true l hlk hc.1 hc.2 rfl rfl id
          · cases h
        · cases h
      · cases h
    · cases h
  · cases h
def appK (P : Program) (ops : Array Oper) (k : Nat) (st : St) : Option (St × Prop) :=
  match ops[k]? with
  | some o =>
    match evGuard ops.toList st.1 o with
    | some true =>
      match appSFx P st.1 st.2 o with
      | some (av, mem, C) => some ((tput st.1 o.dst av, mem), C)
      | none => none
    | _ => none
  | none => none
def appSt (P : Program) (ops : Array Oper) (k : Nat) (st : St) : St := match appK P ops k st with | some x => x.1 | none => ([], [])
def appC (P : Program) (ops : Array Oper) (k : Nat) (st : St) : Prop := match appK P ops k st with | some x => x.2 | none => False
theorem TOS.appS {P : Program} {w0 : World} {fz0 : Nat → Prop} {st : St} {Q : Exit → Act → World → Prop} {ops : Array Oper} {k : Nat} {C : Prop} (hq : C) (h : Go.Proofs.YtbpjinefbnlenaaGreatDoor.appC P ops k st = C) (hn : TOS P w0 fz0 ops (k + 1) (appSt P ops k st) Q) : TOS P w0 fz0 ops k st Q := by
  subst h
  unfold Go.Proofs.YtbpjinefbnlenaaGreatDoor.appC at hq
  unfold appSt at hn
  cases hk : appK P ops k st with
  | none => rw [hk] at hq; exact hq.elim
  | some x =>
    obtain ⟨st', C⟩ := x
    rw [hk] at hq hn
    unfold appK at hk
    split at hk
    · rename_i o hok
      split at hk
      · rename_i hg
        split at hk
        · rename_i av mem C' hfx
          simp only [Option.some.injEq, Prod.mk.injEq] at hk
          obtain ⟨rfl, rfl⟩ := hk
          obtain ⟨h1, h2, h3, h4⟩ := appSFx_ok hfx
          refine TOS.ofEff _ hok hg h1 (fun hr => ?_) (fun hr i q hq' => ?_) hq hn
          · rw [h3]
            exact tput_refs hr (by simp only [h2]; omega) (by simp only [h2]; intro r hr'; simp only [AV.refs, List.mem_singleton] at hr'; omega)
          · have := hr i q (h4 i q hq')
            simp only [h2]; omega
        · cases hk
      · cases hk
    · cases hk
end Go.Proofs.YtbpjinefbnlenaaGreatDoor
