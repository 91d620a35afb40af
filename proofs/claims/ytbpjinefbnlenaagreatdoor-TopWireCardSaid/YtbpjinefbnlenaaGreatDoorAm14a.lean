/- A machine of values, part 14a: calls that write a row of the caller's: (*strings.Builder).String; a call that writes a row in place; a call that takes a row and hands back another. -/
import Derived.Test.YtbpjinefbnlenaaGreatDoorAm14c
import Derived.Lib.UnsafeStr
namespace Go.Proofs.YtbpjinefbnlenaaGreatDoor
open Go Go.RowKit
set_option linter.unusedVariables false

def FxOk (P : Program) (o : Oper) (ts : List AV) (mem : List Blk) (b : Nat) (blk : Blk) (av : AV) (C : Prop) : Prop :=
  ∀ (B : Nat) (w : World) (G : Gh) (a : Act), C → MemR B w G mem → TmpsR w G ts a → ∀ (next : Act → World → Prop) (Q : Exit → Act → World → Prop),
    (∀ v w', Below B w w' → Keeps G.fz G.fz w w' → MemR B w' G (mem.set b blk) → ValR w' G av v → next (a.put o.dst v) w') → o.wp P a w next Q
theorem run_loadBytesI {P : Program} (w : World) : ∀ (l : List Int) (a : Addr) (acc : ByteArray), (∀ j x, l[j]? = some x → w.cell? (a.add j) = some (.int .u8 x)) → (loadBytes a acc l.length).run P w = .ok ⟨acc.data ++ (strOf l).toArray⟩ w
  | [], a, acc, _ => by simp [loadBytes, strOf]
  | x :: l, a, acc, h => by
    have h0 : w.cell? a = some (.int .u8 x) := by
      have := h 0 x rfl
      simpa [Addr.add] using this
    have ih := run_loadBytesI (P := P) w l (a.add 1) (acc.push x.toNat.toUInt8) (fun j y hy => by
      have := h (j + 1) y (by simpa using hy)
      have e : (a.add 1).add j = a.add (j + 1) := by
        unfold Addr.add
        by_cases hj : j = 0
        · subst hj; simp
        · simp [hj]; omega
      rw [e]; exact this)
    have hl : (load a).run P w = .ok (.int .u8 x) w := by simp only [load, Sem.run, h0]
    simp only [List.length_cons, loadBytes, Sem.run_bind, hl, Result.andThen_ok]
    rw [ih]
    congr 1
    apply ByteArray.ext
    simp [ByteArray.push, strOf]
theorem run_unsafeStringI {P : Program} (w : World) (pt it ty e : TypeId) (hp : P.underlying pt = some (.pointer e)) (hc : P.cellsOf e = 1) (g cells : Nat) (hsh : w.shape? g = some (e, cells)) (l : List Int) (h0 : l ≠ []) (hn : l.length ≤ cells) (h63 : l.length ≤ 9223372036854775807)
    (hcell : ∀ j x, l[j]? = some x → w.cell? ((⟨g, 0, none⟩ : Addr).add j) = some (.int .u8 x)) :
    (Builtin.unsafeString_ #[pt, it] ty #[.pointer (some ⟨g, 0, none⟩), .int .i64 l.length]).run P w = .ok (.string ⟨(strOf l).toArray⟩) (w.freeze ⟨g, 0, none⟩ l.length) := by
  have hl : l.length ≠ 0 := by simpa using h0
  have hlb := run_loadBytesI (P := P) w l ⟨g, 0, none⟩ .empty hcell
  have hlies := Lib.liesAt_bytes (P := P) hc (cells / P.cellsOf e) l.length (by rw [hc]; simpa using hn)
  have h63' : ¬ (9223372036854775807 : Int) < (l.length : Int) := by omega
  have hdef : Builtin.unsafeString_ #[pt, it] ty #[.pointer (some ⟨g, 0, none⟩), .int .i64 l.length] =
      (do
        let n ← asInt (.int .i64 l.length)
        if n < 0 then runtimePanic (.error "unsafe.String: len out of range")
        if n > IntKind.i64.max then unsupported (.unsafePointer "String: a length above the largest int")
        if n = 0 then pure (.string .empty)
        else if ← variablesAt ⟨g, 0, none⟩ (← elemOf pt) n.toNat then do
          let s ← loadBytes ⟨g, 0, none⟩ .empty n.toNat
          freeze ⟨g, 0, none⟩ n.toNat
          pure (.string s)
        else unsupported (.unsafePointer "String: not so many bytes at ptr")) := rfl
  rw [hdef]
  have hmax : IntKind.i64.max = 9223372036854775807 := rfl
  have hneg : ¬ (l.length : Int) < 0 := by omega
  simp [asInt, asIntOf, hmax, h63', hneg, hl, variablesAt, hsh, elemOf, run_underlying hp, hlies, hlb]
/-- what String does -/
def BStr (P : Program) (f U : Nat) : Prop :=
  callable P f = true ∧ P.cellsOf U = 1 ∧ ∃ sl pt it ty : TypeId, P.underlying pt = some (.pointer U) ∧
    ∀ (b n cap : Nat) (a p : Option Addr) (s : ByteArray) (w w1 : World), w.drew.cell? ⟨b, 1, none⟩ = some (.slice a n cap) →
      (Builtin.unsafeSliceData_ #[sl] pt #[.slice a n cap]).run P w.drew = .ok (.pointer p) w.drew →
      (Builtin.unsafeString_ #[pt, it] ty #[.pointer p, .int .i64 n]).run P w.drew = .ok (.string s) w1 →
      Calls P f #[.pointer (some ⟨b, 0, none⟩)] w fun e w' => e = .returned (.string s) ∧ w' = w1
/-- the row of a builder's box -/
def bufAt : AV → Option Nat
  | .st (.cons c (.row r)) => if c.size = 1 then some r else none
  | _ => none
theorem MemR.kill {B : Nat} {w w1 : World} {G : Gh} {mem : List Blk} {r : Nat} (hm : MemR B w G mem) (hb : Below B w w1) (hx : ∀ x, (lk mem r).live G r ≠ some x → w1.heap[x]? = w.heap[x]?) : MemR B w1 G (mem.set r .dead) ∧ Keeps G.fz G.fz w w1 := by
  have hk : Keeps G.fz G.fz w w1 := ⟨hb.size, fun b hf _ => hx b (fun h => (hm.own r b h).2.2 hf), fun _ h => h⟩
  have hlv : ∀ i x, (lk (mem.set r .dead) i).live G i = some x → (i = r → False) ∧ (lk mem i).live G i = some x := by
    intro i x h
    rw [lk_set] at h
    split at h
    · cases h
    · rename_i hn
      refine ⟨fun e => ?_, h⟩
      subst e
      by_cases hlt : i < mem.length
      · exact hn ⟨rfl, hlt⟩
      · rw [lk_big (Nat.not_lt.1 hlt)] at h; cases h
  refine ⟨⟨fun i => ?_, fun i j x hij hi hj => hm.apart i j x hij (hlv i x hi).2 (hlv j x hj).2, fun i x hi => ?_, fun b hf => Nat.lt_of_lt_of_le (hm.fz b hf) hb.size, hm.base.below hb⟩, hk⟩
  · by_cases hi : ∃ x, (lk (mem.set r .dead) i).live G i = some x
    · obtain ⟨x, hi⟩ := hi
      have h1 := hlv i x hi
      have e : lk (mem.set r .dead) i = lk mem i := by
        rw [lk_set]
        split
        · rename_i hh; exact absurd hh.1.symm (fun e => h1.1 (by first | exact e | exact e.symm))
        · rfl
      rw [e]
      refine (hm.blk i).keep hk ⟨rfl, rfl⟩ (fun _ _ => ⟨rfl, rfl⟩) (Nat.le_refl _) (fun y hy => hx y (fun hr => ?_))
      exact hm.apart i r y (fun e => h1.1 e) hy hr
    · rw [lk_set] at hi ⊢
      split
      · trivial
      · rename_i hn
        rw [if_neg hn] at hi
        exact (hm.blk i).keep hk ⟨rfl, rfl⟩ (fun _ _ => ⟨rfl, rfl⟩) (Nat.le_refl _) (fun y hy => absurd ⟨y, hy⟩ hi)
  · have := hm.own i x (hlv i x hi).2
    exact ⟨this.1, Nat.lt_of_lt_of_le this.2.1 hb.size, this.2.2⟩
def evStr (P : Program) (ts : List AV) (mem : List Blk) (x : Operand) (args : List Operand) (U : Nat) : Option (Nat × Blk × AV × Prop) :=
  match args, ev ts x with
  | [y], some (.fn g .nil) =>
    match ev ts y with
    | some (.ptr b []) =>
      match lk mem b with
      | .box _ c =>
        match bufAt c with
        | some r =>
          match lk mem r with
          | .bbuf T (.int .u8) l => if T = U then some (r, .dead, .str (strOf l), BStr P g U) else none
          | _ => none
        | none => none
      | _ => none
    | _ => none
  | _, _ => none
theorem evStr_ok {P : Program} {o : Oper} {ts : List AV} {mem : List Blk} {x : Operand} {args : Array Operand} {tys : Array TypeId} {U b : Nat} {blk : Blk} {av : AV} {C : Prop} (ho : o.op = .call { callee := .value x, args := args, argTypes := tys }) (h : evStr P ts mem x args.toList U = some (b, blk, av, C)) :
    FxOk P o ts mem b blk av C ∧ lk mem b ≠ .dead ∧ blk = .dead ∧ av.refs = [] := by
  unfold evStr at h
  split at h
  · rename_i y g hargs hx
    split at h
    · rename_i bb hy
      split at h
      · rename_i Tb c hlb
        split at h
        · rename_i r hbuf
          split at h
          · rename_i T l hlr
            split at h
            · rename_i hTU
              subst hTU
              simp only [Option.some.injEq, Prod.mk.injEq] at h
              obtain ⟨rfl, rfl, rfl, rfl⟩ := h
              refine ⟨?_, (by rw [hlr]; exact fun h => by cases h), rfl, rfl⟩
              intro B w G a hC hm ht next Q hn
              obtain ⟨hcall, hcU, sl, pt, it, ty, hpt, hwalk⟩ := hC
              obtain ⟨c0, rfl, hc0⟩ : ∃ c0, c = .st (.cons c0 (.row r)) ∧ c0.size = 1 := by
                unfold bufAt at hbuf
                split at hbuf
                · rename_i c0 r'
                  split at hbuf
                  · rename_i hz
                    simp only [Option.some.injEq] at hbuf
                    subst hbuf
                    exact ⟨c0, rfl, hz⟩
                  · cases hbuf
                · cases hbuf
              have hbx := hm.blk bb
              rw [hlb] at hbx
              obtain ⟨hoff, cs, hown, c1, c2, rfl, hc1, hc2, _⟩ := hbx
              have hc1l := CellsR.length _ _ hc1
              rw [hc0] at hc1l
              subst hc2
              have hcell : w.cell? ⟨(G.addr bb).block, 1, none⟩ = some (G.rowv r) := hown.cell (by rw [List.getElem?_append_right (by omega), hc1l]; rfl)
              have hbr := hm.blk r
              rw [hlr] at hbr
              obtain ⟨⟨hga, cs2, hrow, hcat⟩, htight⟩ := hbr
              have hlive : (lk mem r).live G r = rowBlk (G.rowv r) := by rw [hlr]; rfl
              have hp : a.eval y = .pointer (some ⟨(G.addr bb).block, 0, none⟩) := by
                have e1 : [a.eval y] = [Value.pointer (some ⟨(G.addr bb).block, (G.addr bb).off + offs [], none⟩)] := ev_ok ht hy
                rw [hoff] at e1
                simpa [offs] using e1
              obtain ⟨vs, e1, hcv⟩ := (show ∃ vs : List Value, [a.eval x] = [Value.func (.func g) #[] vs.toArray] ∧ CellsR w G .nil vs from ev_ok ht hx)
              obtain rfl : vs = [] := hcv
              have ef : a.eval x = .func (.func g) #[] #[] := by simpa using e1
              have hrun : (execOp a.eval o).run P w = .ok (.enter g #[.pointer (some ⟨(G.addr bb).block, 0, none⟩)]) w := by
                have e2 : args = #[y] := by apply Array.ext'; simpa using hargs
                subst e2
                simp only [execOp, ho, resolve, ef, Deferred.ofValue, Sem.run_bind, Sem.run_pure, Result.andThen_ok, invoke]
                rw [run_callFunc hcall]
                simp [hp]
              have fin : ∀ w1 : World, Below B w w1 → (∀ x, rowBlk (G.rowv r) ≠ some x → w1.heap[x]? = w.heap[x]?) → next (a.put o.dst (.string ⟨(strOf l).toArray⟩)) w1 := by
                intro w1 hb1 hx1
                obtain ⟨hm1, hk1⟩ := hm.kill (r := r) hb1 (fun x hx => hx1 x (by rw [← hlive]; exact hx))
                exact hn _ w1 hb1 hk1 hm1 rfl
              unfold Oper.wp
              rw [hrun]
              have use : ∀ (n cap : Nat) (ad p : Option Addr) (w1 : World), G.rowv r = .slice ad n cap → (Builtin.unsafeSliceData_ #[sl] pt #[.slice ad n cap]).run P w.drew = .ok (.pointer p) w.drew →
                  (Builtin.unsafeString_ #[pt, it] ty #[.pointer p, .int .i64 n]).run P w.drew = .ok (.string ⟨(strOf l).toArray⟩) w1 → Below B w w1 → (∀ x, rowBlk (G.rowv r) ≠ some x → w1.heap[x]? = w.heap[x]?) →
                  Calls P g #[.pointer (some ⟨(G.addr bb).block, 0, none⟩)] w (fun e w' => ∃ v, e = .returned v ∧ next (a.put o.dst v) w') := by
                intro n cap ad p w1 hv hsd hus hb1 hx1
                refine (hwalk _ n cap ad p _ w w1 (by rw [← hv]; exact hcell) hsd hus).mono ?_
                rintro e w' ⟨rfl, rfl⟩
                exact ⟨_, rfl, fin _ hb1 hx1⟩
              have bd : Below B w w.drew := Below.drew (Below.refl _ _)
              have hl0 : ∀ l : List Int, l = [] → (ByteArray.empty : ByteArray) = ⟨(strOf l).toArray⟩ := by intro l h; subst h; rfl
              refine Calls.mono (R := fun e w' => ∃ v, e = .returned v ∧ next (a.put o.dst v) w') ?_ (fun e w' h => ?_)
              · rcases hrow with ⟨hn0, _, ad, hv⟩ | ⟨g2, cap, rest, hv, hcap, hBg, ho2, h1, h2, h3, h4⟩
                · have hl := List.length_eq_zero_iff.1 hn0
                  cases ad with
                  | some q => exact absurd hv (htight q 0)
                  | none =>
                    refine use 0 0 none none w.drew hv (Lib.run_unsafeSliceData_nil w.drew _ _ 0 0) ?_ bd (fun x _ => rfl)
                    rw [← hl0 l hl]
                    exact Lib.run_unsafeString_none w.drew _ _ _ _
                · have hsd := Lib.run_unsafeSliceData_row (P := P) w.drew #[sl] pt ⟨g2, 0, none⟩ l.length cap (by omega)
                  by_cases hl : l = []
                  · refine use l.length cap _ _ w.drew hv hsd ?_ bd (fun x _ => rfl)
                    rw [← hl0 l hl, hl]
                    exact Lib.run_unsafeString_none w.drew _ _ _ _
                  · have hcs : ∀ (j : Nat) (z : Int), l[j]? = some z → cs2[j]? = some (Value.int .u8 z) := by
                      intro j z hj
                      obtain ⟨A, C, D, e1, e2, e3, _⟩ := CatR.at (k := 1) (fun y c hy => ShR.length (.int .u8) y c hy) hcat hj
                      obtain rfl : C = [.int .u8 z] := e3
                      rw [Nat.mul_one] at e2
                      rw [e1, List.append_assoc, List.getElem?_append_right (by omega), e2, Nat.sub_self]; rfl
                    have hz : (Sh.int IntKind.u8).size = 1 := rfl
                    rw [hz, Nat.mul_one] at h3 h4
                    obtain ⟨fr, ho3, hfr⟩ := ho2
                    have hg2 : w.drew.heap[g2]? = some (.cells (cs2 ++ rest).toArray T fr) := ho3
                    have hsh : w.drew.shape? g2 = some (T, (cs2 ++ rest).length) := by simp [World.shape?, hg2]
                    have hus := run_unsafeStringI (P := P) w.drew pt it ty T hpt hcU g2 _ hsh l hl (by rw [h4]; exact h1) (by unfold maxLen at h2; omega) (fun j z hj => by
                      rw [addr_add', Nat.zero_add]
                      have hj2 := hcs j z hj
                      have hlt2 : j < cs2.length := (List.getElem?_eq_some_iff.1 hj2).1
                      exact OwnAt.cell (w := w.drew) ⟨fr, hg2, hfr⟩ hj2)
                    refine use l.length cap _ _ _ hv hsd hus (Lib.below_freeze bd (p := ⟨g2, 0, none⟩) hBg _) (fun x hx => ?_)
                    have hne : g2 ≠ x := fun e => hx (by
                      rw [hv, e]
                      cases cap with
                      | zero => omega
                      | succ c => rfl)
                    have hl2 : l.length ≠ 0 := by simpa using hl
                    simp only [World.freeze, if_neg hl2, Array.getElem?_modify, if_neg hne]
                    rfl
              · obtain ⟨v, rfl, h⟩ := h
                exact h
            · cases h
          · cases h
        · cases h
      · cases h
    · cases h
  · cases h
/-! calls that take a row of the caller's -/
/-- what is handed in besides the row -/
inductive MA (e : Sh) where
  | int (k : IntKind) (n : Int)
  | src (l : List e.T)
  | fn (g : Nat)
  | clo (g : Nat) (a : AV)
/-- elements that a call reads; they lie elsewhere than the row -/
def MAR (w : World) (fz : Nat → Prop) (ob : Option Nat) (e : Sh) : MA e → Value → Prop
  | .int k n, v => v = .int k n
  | .src l, v => ∃ us ad cap, v = .slice ad l.length cap ∧ us.length = l.length * e.size ∧ l.length ≤ cap ∧ cap ≤ maxLen ∧ CatR (ShR w fz e) l us ∧
      (0 < l.length → ∃ b tA kA, ad = some ⟨b, 0, none⟩ ∧ ob ≠ some b ∧ b < w.heap.size ∧ (∀ i u, us[i]? = some u → w.cell? ⟨b, 0 + i, none⟩ = some u) ∧ w.shape? b = some (tA, kA) ∧ w.frozen? ⟨b, 0, none⟩ = false ∧ w.frozen? ⟨b, kA, none⟩ = false)
  | .fn g, v => v = .func (.func g) #[] #[]
  | .clo g a, v => a.refs = [] ∧ ∃ vs : List Value, v = .func (.func g) #[] vs.toArray ∧ CellsR w (G0 fz) a vs
def MARs (w : World) (fz : Nat → Prop) (ob : Option Nat) (e : Sh) : List (MA e) → List Value → Prop
  | [], vs => vs = []
  | m :: l, vs => ∃ v t, vs = v :: t ∧ MAR w fz ob e m v ∧ MARs w fz ob e l t
def rowT (mem : List Blk) (q : Nat) : Option TypeId :=
  match lk mem q with
  | .row T _ _ => some T
  | _ => none
def marg (mem : List Blk) (r : Nat) (e : Sh) : AV → Option (MA e)
  | .int k n => some (.int k n)
  | .row q => if q = r ∨ rowT mem q = some 5 then none else (srcL mem e (.row q)).map .src
  | .fn g .nil => some (.fn g)
  | .fn g a => if a.refs.isEmpty = true then some (.clo g a) else none
  | _ => none
def margs (mem : List Blk) (r : Nat) (e : Sh) (ts : List AV) : List Operand → Option (List (MA e))
  | [] => some []
  | x :: l =>
    match ev ts x, margs mem r e ts l with
    | some a, some ms =>
      match marg mem r e a with
      | some m => some (m :: ms)
      | none => none
    | _, _ => none
theorem marg_ok {B : Nat} {w : World} {G : Gh} {mem : List Blk} (hm : MemR B w G mem) {r : Nat} {e : Sh} {a : AV} {m : MA e} {v : Value} (h : marg mem r e a = some m) (hv : ValR w G a v) : MAR w G.fz ((lk mem r).live G r) e m v := by
  unfold marg at h
  split at h
  · simp only [Option.some.injEq] at h; subst h
    exact val_int hv
  · rename_i q
    split at h
    · cases h
    · rename_i hne
      obtain ⟨l, hl, rfl⟩ := Option.map_eq_some_iff.1 h
      have h1 := hl
      simp only [srcL] at h1
      split at h1
      · rename_i T e' l2 hlk
        split at h1
        · rename_i he
          subst he
          simp only [Option.some.injEq] at h1
          subst h1
          have hT : T ≠ 5 := fun e => hne (.inr (by rw [rowT, hlk, e]))
          have hb := hm.blk q
          rw [hlk] at hb
          obtain ⟨_, cs, hrow, hcat⟩ := hb
          obtain ⟨e1, _⟩ := (show [v] = [G.rowv q] ∧ _ from hv)
          obtain rfl : v = G.rowv q := by simpa using e1
          obtain ⟨ad, cap, hs, hc1, hc2, hc3⟩ := hrow.slice
          refine ⟨cs, ad, cap, hs, CatR.length (fun y c hy => ShR.length e' y c hy) _ _ hcat, hc1, hc2, hcat, fun hpos => ?_⟩
          rcases hrow with ⟨hn0, _⟩ | ⟨g, cap2, rest, hval, hcap, _, ho, _⟩
          · omega
          · rw [hval] at hs
            obtain ⟨rfl, _, rfl⟩ := Value.slice.inj hs
            have hlive : (lk mem q).live G q = some g := by
              rw [hlk, Blk.live, hval]
              cases cap2 with
              | zero => omega
              | succ c => rfl
            have hlt := ho.lt
            have hcell := fun i u (hi : cs[i]? = some u) => ho.cell hi
            obtain ⟨fr, hg, hfr⟩ := ho
            obtain rfl : fr = (0, 0) := hfr.resolve_right fun h => hT h.1
            refine ⟨g, T, (cs ++ rest).length, rfl, fun ho2 => hm.apart q r g (fun e => hne (.inl e)) hlive ho2, hlt, fun i u hi => ?_, by simp [World.shape?, hg], by simp [World.frozen?, hg], by simp [World.frozen?, hg]⟩
            rw [Nat.zero_add]
            exact hcell i u hi
        · cases h1
      · cases h1
  · rename_i g
    simp only [Option.some.injEq] at h; subst h
    obtain ⟨vs, e1, hc⟩ := (show ∃ vs : List Value, [v] = [Value.func (.func g) #[] vs.toArray] ∧ CellsR w G .nil vs from hv)
    obtain rfl : vs = [] := hc
    show v = _
    simpa using e1
  · rename_i g a _
    split at h
    · rename_i hr
      simp only [Option.some.injEq] at h; subst h
      have hr' : a.refs = [] := by simpa using hr
      obtain ⟨vs, e1, hc⟩ := (show ∃ vs : List Value, [v] = [Value.func (.func g) #[] vs.toArray] ∧ CellsR w G a vs from hv)
      exact ⟨hr', vs, by simpa using e1, CellsR.norefs (fun _ h => h) a vs hr' hc⟩
    · cases h
  · cases h
theorem margs_ok {B : Nat} {w : World} {G : Gh} {mem : List Blk} (hm : MemR B w G mem) {r : Nat} {e : Sh} {ts : List AV} {a : Act} (ht : TmpsR w G ts a) : ∀ (l : List Operand) (ms : List (MA e)), margs mem r e ts l = some ms → MARs w G.fz ((lk mem r).live G r) e ms (l.map a.eval)
  | [], ms, h => by simp only [margs, Option.some.injEq] at h; subst h; rfl
  | x :: l, ms, h => by
    simp only [margs] at h
    split at h
    · rename_i u ms' hx hl
      split at h
      · rename_i m hm2
        simp only [Option.some.injEq] at h; subst h
        exact ⟨_, _, rfl, marg_ok hm hm2 (ev_ok ht hx), margs_ok hm ht l ms' hl⟩
      · cases h
    · cases h
/-- a call that writes the row in place: what the row holds then; what is handed back: a part of it from its beginning, or whatever -/
def FxC (P : Program) (f : Nat) (T : TypeId) (e : Sh) (l : List e.T) (ms : List (MA e)) (l' : List e.T) (m : Option Nat) : Prop :=
  ∀ (B : Nat) (w : World) (fz : Nat → Prop) (v : Value) (cs vs : List Value), Bs B w → (∀ b, fz b → b < w.heap.size) → (∀ g, rowBlk v = some g → ¬ fz g) → RowV B w T e.size v l.length cs → CatR (ShR w fz e) l cs → MARs w fz (rowBlk v) e ms vs →
    Calls P f (v :: vs).toArray w fun x w' => ∃ u, x = .returned u ∧ (∃ cs', RowV B w' T e.size v l'.length cs' ∧ CatR (ShR w' fz e) l' cs') ∧ Below B w w' ∧ (∀ g, g < w.heap.size → rowBlk v ≠ some g → w'.heap[g]? = w.heap[g]?) ∧ (∀ k, m = some k → SubR e.size 0 k v u)
/-- a call that takes the row, and hands back one -/
def MvC (P : Program) (f : Nat) (T : TypeId) (e : Sh) (l : List e.T) (ms : List (MA e)) (l' : List e.T) : Prop :=
  ∀ (B : Nat) (w : World) (fz : Nat → Prop) (v : Value) (cs vs : List Value), Bs B w → (∀ b, fz b → b < w.heap.size) → (∀ g, rowBlk v = some g → ¬ fz g) → RowV B w T e.size v l.length cs → CatR (ShR w fz e) l cs → MARs w fz (rowBlk v) e ms vs →
    Calls P f (v :: vs).toArray w fun x w' => ∃ u, x = .returned u ∧ (∃ cs', RowV B w' T e.size u l'.length cs' ∧ CatR (ShR w' fz e) l' cs') ∧ Below B w w' ∧ (∀ g, g < w.heap.size → rowBlk v ≠ some g → w'.heap[g]? = w.heap[g]?) ∧ (∀ g, rowBlk u = some g → rowBlk v = some g ∨ w.heap.size ≤ g)
/-- the call's row, and the rest of what it is handed -/
def rowArg (ts : List AV) (mem : List Blk) (e : Sh) (x : Operand) (args : List Operand) : Option (Nat × Nat × TypeId × List e.T × List (MA e)) :=
  match args, ev ts x with
  | s :: rest, some (.fn g .nil) =>
    match ev ts s with
    | some (.row r) =>
      match lk mem r, margs mem r e ts rest with
      | .row T e' l, some ms => if h : e' = e then some (g, r, T, h ▸ l, ms) else none
      | _, _ => none
    | _ => none
  | _, _ => none
theorem rowArg_ok {P : Program} {B : Nat} {w : World} {G : Gh} {mem : List Blk} (hm : MemR B w G mem) {ts : List AV} {a : Act} (ht : TmpsR w G ts a) {o : Oper} {e : Sh} {x : Operand} {args : Array Operand} {tys : Array TypeId} (ho : o.op = .call { callee := .value x, args := args, argTypes := tys })
    {g r : Nat} {T : TypeId} {l : List e.T} {ms : List (MA e)} (h : rowArg ts mem e x args.toList = some (g, r, T, l, ms)) (hcall : callable P g = true) :
    lk mem r = .row T e l ∧ ∃ vs cs, (execOp a.eval o).run P w = .ok (.enter g (G.rowv r :: vs).toArray) w ∧ RowV B w T e.size (G.rowv r) l.length cs ∧ CatR (ShR w G.fz e) l cs ∧ MARs w G.fz (rowBlk (G.rowv r)) e ms vs := by
  unfold rowArg at h
  split at h
  · rename_i s rest g' hargs hx
    split at h
    · rename_i r' hs
      split at h
      · rename_i T' e' l' ms' hlk hms
        split at h
        · rename_i he
          subst he
          simp only [Option.some.injEq, Prod.mk.injEq] at h
          obtain ⟨rfl, rfl, rfl, rfl, rfl⟩ := h
          refine ⟨hlk, rest.map a.eval, ?_⟩
          have hb := hm.blk r'
          rw [hlk] at hb
          obtain ⟨_, cs, hrow, hcat⟩ := hb
          obtain ⟨e1, _⟩ := (show [a.eval s] = [G.rowv r'] ∧ _ from ev_ok ht hs)
          have es : a.eval s = G.rowv r' := by simpa using e1
          obtain ⟨vs, e2, hcv⟩ := (show ∃ vs : List Value, [a.eval x] = [Value.func (.func g') #[] vs.toArray] ∧ CellsR w G .nil vs from ev_ok ht hx)
          obtain rfl : vs = [] := hcv
          have ef : a.eval x = .func (.func g') #[] #[] := by simpa using e2
          have hma := margs_ok (r := r') hm ht rest ms' hms
          rw [show (lk mem r').live G r' = rowBlk (G.rowv r') by rw [hlk]; rfl] at hma
          refine ⟨cs, ?_, hrow, hcat, hma⟩
          simp only [execOp, ho, resolve, ef, Deferred.ofValue, Sem.run_bind, Sem.run_pure, Result.andThen_ok, invoke]
          rw [run_callFunc hcall]
          congr 2
          apply Array.ext'
          simp [hargs, es]
        · cases h
      · cases h
    · cases h
  · cases h
def evInp (P : Program) (ts : List AV) (mem : List Blk) (x : Operand) (args : List Operand) (e : Sh) (l' : List e.T) (m : Option Nat) : Option (Nat × Blk × AV × Prop) :=
  match rowArg ts mem e x args with
  | some (g, r, T, l, ms) => if callable P g = true then some (r, .row T e l', (match m with | some k => .sub r e.size 0 k | none => .unk), FxC P g T e l ms l' m) else none
  | none => none
theorem evInp_ok {P : Program} {o : Oper} {ts : List AV} {mem : List Blk} {x : Operand} {args : Array Operand} {tys : Array TypeId} {e : Sh} {l' : List e.T} {m : Option Nat} {b : Nat} {blk : Blk} {av : AV} {C : Prop} (ho : o.op = .call { callee := .value x, args := args, argTypes := tys }) (h : evInp P ts mem x args.toList e l' m = some (b, blk, av, C)) :
    FxOk P o ts mem b blk av C ∧ lk mem b ≠ .dead ∧ (∃ T l, blk = .row T e l) ∧ ∀ r ∈ av.refs, r = b := by
  unfold evInp at h
  split at h
  · rename_i g r T l ms hra
    split at h
    · rename_i hcall
      simp only [Option.some.injEq, Prod.mk.injEq] at h
      obtain ⟨rfl, rfl, rfl, rfl⟩ := h
      have hnd : lk mem r ≠ .dead := by
        have h2 := hra
        unfold rowArg at h2
        split at h2
        · split at h2
          · split at h2
            · rename_i hlk _
              split at h2
              · simp only [Option.some.injEq, Prod.mk.injEq] at h2
                obtain ⟨_, rfl, _⟩ := h2
                rw [hlk]; exact fun h => by cases h
              · cases h2
            · cases h2
          · cases h2
        · cases h2
      refine ⟨?_, hnd, ⟨T, l', rfl⟩, fun q hq => ?_⟩
      · intro B w G a hC hm ht next Q hn
        have hfx := hC
        obtain ⟨hlk, vs, cs, hrun, hrow, hcat, hma⟩ := rowArg_ok (P := P) hm ht ho hra hcall
        have hlive : (lk mem r).live G r = rowBlk (G.rowv r) := by rw [hlk]; rfl
        unfold Oper.wp
        rw [hrun]
        refine (hfx B w G.fz (G.rowv r) cs vs hm.base hm.fz (fun g hg => (hm.own r g (by rw [hlive]; exact hg)).2.2) hrow hcat hma).mono ?_
        rintro ex w' ⟨u, rfl, ⟨cs', hrow', hcat'⟩, hbel, hfr, hres⟩
        have hk : Keeps G.fz G.fz w w' := ⟨hbel.size, fun b hf hlt => hfr b hlt (fun ho => (hm.own r b (by rw [hlive]; exact ho)).2.2 hf), fun _ h => h⟩
        have hlv : ∀ i, (lk (mem.set r (.row T e l')) i).live G i = (lk mem i).live G i := by
          intro i
          rw [lk_set]
          split
          · rename_i hh; rw [hh.1, hlk]; rfl
          · rfl
        refine hn u w' hbel hk ⟨fun i => ?_, fun i j y hij hi hj => ?_, fun i y hi => ?_, fun b hb => Nat.lt_of_lt_of_le (hm.fz b hb) hbel.size, hm.base.below hbel⟩ ?_
        · rw [lk_set]
          split
          · rename_i hh
            have hb := hm.blk r
            rw [hlk] at hb
            rw [hh.1]
            exact ⟨hb.1, cs', hrow', hcat'⟩
          · rename_i hh
            by_cases hir : i = r
            · subst hir
              have : ¬ i < mem.length := fun hlt => hh ⟨rfl, hlt⟩
              rw [lk_big (by omega)]; trivial
            · refine (hm.blk i).keep hk ⟨rfl, rfl⟩ (fun _ _ => ⟨rfl, rfl⟩) (Nat.le_refl _) (fun y hy => ?_)
              exact hfr y (hm.own i y hy).2.1 (fun ho => hm.apart i r y hir hy (by rw [hlive]; exact ho))
        · rw [hlv] at hi hj
          exact hm.apart i j y hij hi hj
        · rw [hlv] at hi
          have := hm.own i y hi
          exact ⟨this.1, Nat.lt_of_lt_of_le this.2.1 hbel.size, this.2.2⟩
        · cases m with
          | none => trivial
          | some k => exact ⟨u, rfl, hres k rfl⟩
      · cases m with
        | none => cases hq
        | some k => simpa [AV.refs] using hq
    · cases h
  · cases h
end Go.Proofs.YtbpjinefbnlenaaGreatDoor
