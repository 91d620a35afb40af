/- A machine of values, part 27: an own variable that is given up: seen by all, written by none; contracts of the shelf. -/
import Derived.Test.YtghbnolfadnoaaaGreatAm25
import Derived.Lib.Join
import Derived.Lib.Repeat
import Derived.Shelf.Strings.Builder1
import Derived.Shelf.Strings.Builder2
import Derived.Shelf.Strings.OnBuilder
import Derived.Shelf.Small.Strs
import Derived.Shelf.Strings.BuilderF
import Derived.Shelf.Strings.BuilderK
import Derived.Shelf.Strings.Builder2Cap
import Derived.Shelf.Strings.Search1
import Derived.Shelf.Strings.Prefix
import Derived.Shelf.Strings.BuilderCap
import Derived.Shelf.Slices.Turned
import Derived.Shelf.Slices.Equal
import Derived.Ground.Names2Prog
import Derived.Shelf.Slices.Clone
import Derived.Shelf.Slices.Empties2
import Derived.Test.YtghbnolfadnoaaaGreatProg
import Derived.Lib.AppendStr
namespace Go.Proofs.YtghbnolfadnoaaaGreat
open Go Go.RowKit
set_option linter.unusedVariables false
section
variable {w : World} {G : Gh} {r : Nat} {x : AV} {fz' : Nat → Prop}
end
section
variable {P : Program} {w0 : World} {fz0 : Nat → Prop} {st : St} {Q : Exit → Act → World → Prop} {ops : Array Oper} {k : Nat}
end
theorem PureC.textByte {P : Program} {f : Nat} (s : List UInt8) (c r : Int) (h : ∀ w, Calls P f #[.string ⟨s.toArray⟩, .int .u8 c] w fun e w' => e = .returned (.int .i64 r) ∧ w' = w) : PureC P f [.str s, .int .u8 c] (.int .i64 r) [] := by
 intro w fz vs hfz ha
 obtain ⟨v1, t1, rfl, h1, v2, t2, rfl, h2, h3⟩ := ha
 simp only [ArgsR] at h3
 subst h3
 have e1 : [v1] = [Value.string ⟨s.toArray⟩] := h1
 have e2 : [v2] = [Value.int .u8 c] := h2
 obtain rfl : v1 = .string ⟨s.toArray⟩ := by simpa using e1
 obtain rfl : v2 = .int .u8 c := by simpa using e2
 refine (h w).mono ?_
 rintro e w' ⟨rfl, rfl⟩
 exact ⟨_, G0 fz, rfl, NewR.none (Below.refl _ _), rfl⟩
theorem ai {a b : Prop} (x : a) (y : b) : a ∧ b := ⟨x, y⟩
theorem CatR.strs {w : World} {fz : Nat → Prop} : ∀ {l : List (List UInt8)} {cs : List Value}, CatR (ShR w fz .str) l cs → cs = l.map fun s => Value.string ⟨s.toArray⟩
 | [], cs, h => h
 | x :: l, cs, ⟨c1, c2, e, h1, h2⟩ => by
  have e1 : c1 = [Value.string ⟨x.toArray⟩] := h1
  have e2 := CatR.strs h2
  rw [e, e1, e2]; rfl
theorem map_data (l : List (List UInt8)) : (l.map fun s => (⟨s.toArray⟩ : ByteArray)).map (·.data.toList) = l := by
 rw [List.map_map]
 have : ((fun x : ByteArray => x.data.toList) ∘ fun s : List UInt8 => (⟨s.toArray⟩ : ByteArray)) = id := by
  funext s; rfl
 rw [this, List.map_id]
theorem PureC.join {P : Program} {f : Nat} (l : List (List UInt8)) (sep : List UInt8) (hlen : (Lib.join l sep).length ≤ 140737488355328 ∧ l.length ≤ 140737488355328)
  (h0 : ∀ (a : Option Addr) (c : Nat) (sep : ByteArray) (w : World), Calls P f #[.slice a 0 c, .string sep] w fun e w' => e = .returned (.string ⟨#[]⟩) ∧ w' = w)
  (h1 : ∀ (bk o c : Nat) (xs : List ByteArray) (sep : ByteArray) (w : World), (∀ (j : Nat) x, xs[j]? = some x → w.cell? ⟨bk, o + j, none⟩ = some (.string x)) → bk < w.heap.size → xs.length ≤ 140737488355328 → xs.length ≤ c →
   (Lib.join (xs.map (·.data.toList)) sep.data.toList).length ≤ 140737488355328 → Calls P f #[.slice (some ⟨bk, o, none⟩) xs.length c, .string sep] w fun e w' => e = .returned (.string ⟨(Lib.join (xs.map (·.data.toList)) sep.data.toList).toArray⟩) ∧ Below w.heap.size w w') :
  PureC P f [.sl .str l, .str sep] (.str (Lib.join l sep)) [] := by
 intro w fz vs hfz ha
 obtain ⟨v1, t1, rfl, h2, v2, t2, rfl, h3, h4⟩ := ha
 simp only [ArgsR] at h4
 subst h4
 have e2 : [v2] = [Value.string ⟨sep.toArray⟩] := h3
 obtain rfl : v2 = .string ⟨sep.toArray⟩ := by simpa using e2
 obtain ⟨ad, cap, e1, hlc, hcm, hx⟩ := (show ShR w fz (.sl .str) l [v1] from h2)
 obtain rfl : v1 = .slice ad l.length cap := by simpa using e1
 by_cases hl : l.length = 0
 ·obtain rfl : l = [] := List.length_eq_zero_iff.1 hl
  refine (h0 ad cap ⟨sep.toArray⟩ w).mono ?_
  rintro e w' ⟨rfl, rfl⟩
  exact ⟨_, G0 fz, rfl, NewR.none (Below.refl _ _), rfl⟩
 ·obtain ⟨b, off, cells, rfl, hf, hb, hcat, hcell⟩ := hx (by omega)
  have hcs := CatR.strs hcat
  subst hcs
  have hm := map_data l
  have hll : (l.map fun s => (⟨s.toArray⟩ : ByteArray)).length = l.length := by simp
  have := h1 b off cap (l.map fun s => (⟨s.toArray⟩ : ByteArray)) ⟨sep.toArray⟩ w (fun j x hj => by
   refine hcell j (.string x) ?_
   rw [List.getElem?_map] at hj ⊢
   cases hq : l[j]? with
   | none => rw [hq] at hj; cases hj
   | some s => rw [hq] at hj; simp only [Option.map_some, Option.some.injEq] at hj ⊢; rw [hj]) hb (by rw [hll]; exact hlen.2) (by rw [hll]; exact hlc) (by rw [hm]; exact hlen.1)
  rw [hll, hm] at this
  refine this.mono ?_
  rintro e w' ⟨rfl, hbel⟩
  exact ⟨_, G0 fz, rfl, NewR.none hbel, rfl⟩
end Go.Proofs.YtghbnolfadnoaaaGreat
namespace Go.Proofs
open Go.Shelf
def Tryz.lays156_ren : Go.Shelf.Ren := ⟨fun | 156 => 56 | 165 => 86 | 166 => 87 | 169 => 88 | 240 => 105 | 241 => 106 | 276 => 112 | 277 => 113 | n => n, fun | 31 => 27 | 9 => 9 | 3 => 3 | 4 => 4 | 0 => 0 | 20 => 20 | 72 => 127 | 76 => 131 | 70 => 125 | 37 => 103 | 75 => 130 | 127 => 143 | 164 => 148 | 5 => 5 | 80 => 133 | n => n, fun | n => n⟩
theorem Tryz.lays156 : Go.Proofs.Lays.n156 Tryz.prog Tryz.lays156_ren := {
 mixed := by kernel_rfl
 f156 := Tryz.func56.trans (congrArg some (by kernel_rfl))
 f165 := Tryz.func86.trans (congrArg some (by kernel_rfl))
 f166 := Tryz.func87.trans (congrArg some (by kernel_rfl))
 f169 := Tryz.func88.trans (congrArg some (by kernel_rfl))
 f240 := Tryz.func105.trans (congrArg some (by kernel_rfl))
 f241 := Tryz.func106.trans (congrArg some (by kernel_rfl))
 f276 := Tryz.func112.trans (congrArg some (by kernel_rfl))
 f277 := Tryz.func113.trans (congrArg some (by kernel_rfl))
 t0 := Tryz.underlying0
 a0 := Tryz.isAgg0
 z0 := Tryz.sizeOf0
 v0 := Tryz.zeroValue0
 t3 := Tryz.underlying3
 a3 := Tryz.isAgg3
 z3 := Tryz.sizeOf3
 v3 := Tryz.zeroValue3
 t4 := Tryz.underlying4
 a4 := Tryz.isAgg4
 z4 := Tryz.sizeOf4
 v4 := Tryz.zeroValue4
 t9 := Tryz.underlying9
 a9 := Tryz.isAgg9
 z9 := Tryz.sizeOf9
 v9 := Tryz.zeroValue9
 t20 := Tryz.underlying20
 a20 := Tryz.isAgg20
 z20 := Tryz.sizeOf20
 v20 := Tryz.zeroValue20
 t31 := Tryz.underlying27
 a31 := Tryz.isAgg27
 z31 := Tryz.sizeOf27
 v31 := Tryz.zeroValue27
 t37 := Tryz.underlying103
 a37 := Tryz.isAgg103
 z37 := Tryz.sizeOf103
 v37 := Tryz.zeroValue103
 t70 := Tryz.underlying125
 a70 := Tryz.isAgg125
 z70 := Tryz.sizeOf125
 v70 := Tryz.zeroValue125
 t72 := Tryz.underlying127
 a72 := Tryz.isAgg127
 z72 := Tryz.sizeOf127
 v72 := Tryz.zeroValue127
 t75 := Tryz.underlying130
 a75 := Tryz.isAgg130
 z75 := Tryz.sizeOf130
 v75 := Tryz.zeroValue130
 t76 := Tryz.underlying131
 a76 := Tryz.isAgg131
 z76 := Tryz.sizeOf131
 v76 := Tryz.zeroValue131
 t127 := Tryz.underlying143
 a127 := Tryz.isAgg143
 z127 := Tryz.sizeOf143
 v127 := Tryz.zeroValue143
 t164 := Tryz.underlying148
 a164 := Tryz.isAgg148
 z164 := Tryz.sizeOf148
 v164 := Tryz.zeroValue148 }
theorem Tryz.Builder_Extra_156 : Builder.Extra Tryz.prog Tryz.lays156_ren := {
 sizeBuilder := by kernel_rfl
 liesBuilder := by kernel_rfl
 t5 := Tryz.underlying5
 a5 := Tryz.isAgg5
 z5 := Tryz.sizeOf5
 v5 := Tryz.zeroValue5
 infoByte := by kernel_rfl
 cellsByte := by kernel_rfl
 sizeByte := by kernel_rfl
 neB5 := by decide }
open Go.RowKit in
theorem Tryz.strings_Join_none (a : Option Addr) (c : Nat) (sep : ByteArray) (w : World) :
  Calls Tryz.prog 56 #[.slice a 0 c, .string sep] w fun e w' => e = .returned (.string ⟨#[]⟩) ∧ w' = w := Any.strings_Join_none Tryz.lays156 Tryz.Builder_Extra_156 a c sep w
open Go.RowKit in
theorem Tryz.strings_Join (bk o c : Nat) (xs : List ByteArray) (sep : ByteArray) (w : World) (hcells : ∀ (j : Nat) x, xs[j]? = some x → w.cell? ⟨bk, o + j, none⟩ = some (.string x)) (hbk : bk < w.heap.size) (hN : xs.length ≤ 140737488355328) (hcap : xs.length ≤ c) (hlen : (Lib.join (xs.map (·.data.toList)) sep.data.toList).length ≤ 140737488355328) :
  Calls Tryz.prog 56 #[.slice (some ⟨bk, o, none⟩) xs.length c, .string sep] w fun e w' => e = .returned (.string ⟨(Lib.join (xs.map (·.data.toList)) sep.data.toList).toArray⟩) ∧ Below w.heap.size w w' := Any.strings_Join Tryz.lays156 Tryz.Builder_Extra_156 bk o c xs sep w hcells hbk hN hcap hlen
def Tryz.lays137_ren : Go.Shelf.Ren := ⟨fun | 137 => 102 | 217 => 110 | 266 => 114 | n => n, fun | 9 => 9 | 5 => 5 | 3 => 3 | n => n, fun | n => n⟩
theorem Tryz.lays137 : Go.Proofs.Lays.n137 Tryz.prog Tryz.lays137_ren := {
 mixed := by kernel_rfl
 f137 := Tryz.func102.trans (congrArg some (by kernel_rfl))
 f217 := Tryz.func110.trans (congrArg some (by kernel_rfl))
 f266 := Tryz.func114.trans (congrArg some (by kernel_rfl))
 t3 := Tryz.underlying3
 a3 := Tryz.isAgg3
 z3 := Tryz.sizeOf3
 v3 := Tryz.zeroValue3
 t5 := Tryz.underlying5
 a5 := Tryz.isAgg5
 z5 := Tryz.sizeOf5
 v5 := Tryz.zeroValue5
 t9 := Tryz.underlying9
 a9 := Tryz.isAgg9
 z9 := Tryz.sizeOf9
 v9 := Tryz.zeroValue9 }
open Go.RowKit in
theorem Tryz.strings_IndexByte (s : ByteArray) (c : Int) (w : World) :
  Calls Tryz.prog 102 #[.string s, .int .u8 c] w fun e w' => e = .returned (.int .i64 (Lib.indexByte s.data.toList c.toNat.toUInt8)) ∧ w' = w := Any.strings_IndexByte Tryz.lays137 s c w
end Go.Proofs
namespace Go.Proofs.YtghbnolfadnoaaaGreat
open Go Go.RowKit
set_option linter.unusedVariables false
theorem PureC.frz {P : Program} {f : Nat} {args : List AV} {T : TypeId} {e : Sh} {l : List e.T} (h : PureC P f args (.row 0) [.row T e l]) : PureC P f args (.sl e l) [] := by
 intro w fz vs hfz ha
 refine (h w fz vs hfz ha).mono ?_
 rintro x w' ⟨v, G', rfl, hn, hv⟩
 obtain ⟨e1, _⟩ := (show [v] = [G'.rowv 0] ∧ _ from hv)
 obtain rfl : v = G'.rowv 0 := by simpa using e1
 have hb : BlkR w.heap.size w' G' 0 (.row T e l) := hn.blk 0
 obtain ⟨_, cs, hrv, hcat⟩ := hb
 let fz' : Nat → Prop := fun b => G'.fz b ∨ rowBlk (G'.rowv 0) = some b
 have hk : Keeps G'.fz fz' w' w' := ⟨Nat.le_refl _, fun _ _ _ => rfl, fun _ h => .inl h⟩
 have hown : ∀ b, rowBlk (G'.rowv 0) = some b → w.heap.size ≤ b ∧ b < w'.heap.size := fun b hb => by
  have := hn.own 0 b hb
  exact ⟨this.1, this.2.1⟩
 refine ⟨_, { (G0 fz) with fz := fz' }, rfl, ⟨hn.below, fun _ _ => ⟨rfl, rfl⟩, fun b hb => .inl (hn.fz1 b hb), fun b hb => ?_, fun j => ?_, fun j k x _ h => ?_, fun j x h => ?_⟩, ?_⟩
 ·rcases hb with hb | hb
  ·exact hn.fz2 b hb
  ·exact .inr (hown b hb)
 ·trivial
 ·simp [lk, Blk.live] at h
 ·simp [lk, Blk.live] at h
 ·show ShR w' fz' (.sl e) l [G'.rowv 0]
  rcases hrv with ⟨hn0, rfl, ad, hv0⟩ | ⟨g, cap, rest, hv0, hcap, hBg, hat, hnc, hcm, hcl, hcr⟩
  ·rw [hv0]
   exact ⟨ad, 0, by rw [hn0], by omega, Nat.zero_le _, fun h => by omega⟩
  ·have hg : rowBlk (G'.rowv 0) = some g := by
    rw [hv0]
    cases cap with
    | zero => omega
    | succ c => rfl
   refine ⟨some ⟨g, 0, none⟩, cap, by rw [hv0], hnc, hcm, fun h0' => ⟨g, 0, cs, rfl, .inr hg, hat.lt, CatR.mono (fun y c hy => ShR.keep hk e y c hy) _ _ hcat, fun i v hi => ?_⟩⟩
   rw [Nat.zero_add]; exact hat.cell hi
def trs : Nat → Prop
 | 0 => True
 | n + 1 => True ∧ trs n
theorem tn : (n : Nat) → trs n
 | 0 => trivial
 | n + 1 => ⟨trivial, tn n⟩
def trc : Nat → Prop → Prop
 | 0, C => C
 | n + 1, C => True ∧ trc n C
theorem an {C : Prop} : (n : Nat) → C → trc n C
 | 0, h => h
 | n + 1, h => ⟨trivial, an n h⟩
section
variable {P : Program} {w0 : World} {fz0 : Nat → Prop} {st : St} {Q : Exit → Act → World → Prop} {ops : Array Oper} {k : Nat}
theorem TS.rg {id : Nat} {C : Prop} (hs : List Hint) (hq : C) (e : okR P ops hs st = C) (hn : XS P w0 fz0 .normal (evR P ops hs st) Q) : TS P w0 fz0 (.region id ops false) st Q := TS.reg hs (prop_of e hq) hn
theorem TS.sq {id : Nat} {b : Code} {C : Prop} (hs : List Hint) (hq : C) (e : okR P ops hs st = C) (hn : TS P w0 fz0 b (evR P ops hs st) Q) : TS P w0 fz0 (.seq (.region id ops false) b) st Q := TS.seq (TS.reg hs (prop_of e hq) (XS.then hn))
theorem TOS.rn {C : Prop} (m : Nat) (hs : List Hint) (hm : Nat.ble (k + m) ops.size = true) (hq : C) (e : okK P ops k m hs st = C) (hn : TOS P w0 fz0 ops (k + m) (evK P ops k m hs st) Q) : TOS P w0 fz0 ops k st Q := TOS.run m hs hm (prop_of e hq) hn
theorem TS.ct {c : Operand} {x y : Code} {b : Bool} (hb : b = true) (hc : ev st.1 c = some (.bool b)) (ht : TS P w0 fz0 x st Q) : TS P w0 fz0 (.cond c x y) st Q := TS.cond b hc (fun _ => ht) (fun h => by rw [hb] at h; cases h)
theorem TS.cf {c : Operand} {x y : Code} {b : Bool} (hb : b = false) (hc : ev st.1 c = some (.bool b)) (hf : TS P w0 fz0 y st Q) : TS P w0 fz0 (.cond c x y) st Q := TS.cond b hc (fun h => by rw [hb] at h; cases h) (fun _ => hf)
theorem TS.cu {D R : Type} (F : D → Option R) (r : R) {c : Code} (tm : D → St) (h1 : ∀ d, F d = some r → XS P w0 fz0 .normal (tm d) Q) (h2 : TS P w0 fz0 c st (Exit.then (AnyS P w0 fz0 tm (fun d => F d = some r)) Q)) : TS P w0 fz0 c st Q := TS.cut tm _ h1 h2
theorem XS.ra {D R : Type} {F : D → Option R} {r : R} {tm : D → St} {d : D} (keep : List Nat) (mask : List Bool) (hi : F d = some r) (h : Go.Proofs.YtghbnolfadnoaaaGreat.re keep mask st.1 st.2 = some (tm d)) : XS P w0 fz0 .normal st (Exit.then (AnyS P w0 fz0 tm (fun d => F d = some r)) Q) := XS.reAny keep mask d hi h
theorem TS.lp {D R : Type} {F : (D → Option R) → D → Option R} {n : Nat} {d : D} {r : R} {c : Code} (keep : List Nat) (mask : List Bool) (tm : D → St) (h : loopF F n d = some r) (h1 : Go.Proofs.YtghbnolfadnoaaaGreat.re keep mask st.1 st.2 = some (tm d))
  (round : ∀ n d, F (loopF F n) d = some r → TS P w0 fz0 c (tm d) (Exit.then (AnyS P w0 fz0 tm (fun d => loopF F n d = some r)) Q)) : TS P w0 fz0 (.loop c) st Q := TS.reLoop keep mask tm (fun n d => loopF F n d = some r) n d h h1 (fun d => loopF_zero _ d r) round
theorem XS.fn {fn : Func} {res : AV} {new : List Blk} {C : Prop} (keep : List Nat) (hC : C) (h : finChk P keep st.1 st.2 fn.results.toList = some (res, new, C)) : XS P w0 fz0 .ret st (Fin P fn w0 fz0 res new) := XS.fin keep C h hC
def savT : Blk → List AV
 | .sav ts _ => ts
 | _ => []
def bkS (P : Program) (fn : Func) (d : Option Tmp) (j : Nat) (st : St) : St :=
 match backSt P fn d j (savT (lk st.2 j)) st with
 | some x => x.1
 | none => ([], [])
def bkC (P : Program) (fn : Func) (d : Option Tmp) (j : Nat) (st : St) : Option Prop :=
 match backSt P fn d j (savT (lk st.2 j)) st with
 | some x => some x.2
 | none => none
theorem XS.bk {fn : Func} {d : Option Tmp} {a : Act} {K : Act → World → Prop} {C : Prop} (j : Nat) (hC : C) (hj : lk st.2 j = .sav (savT (lk st.2 j)) a) (h : bkC P fn d j st = some C) (hn : KS P w0 fz0 K (bkS P fn d j st)) : XS P w0 fz0 .ret st (Back P fn d a K) ∧ XS P w0 fz0 .normal st (Back P fn d a K) := by
 unfold bkC at h
 unfold bkS at hn
 cases hb : backSt P fn d j (savT (lk st.2 j)) st with
 | none => rw [hb] at h; cases h
 | some x =>
  obtain ⟨st', C'⟩ := x
  rw [hb] at h hn
  obtain rfl : C' = C := Option.some.inj h
  exact XS.back j _ st' C' hj hb hC hn
end
theorem StR.swapX {B : Nat} {w0 : World} {fz0 : Nat → Prop} {st : St} {G : Gh} {a : Act} {w : World} (hs : StR B w0 fz0 st.1 st.2 G a w) {r : Nat} {x : Blk} (h : BlkR B w G r x) (hl : x.live G r = (lk st.2 r).live G r) (hr : ∀ q ∈ x.refs, q < st.2.length) : StR B w0 fz0 st.1 (st.2.set r x) G a w := by
 refine ⟨fun t q hq => by rw [List.length_set]; exact hs.rt t q hq, fun j q hq => ?_, hs.tmps, hs.mem.swapX h hl, hs.below, hs.defers, hs.fz1, hs.fz2⟩
 rw [List.length_set]
 rw [lk_set] at hq
 split at hq
 ·exact hr q hq
 ·exact hs.rm j q hq
inductive Wo where
 | toO (r : Nat)
 | mkL (r : Nat) (c : AV)
 | setL (r : Nat)
 | own (t : Nat)
def toOSt (r : Nat) (st : St) : St :=
 match lk st.2 r with
 | .row T e l => (st.1, st.2.set r (.rowl T e l none))
 | _ => st
def mkLSt (r : Nat) (c : AV) (st : St) : St :=
 match lk st.2 r with
 | .rowl T e l none => if refsLt st.2.length c = true then (st.1, st.2.set r (.rowl T e l (some (false, c)))) else st
 | _ => st
def setLSt (r : Nat) (st : St) : St :=
 match lk st.2 r with
 | .rowl T e l (some (z, c)) =>
  match AV.toSh e c with
  | some x => (st.1, st.2.set r (.rowl T e (l ++ cond z [x] []) none))
  | none => st
 | _ => st
def ownSt (t : Nat) (st : St) : St :=
 match st.1.getD t .unk with
 | .sub r s lo n =>
  match rowD st.2 r with
  | some (T, ⟨e, l⟩) => if s = e.size then (st.1.set t (.row st.2.length), st.2.set r .dead ++ [.rowl T e ((l.take (lo + n)).drop lo) none]) else st
  | none => st
 | _ => st
def wo1 (k : Wo) (st : St) : St :=
 match k with
 | .toO r => toOSt r st
 | .mkL r c => mkLSt r c st
 | .setL r => setLSt r st
 | .own t => ownSt t st
theorem SubR.own {B : Nat} {w : World} {fz : Nat → Prop} {t : TypeId} {e : Sh} {l : List e.T} {rv v : Value} {lo n : Nat} (hs : SubR e.size lo n rv v) {cs : List Value} (hrow : RowO B w t e.size rv l.length cs) (hcat : CatR (ShR w fz e) l cs) :
  ∃ us, RowO B w t e.size v ((l.take (lo + n)).drop lo).length us ∧ CatR (ShR w fz e) ((l.take (lo + n)).drop lo) us ∧ (∀ g, rowBlk v = some g → rowBlk rv = some g) := by
 obtain ⟨ad, N, cap, a', e1, hN, hcm, rfl, hle, ha⟩ := hs
 have hNl : N = l.length := by
  obtain ⟨a1, c1, e4, _⟩ := hrow.slice
  rw [e1] at e4
  exact (Value.slice.inj e4).2.1
 have hlen : ((l.take (lo + n)).drop lo).length = n := by rw [List.length_drop, List.length_take]; omega
 have hnb : ∀ g, rowBlk (.slice a' n (cap - lo)) = some g → rowBlk rv = some g := by
  intro g hg
  rw [e1]
  rcases Nat.lt_or_ge lo cap with h | h
  ·rw [ha h] at hg
   obtain ⟨c, hc⟩ : ∃ c, cap - lo = c + 1 := ⟨cap - lo - 1, by omega⟩
   obtain ⟨d, hd⟩ : ∃ d, cap = d + 1 := ⟨cap - 1, by omega⟩
   rw [hc] at hg
   rw [hd]
   cases ad with
   | none => simp [rowBlk] at hg
   | some b =>
    simp only [Option.map_some, rowBlk, Option.some.injEq] at hg ⊢
    rw [← hg]
    unfold Addr.add
    split <;> rfl
  ·rw [show cap - lo = 0 by omega] at hg
   simp [rowBlk] at hg
 obtain ⟨c1, c2, c3, rfl, hl1, hcat2⟩ := CatR.sub (k := e.size) (fun x c hx => ShR.length e x c hx) hcat (lo := lo) (hi := lo + n) (by omega) (by omega)
 have hl2 := CatR.length (fun y c hy => ShR.length e y c hy) _ _ hcat2
 rw [hlen] at hl2
 refine ⟨c2, ?_, hcat2, hnb⟩
 rw [hlen]
 rcases hrow with ⟨hn0, hnil, ax, hval⟩ | ⟨g, pre, cap2, rest, hval, hcap, hBg, ho, h1, h2, h3, h4⟩
 ·rw [hval] at e1
  obtain ⟨rfl, rfl, rfl⟩ := Value.slice.inj e1
  obtain rfl : n = 0 := by omega
  refine .inl ⟨rfl, List.length_eq_zero_iff.1 (by omega), a', by simp⟩
 ·rw [hval] at e1
  obtain ⟨rfl, rfl, rfl⟩ := Value.slice.inj e1
  rcases Nat.lt_or_ge lo cap2 with hlt | hge
  ·have ha' : a' = some ⟨g, (pre ++ c1).length, none⟩ := by rw [ha hlt, Option.map_some, addr_add', List.length_append, hl1]
   rw [ha']
   refine .inr ⟨g, pre ++ c1, cap2 - lo, c3 ++ rest, rfl, by omega, hBg, ?_, by omega, by omega, hl2, ?_⟩
   ·obtain ⟨fr, ho, hfr⟩ := ho
    refine ⟨fr, ?_, ?_⟩
    ·simpa [List.append_assoc] using ho
    ·simpa [List.append_assoc] using hfr
   ·rw [Nat.sub_mul]
    simp only [List.length_append] at h4 ⊢
    omega
  ·obtain rfl : n = 0 := by omega
   refine .inl ⟨rfl, List.length_eq_zero_iff.1 (by omega), a', by rw [show cap2 - lo = 0 by omega]⟩
theorem wo1_ok {B : Nat} {w0 : World} {fz0 : Nat → Prop} {st : St} {G : Gh} {a : Act} {w : World} (hs : StR B w0 fz0 st.1 st.2 G a w) (k : Wo) : ∃ G', StR B w0 fz0 (wo1 k st).1 (wo1 k st).2 G' a w := by
 cases k with
 | toO r =>
  refine ⟨G, ?_⟩
  simp only [wo1, toOSt]
  split
  ·rename_i T e l hlk
   have hb := hs.mem.blk r
   rw [hlk] at hb
   obtain ⟨ha, cs, hrow, hcat⟩ := hb
   refine hs.swapX (x := .rowl T e l none) ⟨hrow.at0 ha, cs, [], ?_, hcat, rfl⟩ (by rw [hlk]; rfl) (fun q hq => by cases hq)
   rw [List.append_nil]; exact hrow.toO
  ·exact hs
 | mkL r c =>
  refine ⟨G, ?_⟩
  simp only [wo1, mkLSt]
  split
  ·rename_i T e l hlk
   split
   ·rename_i hr
    have hb := hs.mem.blk r
    rw [hlk] at hb
    obtain ⟨ha, c1, c2, hrow, hcat, hx⟩ := hb
    obtain rfl : c2 = [] := hx
    exact hs.swapX (x := .rowl T e l (some (false, c))) ⟨ha, c1, [], hrow, hcat, (show LstR w G (some (false, c)) [] from ⟨fun h => (by cases h), fun _ => rfl⟩)⟩ (by rw [hlk]; rfl) (fun q hq => refsLt_ok hr q hq)
   ·exact hs
  ·exact hs
 | setL r =>
  refine ⟨G, ?_⟩
  simp only [wo1, setLSt]
  split
  ·rename_i T e l z c hlk
   split
   ·rename_i x hx
    have hb := hs.mem.blk r
    rw [hlk] at hb
    obtain ⟨ha, c1, c2, hrow, hcat, hlst⟩ := hb
    refine hs.swapX (x := .rowl T e (l ++ cond z [x] []) none) ⟨ha, c1 ++ c2, [], ?_, ?_, rfl⟩ (by rw [hlk]; rfl) (fun q hq => by cases hq)
    ·rw [List.append_nil, List.length_append]
     have : lstN (some (z, c)) = (cond z [x] []).length := by cases z <;> rfl
     rw [this] at hrow
     exact hrow
    ·cases z with
     | true => exact CatR.append hcat (CatR.one (AV.toSh_ok e c x c2 hx (hlst.1 rfl)))
     | false =>
      obtain rfl : c2 = [] := hlst.2 rfl
      exact CatR.append hcat rfl
   ·exact hs
  ·exact hs
 | own t =>
  simp only [wo1, ownSt]
  split
  ·rename_i r s lo n hst
   split
   ·rename_i T e l hrd
    split
    ·rename_i hse
     subst hse
     obtain ⟨cs, hrow, hcat, _, hlive, hnd⟩ := rowD_ok hs.mem hrd
     have hrl : r < st.2.length := lk_lt hnd
     have hv := hs.tmps.val t
     rw [hst] at hv
     obtain ⟨v, e1, hsub⟩ := (show ∃ v, [a.tmps.getD t undef] = [v] ∧ SubR e.size lo n (G.rowv r) v from hv)
     have ev1 : a.tmps.getD t undef = v := by simpa using e1
     obtain ⟨us, hrow2, hcat2, hnb⟩ := hsub.own hrow hcat
     have hput : memPut (st.2.set r .dead) st.2.length [.rowl T e ((l.take (lo + n)).drop lo) none] = st.2.set r .dead ++ [.rowl T e ((l.take (lo + n)).drop lo) none] := by
      have := memPut_end (st.2.set r .dead) [.rowl T e ((l.take (lo + n)).drop lo) none]
      rw [List.length_set] at this
      exact this
     obtain ⟨G', g1, g2, g3, g4, g5⟩ := hs.mem.newBlkAt (w' := w) (mem0 := st.2.set r .dead) (x := .rowl T e ((l.take (lo + n)).drop lo) none) (v' := v) (old := rowBlk (G.rowv r)) st.2.length (fun i => by
       rw [lk_set]; split
       ·exact .inr rfl
       ·exact .inl rfl) (fun i g hg hi => by
       rw [lk_set] at hi
       split at hi
       ·cases hi
       ·rename_i hir
        exact hs.mem.apart i r g (fun e => hir ⟨e, hrl⟩) hi (by rw [hlive]; exact hg)) (fun g hg => (hs.mem.own r g (by rw [hlive]; exact hg)).2.2) (fun i r hr => by have := hs.rm i r hr; omega) (Below.refl _ _) (fun _ _ _ => rfl) (fun g hg => .inl (hnb g hg)) (fun g hg => hrow2.blk hg) (fun G' f1 f2 f3 f4 f5 => by
       refine ⟨⟨by rw [f2, f3]; exact rowAt_self hrow2, us, [], ?_, CatR.mono (fun y c hy => ShR.keep f5 e y c hy) _ _ hcat2, rfl⟩, by show rowBlk (G'.rowv st.2.length) = _; rw [f2]⟩
       rw [f2, List.append_nil]; exact hrow2)
     have hlen : (st.2.set r .dead ++ [Blk.rowl T e ((l.take (lo + n)).drop lo) none]).length = st.2.length + 1 := by simp
     rw [hput] at g1
     refine ⟨G', ⟨fun t' q hq => ?_, fun j q hq => ?_, ⟨by rw [List.length_set]; exact hs.tmps.size, fun t' => ?_⟩, g1, hs.below, hs.defers, by rw [g5]; exact hs.fz1, by rw [g5]; exact hs.fz2⟩⟩
     ·rw [hlen]
      rw [getD_set] at hq
      split at hq
      ·simp [AV.refs] at hq; omega
      ·have := hs.rt t' q hq; omega
     ·rw [hlen]
      rw [← hput, lk_memPut] at hq
      split at hq
      ·rename_i hj
       have : j - st.2.length = 0 := by simp at hj; omega
       rw [this] at hq; cases hq
      ·rw [lk_set] at hq
       split at hq
       ·cases hq
       ·have := hs.rm j q hq; omega
     ·rw [getD_set]
      split
      ·rename_i h
       obtain ⟨rfl, _⟩ := h
       rw [ev1]
       show [v] = [G'.rowv st.2.length] ∧ _
       rw [g4]
       exact ⟨rfl, hrow2.one⟩
      ·exact ValR.keep g2 _ _ (fun q hq => g3 q (by have := hs.rt t' q hq; omega)) (hs.tmps.val t')
    ·exact ⟨G, hs⟩
   ·exact ⟨G, hs⟩
  ·exact ⟨G, hs⟩
theorem lst_ix {z : Bool} {i : Int} {n : Nat} (h : (z && decide (i = ((n : Nat) : Int))) = true) : z = true ∧ i = ((n : Nat) : Int) := by
 simp only [Bool.and_eq_true, decide_eq_true_eq] at h
 exact h
theorem lst_ok {z : Bool} {i : Int} {n : Nat} (h : (z && decide (i = ((n : Nat) : Int))) = true) (s : Nat) : z = true ∧ i.toNat * s = n * s := by
 obtain ⟨h1, h2⟩ := lst_ix h
 exact ⟨h1, by rw [h2, Int.toNat_natCast]⟩
section
variable {P : Program} {w0 : World} {fz0 : Nat → Prop} {st : St} {Q : Exit → Act → World → Prop} {ops : Array Oper} {k : Nat}
theorem TS.wo {c : Code} (r : Wo) (h : TS P w0 fz0 c (wo1 r st) Q) : TS P w0 fz0 c st Q := by
 intro G a w hs
 obtain ⟨G', hs'⟩ := wo1_ok hs r
 exact h G' a w hs'
theorem XS.wo {e : Exit} (r : Wo) (h : XS P w0 fz0 e (wo1 r st) Q) : XS P w0 fz0 e st Q := by
 intro G a w hs
 obtain ⟨G', hs'⟩ := wo1_ok hs r
 exact h G' a w hs'
theorem TOS.wo (r : Wo) (h : TOS P w0 fz0 ops k (wo1 r st) Q) : TOS P w0 fz0 ops k st Q := by
 intro G a w hs
 obtain ⟨G', hs'⟩ := wo1_ok hs r
 exact h G' a w hs'
end
inductive Ctl where
 | code (c : Code)
 | ex (e : Exit)
 | ops (o : Array Oper) (k : Nat)
inductive Fr where
 | seq (c : Code)
 | blk (i : Nat)
 | any (K : Act → World → Prop)
 | bk (fn : Func) (d : Option Tmp) (a : Act) (o : Array Oper) (k : Nat)
 | bj (fn : Func) (d : Option Tmp) (a : Act) (K : Act → World → Prop)
structure Cfg where
 c : Ctl
 f : List Fr
 s : St
inductive Ac where
 | r (h : List (Nat × Hint))
 | d (m : Nat) (kill : List (Nat × Nat)) (h : List (Nat × Hint))
 | e (m : Nat) (kill : List (Nat × Nat)) (h : List (Nat × Hint))
 | o (m : Nat) (h : List (Nat × Hint))
 | y
 | n
 | w (k : Wk)
 | q (k : Wo)
 | f (i : Nat) (p : List Nat) (m : Nat) (kill : List (Nat × Nat)) (h : List (Nat × Hint))
 | b (j : Nat)
def hz : List (Nat × Hint) → List Hint
 | [] => []
 | (k, h) :: l => List.replicate k .none ++ h :: hz l
def Qf (P : Program) (B : Exit → Act → World → Prop) : List Fr → Exit → Act → World → Prop
 | [] => B
 | .seq b :: l => Exit.then (b.wp P (Qf P B l)) (Qf P B l)
 | .blk i :: l => Exit.inBlock i (Qf P B l)
 | .any K :: l => Exit.then K (Qf P B l)
 | .bk fn d a o k :: l => Back P fn d a (wpOps P o (Qf P B l) (List.range' k (o.size - k)))
 | .bj fn d a K :: _ => Back P fn d a K
def W0 (P : Program) (w0 : World) (fz0 : Nat → Prop) (B : Exit → Act → World → Prop) : Cfg → Prop
 | ⟨.code c, f, s⟩ => TS P w0 fz0 c s (Qf P B f)
 | ⟨.ex e, f, s⟩ => XS P w0 fz0 e s (Qf P B f)
 | ⟨.ops o k, f, s⟩ => TOS P w0 fz0 o k s (Qf P B f)
def sil : Cfg → Option Cfg
 | ⟨.code c, f, s⟩ =>
  match c with
  | .seq a b => some ⟨.code a, .seq b :: f, s⟩
  | .skip => some ⟨.ex .normal, f, s⟩
  | .exit i => some ⟨.ex (.exit i), f, s⟩
  | .ret => some ⟨.ex .ret, f, s⟩
  | .block i c => some ⟨.code c, .blk i :: f, s⟩
  | _ => none
 | ⟨.ex e, f, s⟩ =>
  match f with
  | .seq b :: f =>
   match e with
   | .normal => some ⟨.code b, f, s⟩
   | .ret => some ⟨.ex .ret, f, s⟩
   | .exit i => some ⟨.ex (.exit i), f, s⟩
   | _ => none
  | .blk j :: f =>
   match e with
   | .normal => some ⟨.ex .normal, f, s⟩
   | .ret => some ⟨.ex .ret, f, s⟩
   | .exit i =>
    match Nat.decEq i j with
    | .isTrue _ => some ⟨.ex .normal, f, s⟩
    | .isFalse _ => some ⟨.ex (.exit i), f, s⟩
   | _ => none
  | .any _ :: f =>
   match e with
   | .ret => some ⟨.ex .ret, f, s⟩
   | .exit i => some ⟨.ex (.exit i), f, s⟩
   | _ => none
  | _ => none
 | ⟨.ops o k, f, s⟩ =>
  match Nat.ble o.size k with
  | true => some ⟨.ex .normal, f, s⟩
  | false => none
def bkA (P : Program) (j : Nat) (s : St) (f : List Fr) : Option (Cfg × Prop) :=
 match f with
 | .bk fn d a o k :: f =>
  match lk s.2 j with
  | .sav ts a' =>
   match backSt P fn d j ts s with
   | some (s', C) => some (⟨.ops o k, f, s'⟩, a' = a ∧ C)
   | none => none
  | _ => none
 | .bj fn d a K :: f =>
  match lk s.2 j with
  | .sav ts a' =>
   match backSt P fn d j ts s with
   | some (s', C) => some (⟨.ex .normal, .any K :: f, s'⟩, a' = a ∧ C)
   | none => none
  | _ => none
 | _ => none
def act (P : Program) : Ac → Cfg → Option (Cfg × Prop)
 | .r h, ⟨.code c, f, s⟩ =>
  match c with
  | .region _ o false => some (⟨.ex .normal, f, evR P o (hz h) s⟩, okR P o (hz h) s)
  | _ => none
 | .d m k h, ⟨.code c, f, s⟩ =>
  match c with
  | .region _ o true =>
   match P.follows .mixedOrders with
   | true => some (⟨.ex .normal, f, drR P m k o (hz h) s⟩, drOk P m k o (hz h) s)
   | false => none
  | _ => none
 | .e m k h, ⟨.code c, f, s⟩ =>
  match c with
  | .region _ o true =>
   match P.follows .mixedOrders with
   | true => some (⟨.ops o m, f, hdR P m k o (hz h) s⟩, hdOk P m k o (hz h) s)
   | false => none
  | _ => none
 | .o m h, ⟨.code c, f, s⟩ =>
  match c with
  | .region _ o false =>
   match Nat.ble (0 + m) o.size with
   | true => some (⟨.ops o (0 + m), f, evK P o 0 m (hz h) s⟩, okK P o 0 m (hz h) s)
   | false => none
  | _ => none
 | .o m h, ⟨.ops o k, f, s⟩ =>
  match Nat.ble (k + m) o.size with
  | true => some (⟨.ops o (k + m), f, evK P o k m (hz h) s⟩, okK P o k m (hz h) s)
  | false => none
 | .y, ⟨.code c, f, s⟩ =>
  match c with
  | .cond c t e =>
   match ev s.1 c with
   | some (.bool b) => some (⟨.code t, f, s⟩, b = true)
   | _ => none
  | _ => none
 | .n, ⟨.code c, f, s⟩ =>
  match c with
  | .cond c t e =>
   match ev s.1 c with
   | some (.bool b) => some (⟨.code e, f, s⟩, b = false)
   | _ => none
  | _ => none
 | .w k, ⟨c, f, s⟩ => some (⟨c, f, wk1 k s⟩, True)
 | .q k, ⟨c, f, s⟩ => some (⟨c, f, wo1 k s⟩, True)
 | .f i p m k h, ⟨.code c, f, s⟩ =>
  match c with
  | .region _ o true =>
   match P.follows .mixedOrders with
   | true =>
    match (freeOp o i).isSome with
    | true =>
     match subOk p o i with
     | true => some (⟨.ex .normal, f, drR P m k (permA p o) (hz h) (freeSt o i s)⟩, drOk P m k (permA p o) (hz h) (freeSt o i s))
     | false => none
    | false => none
   | false => none
  | _ => none
 | .b j, ⟨.ex e, f, s⟩ =>
  match e with
  | .ret => bkA P j s f
  | .normal => bkA P j s f
  | _ => none
 | _, _ => none
def pri : List Ac → Bool
 | .w _ :: _ => true
 | .q _ :: _ => true
 | _ => false
def silP (l : List Ac) (x : Cfg) : Option Cfg :=
 match pri l with
 | true => none
 | false => sil x
def adv (P : Program) : Nat → List Ac → Cfg → Cfg × Prop
 | 0, _, x => (x, True)
 | n + 1, l, x =>
  match silP l x with
  | some x' => adv P n l x'
  | none =>
   match l with
   | [] => (x, True)
   | a :: l =>
    match act P a x with
    | some (x', C) => ((adv P n l x').1, C ∧ (adv P n l x').2)
    | none => (x, False)
theorem sil_ok {P : Program} {w0 : World} {fz0 : Nat → Prop} {B : Exit → Act → World → Prop} {x x' : Cfg} (h : sil x = some x') (hw : W0 P w0 fz0 B x') : W0 P w0 fz0 B x := by
 obtain ⟨c, f, s⟩ := x
 cases c with
 | code c =>
  cases c <;> simp only [sil, Option.some.injEq, reduceCtorEq] at h <;> subst h
  ·exact TS.skip hw
  ·exact TS.seq hw
  ·exact TS.block hw
  ·exact TS.exit hw
  ·exact TS.ret hw
 | ex e =>
  cases f with
  | nil => simp [sil] at h
  | cons a f =>
   cases a with
   | seq b =>
    cases e <;> simp only [sil, Option.some.injEq, reduceCtorEq] at h <;> subst h
    ·exact XS.then hw
    ·exact XS.passE hw
    ·exact XS.passR hw
   | blk j =>
    cases e with
    | exit i =>
     simp only [sil] at h
     split at h <;> simp only [Option.some.injEq] at h <;> subst h
     ·rename_i hij _
      subst hij
      exact XS.out hw
     ·rename_i hij _
      exact XS.through hij hw
    | normal => simp only [sil, Option.some.injEq] at h; subst h; exact XS.blockEnd hw
    | ret => simp only [sil, Option.some.injEq] at h; subst h; exact XS.blockRet hw
    | _ => simp [sil] at h
   | any K =>
    cases e <;> simp only [sil, Option.some.injEq, reduceCtorEq] at h <;> subst h
    ·exact XS.passE hw
    ·exact XS.passR hw
   | bk fn d a o k => simp [sil] at h
   | bj fn d a K => simp [sil] at h
 | ops o k =>
  simp only [sil] at h
  split at h
  ·rename_i hb
   simp only [Option.some.injEq] at h; subst h
   exact TOS.nil hb hw
  ·cases h
theorem silP_ok {P : Program} {w0 : World} {fz0 : Nat → Prop} {B : Exit → Act → World → Prop} {l : List Ac} {x x' : Cfg} (h : silP l x = some x') (hw : W0 P w0 fz0 B x') : W0 P w0 fz0 B x := by
 unfold silP at h
 split at h
 ·cases h
 ·exact sil_ok h hw
theorem bkA_ok {P : Program} {w0 : World} {fz0 : Nat → Prop} {B : Exit → Act → World → Prop} {j : Nat} {s : St} {f : List Fr} {x' : Cfg} {C : Prop} (h : bkA P j s f = some (x', C)) (hC : C) (hw : W0 P w0 fz0 B x') : XS P w0 fz0 .ret s (Qf P B f) ∧ XS P w0 fz0 .normal s (Qf P B f) := by
 unfold bkA at h
 split at h
 ·split at h
  ·rename_i hj
   split at h
   ·rename_i hb
    simp only [Option.some.injEq, Prod.mk.injEq] at h
    obtain ⟨rfl, rfl⟩ := h
    obtain ⟨rfl, hC⟩ := hC
    exact XS.back j _ _ _ hj hb hC (KS.opsOf hw)
   ·cases h
  ·cases h
 ·split at h
  ·rename_i hj
   split at h
   ·rename_i hb
    simp only [Option.some.injEq, Prod.mk.injEq] at h
    obtain ⟨rfl, rfl⟩ := h
    obtain ⟨rfl, hC⟩ := hC
    exact XS.back j _ _ _ hj hb hC (fun G a w hs => hw G a w hs)
   ·cases h
  ·cases h
 ·cases h
theorem act_ok {P : Program} {w0 : World} {fz0 : Nat → Prop} {B : Exit → Act → World → Prop} {a : Ac} {x x' : Cfg} {C : Prop} (h : act P a x = some (x', C)) (hC : C) (hw : W0 P w0 fz0 B x') : W0 P w0 fz0 B x := by
 unfold act at h
 split at h
 ·split at h
  ·simp only [Option.some.injEq, Prod.mk.injEq] at h
   obtain ⟨rfl, rfl⟩ := h
   exact TS.reg _ hC hw
  ·cases h
 ·split at h
  ·split at h
   ·rename_i hm
    simp only [Option.some.injEq, Prod.mk.injEq] at h
    obtain ⟨rfl, rfl⟩ := h
    exact TS.draw _ _ _ hm hC hw
   ·cases h
  ·cases h
 ·split at h
  ·split at h
   ·rename_i hm
    simp only [Option.some.injEq, Prod.mk.injEq] at h
    obtain ⟨rfl, rfl⟩ := h
    exact TS.drawH _ _ _ hm hC hw
   ·cases h
  ·cases h
 ·split at h
  ·split at h
   ·rename_i hm
    simp only [Option.some.injEq, Prod.mk.injEq] at h
    obtain ⟨rfl, rfl⟩ := h
    exact TS.opsOf (TOS.run _ _ hm hC hw)
   ·cases h
  ·cases h
 ·split at h
  ·rename_i hm
   simp only [Option.some.injEq, Prod.mk.injEq] at h
   obtain ⟨rfl, rfl⟩ := h
   exact TOS.run _ _ hm hC hw
  ·cases h
 ·split at h
  ·split at h
   ·rename_i hm
    simp only [Option.some.injEq, Prod.mk.injEq] at h
    obtain ⟨rfl, rfl⟩ := h
    exact TS.ct hC hm hw
   ·cases h
  ·cases h
 ·split at h
  ·split at h
   ·rename_i hm
    simp only [Option.some.injEq, Prod.mk.injEq] at h
    obtain ⟨rfl, rfl⟩ := h
    exact TS.cf hC hm hw
   ·cases h
  ·cases h
 ·simp only [Option.some.injEq, Prod.mk.injEq] at h
  obtain ⟨rfl, rfl⟩ := h
  rename_i c f s
  cases c with
  | code c => exact TS.wk _ hw
  | ex e => exact XS.wk _ hw
  | ops o k => exact TOS.wk _ hw
 ·simp only [Option.some.injEq, Prod.mk.injEq] at h
  obtain ⟨rfl, rfl⟩ := h
  rename_i c f s
  cases c with
  | code c => exact TS.wo _ hw
  | ex e => exact XS.wo _ hw
  | ops o k => exact TOS.wo _ hw
 ·split at h
  ·split at h
   ·rename_i hm
    split at h
    ·rename_i h1
     split at h
     ·rename_i h2
      simp only [Option.some.injEq, Prod.mk.injEq] at h
      obtain ⟨rfl, rfl⟩ := h
      exact TS.drawF _ _ _ _ _ hm h1 h2 hC hw
     ·cases h
    ·cases h
   ·cases h
  ·cases h
 ·split at h
  ·exact (bkA_ok h hC hw).1
  ·exact (bkA_ok h hC hw).2
  ·cases h
 ·cases h
theorem adv_ok {P : Program} {w0 : World} {fz0 : Nat → Prop} {B : Exit → Act → World → Prop} : ∀ (n : Nat) (l : List Ac) (x : Cfg), (adv P n l x).2 → W0 P w0 fz0 B (adv P n l x).1 → W0 P w0 fz0 B x
 | 0, _, _, _, hw => hw
 | n + 1, l, x, hC, hw => by
  unfold adv at hC hw
  cases hs : silP l x with
  | some x' => simp only [hs] at hC hw; exact silP_ok hs (adv_ok n l x' hC hw)
  | none =>
   simp only [hs] at hC hw
   cases l with
   | nil => exact hw
   | cons a l =>
    simp only at hC hw
    cases ha : act P a x with
    | none => simp only [ha] at hC
    | some r =>
     obtain ⟨x', C⟩ := r
     simp only [ha] at hC hw
     exact act_ok ha hC.1 (adv_ok n l x' hC.2 hw)
def mkm (l : List AV) : List Bool := l.map fun a => match a with | .unk => false | _ => true
def raC (P : Program) (keep : List Nat) (x : Cfg) (t : List AV) : Option ((Act → World → Prop) × St) :=
 match (adv P 999 [] x).1 with
 | ⟨.ex .normal, .any K :: _, s⟩ =>
  match re keep (mkm t) s.1 s.2 with
  | some s' => some (K, s')
  | none => none
 | _ => none
def lpC (P : Program) (keep : List Nat) (x : Cfg) (t : List AV) : Option St :=
 match (adv P 999 [] x).1 with
 | ⟨.code (.loop _), _, s⟩ => re keep (mkm t) s.1 s.2
 | _ => none
def lpB : Cfg → Code
 | ⟨.code (.loop c), _, _⟩ => c
 | _ => .skip
def isC : Cfg → Bool
 | ⟨.code _, _, _⟩ => true
 | _ => false
def finW (P : Program) (fn : Func) (keep : List Nat) (x : Cfg) : Option (AV × List Blk × Prop) :=
 match (adv P 999 [] x).1 with
 | ⟨.ex .ret, [], s⟩ => finChk P keep s.1 s.2 fn.results.toList
 | ⟨.ex .normal, [], s⟩ => finChk P keep s.1 s.2 fn.results.toList
 | _ => none
def opsO : Cfg → Array Oper
 | ⟨.ops o _, _, _⟩ => o
 | _ => #[]
def opsK : Cfg → Nat
 | ⟨.ops _ k, _, _⟩ => k
 | _ => 0
def cS (P : Program) (f nt : Nat) (m : List Nat) (x : Cfg) (a : Act) : Option St :=
 match x with
 | ⟨.ops o k, _, s⟩ => callK P o k f nt (mkMask s.1.length m) s a
 | _ => none
def FinV (P : Program) (fn : Func) (w0 : World) (fz0 : Nat → Prop) {R : Type} (v : R → AV × List Blk) (r : R) : Exit → Act → World → Prop := Fin P fn w0 fz0 (v r).1 (v r).2
def cl (x : AV × List Blk) : Hint := .call x.1 x.2
def ixs (n i : Nat) : Nat → Prop
 | 0 => True
 | m + 1 => (i < n ∧ True) ∧ ixs n (i + 1) m
theorem ixs_ok (n : Nat) : ∀ (m i : Nat), i + m ≤ n → ixs n i m
 | 0, _, _ => trivial
 | m + 1, i, h => ⟨⟨by omega, trivial⟩, ixs_ok n m (i + 1) (by omega)⟩
theorem ix (n : Nat) : ixs n 0 n := ixs_ok n n 0 (by omega)
theorem lt (a b : Nat) (h : Nat.blt a b = true := by rfl) : a < b := Nat.le_of_ble_eq_true h
theorem od {p : Prop} [Decidable p] (h : decide p = true) : p := of_decide_eq_true h
theorem oe {p : Prop} [Decidable p] (h : decide p = false) : ¬p := of_decide_eq_false h
theorem V : True := trivial
theorem N (n : Nat) : trs n := tn n
theorem M {C : Prop} (n : Nat) (h : C) : trc n C := an n h
theorem I {p q : Prop} (h : p) (g : q) : p ∧ q := ⟨h, g⟩
theorem dc (p : Prop) [Decidable p] (h : decide p = true := by rfl) : p := of_decide_eq_true h
theorem rf {α : Sort _} (a : α) : a = a := rfl
theorem tr : true = true := rfl
theorem ff : false = false := rfl
structure W (P : Program) (w0 : World) (fz0 : Nat → Prop) (B : Exit → Act → World → Prop) (x : Cfg) : Prop where
 h : W0 P w0 fz0 B x
section
variable {P : Program} {w0 : World} {fz0 : Nat → Prop} {B : Exit → Act → World → Prop} {x : Cfg} {H : Prop}
theorem A {C : Prop} (k : Nat) (l : List Ac) (q : C) (n : H → W P w0 fz0 B (adv P k l x).1) (e : (adv P k l x).2 = C := by kernel_rfl) : H → W P w0 fz0 B x := fun h => ⟨adv_ok _ _ _ (prop_of e q) (n h).h⟩
def trsL : List Nat → Prop
 | [] => True
 | a :: l => trs a ∧ trsL l
theorem tnL : ∀ l, trsL l
 | [] => trivial
 | a :: l => ⟨tn a, tnL l⟩
def rgs (l : List Nat) : List Ac := l.map fun _ => .r []
theorem Z (k : Nat) (l : List Nat) (n : H → W P w0 fz0 B (adv P k (rgs l) x).1) (e : (adv P k (rgs l) x).2 = trsL l := by kernel_rfl) : H → W P w0 fz0 B x := fun h => ⟨adv_ok _ _ _ (prop_of e (tnL l)) (n h).h⟩
theorem S {α : Type} {r : α} (a : Option α) (n : a = some r → W P w0 fz0 B x) : a = some r → W P w0 fz0 B x := n
theorem D {α : Type} {c : Bool} {a b : Option α} {r : α} (ht : c = true → a = some r → W P w0 fz0 B x) (hf : c = false → b = some r → W P w0 fz0 B x) : (bif c then a else b) = some r → W P w0 fz0 B x := fun h => by
 cases c
 ·exact hf rfl h
 ·exact ht rfl h
theorem Y {α : Type} {c : Bool} {a : Option α} {r : α} (ht : c = true → a = some r → W P w0 fz0 B x) : (bif c then a else none) = some r → W P w0 fz0 B x := fun h => by
 cases c
 ·cases h
 ·exact ht rfl h
theorem U {α β : Type} {a : Option α} {f : α → Option β} {r : β} (ht : ∀ y, a = some y → f y = some r → W P w0 fz0 B x) : (a.bind f) = some r → W P w0 fz0 B x := fun h => by
 obtain ⟨y, h1, h2⟩ := bind_some' h
 exact ht y h1 h2
theorem E {fn : Func} {R : Type} {v : R → AV × List Blk} {r a : R} {C : Prop} (keep : List Nat) (q : C) (e : finW P fn keep x = some ((v a).1, (v a).2, C) := by kernel_rfl) : some a = some r → W P w0 fz0 (FinV P fn w0 fz0 v r) x := by
 intro h
 cases h
 refine ⟨adv_ok 999 [] x ?_ ?_⟩
 ·have : ∀ (n : Nat) (x : Cfg), (adv P n [] x).2 = True := by
   intro n
   induction n with
   | zero => intro x; rfl
   | succ n ih =>
    intro x
    unfold adv
    cases silP [] x with
    | some x' => exact ih x'
    | none => rfl
  rw [this]; trivial
 ·unfold finW at e
  split at e
  ·rename_i s hs
   rw [hs]
   exact XS.fin keep C e q
  ·rename_i s hs
   rw [hs]
   exact XS.finN keep C e q
  ·cases e
theorem adv_nil (n : Nat) : ∀ x : Cfg, (adv P n [] x).2 = True := by
 induction n with
 | zero => intro x; rfl
 | succ n ih =>
  intro x
  unfold adv
  cases silP [] x with
  | some x' => exact ih x'
  | none => rfl
theorem raC_ok {D R : Type} {F : D → Option R} {tm : D → St} {r : R} (keep : List Nat) {d : D} {x : Cfg} (e : raC P keep x (tm d).1 = some (AnyS P w0 fz0 tm (fun d => F d = some r), tm d)) : F d = some r → W P w0 fz0 B x := by
 intro h
 refine ⟨adv_ok 999 [] x (by rw [adv_nil]; trivial) ?_⟩
 unfold raC at e
 split at e
 ·rename_i K f s hs
  rw [hs]
  split at e
  ·rename_i s' hr
   simp only [Option.some.injEq, Prod.mk.injEq] at e
   obtain ⟨rfl, rfl⟩ := e
   exact XS.reAny keep _ d h hr
  ·cases e
 ·cases e
theorem J {D R : Type} (F : D → Option R) (r : R) (tm : D → St) (h1 : ∀ d, F d = some r → W P w0 fz0 B ⟨.ex .normal, x.f, tm d⟩)
  (h2 : (∀ (keep : List Nat) {d : D} {x : Cfg} (e : raC P keep x (tm d).1 = some (AnyS P w0 fz0 tm (fun d => F d = some r), tm d) := by kernel_rfl), F d = some r → W P w0 fz0 B x) → H → W P w0 fz0 B ⟨x.c, .any (AnyS P w0 fz0 tm (fun d => F d = some r)) :: x.f, x.s⟩)
  (e : isC x = true := by kernel_rfl) : H → W P w0 fz0 B x := by
 intro h
 have h3 := h2 (fun keep {d x} e => raC_ok keep e) h
 obtain ⟨c, f, s⟩ := x
 cases c with
 | code c => exact ⟨TS.cut tm _ (fun d hd => (h1 d hd).h) h3.h⟩
 | ex e => cases ‹isC _ = true›
 | ops o k => cases ‹isC _ = true›
theorem L {D R : Type} {F : (D → Option R) → D → Option R} {n : Nat} {d : D} {r : R} (keep : List Nat) (tm : D → St)
  (h : ∀ n, (∀ (keep : List Nat) {d : D} {x : Cfg} (e : raC P keep x (tm d).1 = some (AnyS P w0 fz0 tm (fun d => loopF F n d = some r), tm d) := by kernel_rfl), loopF F n d = some r → W P w0 fz0 B x) → ∀ d, F (loopF F n) d = some r → W P w0 fz0 B ⟨.code (lpB (adv P 999 [] x).1), .any (AnyS P w0 fz0 tm (fun d => loopF F n d = some r)) :: (adv P 999 [] x).1.f, tm d⟩)
  (e : lpC P keep x (tm d).1 = some (tm d) := by kernel_rfl) : loopF F n d = some r → W P w0 fz0 B x := by
 intro h0
 refine ⟨adv_ok 999 [] x (by rw [adv_nil]; trivial) ?_⟩
 unfold lpC at e
 split at e
 ·rename_i c f s hs
  rw [hs]
  rw [hs] at h
  exact TS.lp keep _ tm h0 e (fun n d hd => (h n (fun keep {d x} e => raC_ok keep e) d hd).h)
 ·cases e
theorem K {fn : Func} {c : Code} {f : Nat} (m : List Nat) (hf : P.funcs[f]? = some fn) (hb : fn.body = some c)
  (h : ∀ a, H → W P w0 fz0 B ⟨.code c, .bk fn (dstK (opsO x) (opsK x)) a (opsO x) (opsK x + 1) :: x.f, (cS P f fn.ntmps m x a).getD ([], [])⟩)
  (e : ∀ a, (cS P f fn.ntmps m x a).isSome = true := by intro a; kernel_rfl) : H → W P w0 fz0 B x := by
 intro h0
 obtain ⟨ct, fr, s⟩ := x
 cases ct with
 | code c => cases e ⟨#[], []⟩
 | ex c => cases e ⟨#[], []⟩
 | ops o k =>
  refine ⟨TOS.call f (mkMask s.1.length m) hf hb fun a => ?_⟩
  have h1 := h a h0
  have h2 := e a
  cases hc : cS P f fn.ntmps m ⟨.ops o k, fr, s⟩ a with
  | none => rw [hc] at h2; cases h2
  | some s' => rw [hc] at h1; exact ⟨s', hc, h1.h⟩
theorem K' {D R : Type} {fn : Func} {c : Code} {f : Nat} (F : D → Option R) (r : R) (tm : D → St) (m : List Nat) (hf : P.funcs[f]? = some fn) (hb : fn.body = some c) (h1 : ∀ d, F d = some r → W P w0 fz0 B ⟨.ops (opsO x) (opsK x + 1), x.f, tm d⟩)
  (h : ∀ a, (∀ (keep : List Nat) {d : D} {x : Cfg} (e : raC P keep x (tm d).1 = some (AnyS P w0 fz0 tm (fun d => F d = some r), tm d) := by kernel_rfl), F d = some r → W P w0 fz0 B x) → H → W P w0 fz0 B ⟨.code c, .bj fn (dstK (opsO x) (opsK x)) a (AnyS P w0 fz0 tm (fun d => F d = some r)) :: x.f, (cS P f fn.ntmps m x a).getD ([], [])⟩)
  (e : ∀ a, (cS P f fn.ntmps m x a).isSome = true := by intro a; kernel_rfl) : H → W P w0 fz0 B x := by
 intro h0
 obtain ⟨ct, fr, s⟩ := x
 cases ct with
 | code c => cases e ⟨#[], []⟩
 | ex c => cases e ⟨#[], []⟩
 | ops o k =>
  refine ⟨TOS.callJ tm _ f (mkMask s.1.length m) hf hb (fun d hd => (h1 d hd).h) fun a => ?_⟩
  have h1 := h a (fun keep {d x} e => raC_ok keep e) h0
  have h2 := e a
  cases hc : cS P f fn.ntmps m ⟨.ops o k, fr, s⟩ a with
  | none => rw [hc] at h2; cases h2
  | some s' => rw [hc] at h1; exact ⟨s', hc, h1.h⟩
theorem G {fn : Func} {c : Code} {f : Nat} {args : List AV} {R : Type} {v : R → AV × List Blk} {r : R} (hf : P.funcs[f]? = some fn) (hb : fn.body = some c) (hr : args.all (fun a => a.refs.isEmpty && notTup a) = true)
  (h : ∀ {w0 : World} {fz0 : Nat → Prop}, H → W P w0 fz0 (FinV P fn w0 fz0 v r) ⟨.code c, [], (args ++ List.replicate (fn.ntmps - args.length) .unk, [])⟩) (h0 : H) : PureC P f args (v r).1 (v r).2 := PureC.mkS hf hb hr fun _ _ _ => (h h0).h
end
end Go.Proofs.YtghbnolfadnoaaaGreat
