/- An exact machine, part 3: operations that only compute; parts of values. -/
import Derived.Test.YtpmgggfjmkpleaaGreatDoorE2
import Derived.ChangeKeysEq
import Derived.Laws.StructEq
namespace Go.Proofs.YtpmgggfjmkpleaaGreatDoor.E
open Go Go.RowKit
set_option linter.unusedVariables false

inductive R where
  | fail
  | ok (v : V) (n : Nat) (m : M)
/-- the operands are what the machine says -/
def ORel (G : Gh) (op : Op) (ts : T) (a : Act) : Prop := ∀ x ∈ op.operands.toList, CR G (evo ts x) (a.eval x)
theorem TR.orel {G : Gh} {ts : T} {nt : Nat} {a : Act} (h : TR G ts nt a) (op : Op) : ORel G op ts a := fun x _ => evo_ok h x
theorem ORel.ext {G G' : Gh} {op : Op} {ts : T} {a : Act} (h : ORel G op ts a) (he : Ext G G') : ORel G' op ts a := fun x hx => (h x hx).ext he
def PureOK (P : Program) (o : Oper) (ts : T) (v : V) : Prop := ∀ (G : Gh) (a : Act) (w : World), ORel G o.op ts a → ∃ x, (execOp a.eval o).run P w = .ok (.value x) w ∧ CR G v x
def sz (P : Program) (t : TypeId) : Option Nat := match P.info? t with | some i => some i.size | none => none
def isAggT (P : Program) (t : TypeId) : Option Bool := match P.underlying t with | some (.struct _) => some true | some (.array _ _) => some true | some _ => some false | none => none
def zc (P : Program) (t : TypeId) : Option (List V) := match P.info? t with | some i => (match i.zero with | some z => (match z.cells.toList.all Value.oneCell' with | true => some (z.cells.toList.map cv0) | false => none) | none => none) | none => none
theorem sz_run {P : Program} {w : World} {t : TypeId} {k : Nat} (h : sz P t = some k) : (sizeOf t).run P w = .ok k w := by
  unfold sz at h
  split at h
  · rename_i i hi
    obtain rfl := Option.some.inj h
    have h1 : (typeInfo t).run P w = .ok i w := by
      unfold typeInfo program
      simp only [Sem.run_bind]
      simp only [Sem.run, hi, Result.andThen]
      rfl
    unfold sizeOf
    simp only [Sem.run_bind, h1, Result.andThen_ok]
    rfl
  · cases h
theorem zc_run {P : Program} {w : World} {t : TypeId} {l : List V} (h : zc P t = some l) : ∃ z : Value, (zeroValue t).run P w = .ok z w ∧ ∀ G, L1 G l z.cells.toList := by
  unfold zc at h
  split at h
  · rename_i i hi
    split at h
    · rename_i z hz
      split at h
      case h_2 => cases h
      rename_i hone
      obtain rfl := Option.some.inj h
      refine ⟨z, ?_, fun G => ⟨cvs_ok G _, List.all_eq_true.1 hone⟩⟩
      have h1 : (typeInfo t).run P w = .ok i w := by
        unfold typeInfo program
        simp only [Sem.run_bind]
        simp only [Sem.run, hi, Result.andThen]
        rfl
      unfold zeroValue
      simp only [Sem.run_bind, h1, Result.andThen_ok, hz]
      rfl
    · cases h
  · cases h
theorem agg_run {P : Program} {w : World} {t : TypeId} {b : Bool} (h : isAggT P t = some b) : (isAgg t).run P w = .ok b w := by
  unfold isAggT at h
  unfold isAgg
  split at h
  · rename_i hu; obtain rfl := Option.some.inj h; simp only [Sem.run_bind, run_underlying hu, Result.andThen_ok]; rfl
  · rename_i hu; obtain rfl := Option.some.inj h; simp only [Sem.run_bind, run_underlying hu, Result.andThen_ok]; rfl
  · rename_i d h1 h2 hu
    obtain rfl := Option.some.inj h
    simp only [Sem.run_bind, run_underlying hu, Result.andThen_ok]
    cases d <;> first | rfl | exact absurd hu (by intro hh; exact absurd rfl (h1 _)) | exact absurd rfl (h2 _ _)
  · cases h
/-- a value of one cell -/
def scalF : Nat → V → Bool
  | 0, _ => false
  | f + 1, .vec d l => (match Nat.beq l.length (dimN d) with | true => l.all (scalF f) | false => false)
  | _ + 1, .agg _ => false
  | _ + 1, .tup _ => false
  | _ + 1, .unk => false
  | _ + 1, .sp _ _ _ => false
  | _ + 1, _ => true
theorem scal_ok {G : Gh} : ∀ (f : Nat) {v : V} {x : Value}, scalF f v = true → CR G v x → x.cells.toList = [x] ∧ x.oneCell' = true
  | 0, v, x, h, _ => by cases h
  | f + 1, v, x, h, hv => by
    cases hv with
    | vec d l x hx =>
      simp only [scalF] at h
      split at h
      · rename_i hl
        have hl := Nat.eq_of_beq_eq_true hl
        have hlt : G.θ d < l.length := by rw [hl]; exact G.θlt d
        refine scal_ok f (List.all_eq_true.1 h _ ?_) hx
        rw [List.getD_eq_getElem?_getD, List.getElem?_eq_getElem hlt]
        exact List.getElem_mem hlt
      · cases h
    | agg => cases h
    | tup => cases h
    | unk => cases h
    | sp => cases h
    | _ => exact ⟨by simp [Value.cells], rfl⟩
/-- a value's cells -/
def flat : V → Option (List V)
  | .agg l => some l
  | .tup _ => none
  | .unk => none
  | .sp _ _ _ => none
  | .vec d l => (match scalF 5 (.vec d l) with | true => some [.vec d l] | false => none)
  | v => some [v]
theorem flat_ok {G : Gh} {v : V} {x : Value} {l : List V} (h : flat v = some l) (hv : CR G v x) : L1 G l x.cells.toList := by
  have hv0 := hv
  cases hv
  case vec d l hx =>
    simp only [flat] at h
    split at h
    · rename_i hs
      obtain rfl := Option.some.inj h
      obtain ⟨h1, h2⟩ := scal_ok 5 hs hv0
      rw [h1]
      exact ⟨LR.cons hv0 LR.nil, fun v hv => by simp at hv; subst hv; exact h2⟩
    · cases h
  all_goals (simp only [flat, Option.some.injEq, reduceCtorEq] at h <;> subst h)
  case agg l cs e h2 h3 => exact ⟨⟨by simpa [Value.cells] using e, fun i => by simpa [Value.cells] using h2 i⟩, by simpa [Value.cells] using h3⟩
  all_goals (refine ⟨LR.cons hv0 LR.nil, fun v hv => ?_⟩; simp [Value.cells] at hv; subst hv; rfl)
def getR (l : List V) (o n : Nat) : List V := (l.drop o).take n
def setR (l : List V) (o : Nat) (x : List V) : List V := l.take o ++ x ++ l.drop (o + x.length)
noncomputable def nth (l : List V) : Nat → V := List.rec (fun _ => V.unk) (fun x _ ih i => Nat.rec x (fun j _ => ih j) i) l
theorem nth_eq : ∀ (l : List V) (i : Nat), nth l i = l.getD i .unk
  | [], i => rfl
  | x :: l, 0 => rfl
  | x :: l, i + 1 => by show nth l i = _; rw [nth_eq l i]; rfl
theorem LR.nth {G : Gh} {l : List V} {cs : List Value} (h : LR G l cs) (i : Nat) : CR G (E.nth l i) (cs.getD i undef) := by rw [nth_eq]; exact h.2 i
theorem L1.getR {G : Gh} {l : List V} {cs : List Value} (h : L1 G l cs) (o n : Nat) : L1 G (E.getR l o n) ((cs.drop o).take n) := (h.drop o).take n
theorem L1.setR {G : Gh} {l x : List V} {cs ys : List Value} (h : L1 G l cs) (o : Nat) (hx : L1 G x ys) : L1 G (E.setR l o x) (cs.take o ++ ys ++ cs.drop (o + ys.length)) := by
  unfold E.setR
  rw [← hx.lr.1]
  exact ((h.take o).append hx).append (h.drop _)
/-- a part of a value, loaded by its type -/
noncomputable def ldc (P : Program) (t : TypeId) (l : List V) (o : Nat) : Option V :=
  Option.rec none (fun ag => Bool.rec (Bool.rec none (some (nth l o)) (Nat.blt o l.length)) (match sz P t with | some n => (match Nat.ble (o + n) l.length with | true => some (.agg (getR l o n)) | false => none) | none => none) ag) (isAggT P t)
theorem ldc_cases {P : Program} {t : TypeId} {l : List V} {o : Nat} {v : V} (h : ldc P t l o = some v) : (isAggT P t = some false ∧ o < l.length ∧ v = nth l o) ∨ (∃ n, isAggT P t = some true ∧ sz P t = some n ∧ o + n ≤ l.length ∧ v = .agg (getR l o n)) := by
  unfold ldc at h
  cases ha : isAggT P t with
  | none => rw [ha] at h; cases h
  | some b =>
    rw [ha] at h
    cases b with
    | false =>
      left
      cases hb : Nat.blt o l.length with
      | false => simp only [hb] at h; cases h
      | true => simp only [hb] at h; exact ⟨rfl, Nat.le_of_ble_eq_true hb, (Option.some.inj h).symm⟩
    | true =>
      right
      simp only at h
      split at h
      · rename_i n hn
        split at h
        · rename_i hle
          exact ⟨n, rfl, hn, Nat.le_of_ble_eq_true hle, (Option.some.inj h).symm⟩
        · cases h
      · cases h
theorem agg_of {G : Gh} {l : List V} {cs : List Value} (h : L1 G l cs) : CR G (.agg l) (.agg cs.toArray) := .agg l cs h.lr.1 h.lr.2 h.one
theorem part_run {P : Program} {w : World} {G : Gh} {t : TypeId} {l : List V} {cs : List Value} {o : Nat} {v : V} (h : ldc P t l o = some v) (hl : L1 G l cs) : ∃ x, (part t cs.toArray o).run P w = .ok x w ∧ CR G v x := by
  rcases ldc_cases h with ⟨ha, ho, rfl⟩ | ⟨n, ha, hn, ho, rfl⟩
  · refine ⟨cs.getD o undef, ?_, hl.lr.nth o⟩
    have hlt : o < cs.length := by rw [hl.lr.1]; exact ho
    simp only [part, Sem.run_bind, agg_run ha, Result.andThen_ok, Bool.false_eq_true, if_false]
    have e : cs.toArray[o]? = some (cs.getD o undef) := by simp [List.getD_eq_getElem?_getD, hlt]
    simp only [e]
    rfl
  · refine ⟨.agg ((cs.drop o).take n).toArray, ?_, agg_of (hl.getR o n)⟩
    have hlt : o + n ≤ cs.length := by rw [hl.lr.1]; exact ho
    simp only [part, Sem.run_bind, agg_run ha, Result.andThen_ok, if_true, sz_run hn]
    have e : cs.toArray.extract o (o + n) = ((cs.drop o).take n).toArray := by
      apply Array.ext'; simp [List.take_drop]
    simp [e, hlt]
end Go.Proofs.YtpmgggfjmkpleaaGreatDoor.E
