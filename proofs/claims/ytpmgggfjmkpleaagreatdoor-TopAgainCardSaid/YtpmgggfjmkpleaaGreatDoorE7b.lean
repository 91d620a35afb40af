/- An exact machine, part 7b: equal values; the cases of a dimension together. -/
import Derived.Test.YtpmgggfjmkpleaaGreatDoorE7
namespace Go.Proofs.YtpmgggfjmkpleaaGreatDoor.E
open Go Go.RowKit
set_option linter.unusedVariables false

/-! equal values -/
def slEq : List UInt8 → List UInt8 → Bool
  | [], [] => true
  | a :: l, b :: m => match Nat.beq a.toNat b.toNat with | true => slEq l m | false => false
  | _, _ => false
theorem slEq_ok : ∀ {l m : List UInt8}, slEq l m = true → l = m
  | [], [], _ => rfl
  | a :: l, b :: m, h => by
    unfold slEq at h
    split at h
    · rename_i h1
      rw [UInt8.toNat_inj.1 (Nat.eq_of_beq_eq_true h1), slEq_ok h]
    · cases h
  | [], _ :: _, h => by cases h
  | _ :: _, [], h => by cases h
def vsEq (eq : V → V → Bool) : List V → List V → Bool
  | [], [] => true
  | a :: l, b :: m => match eq a b with | true => vsEq eq l m | false => false
  | _, _ => false
def bEq : Bool → Bool → Bool
  | true, true => true
  | false, false => true
  | _, _ => false
theorem bEq_ok {a b : Bool} (h : bEq a b = true) : a = b := by cases a <;> cases b <;> first | rfl | cases h
def vqe : Nat → V → V → Bool
  | 0, _, _ => false
  | _ + 1, .unk, .unk => true
  | _ + 1, .int k a, .int k' b => (match kEq k k' with | true => ieq a b | false => false)
  | _ + 1, .bool a, .bool b => bEq a b
  | _ + 1, .str a, .str b => slEq a b
  | f + 1, .agg l, .agg m => vsEq (vqe f) l m
  | f + 1, .tup l, .tup m => vsEq (vqe f) l m
  | _ + 1, .nils, .nils => true
  | _ + 1, .sl b o n c op, .sl b' o' n' c' op' => (match Nat.beq b b', Nat.beq o o', Nat.beq n n', Nat.beq c c' with | true, true, true, true => bEq op op' | _, _, _, _ => false)
  | _ + 1, .nilp, .nilp => true
  | _ + 1, .ptr b o, .ptr b' o' => (match Nat.beq b b' with | true => Nat.beq o o' | false => false)
  | _ + 1, .nilm, .nilm => true
  | _ + 1, .mp b, .mp b' => Nat.beq b b'
  | _ + 1, .nilf, .nilf => true
  | _ + 1, .nili, .nili => true
  | _ + 1, .tx l, .tx m => nlEq l m
  | f + 1, .vec d l, .vec e m => (match Nat.beq d e with | true => vsEq (vqe f) l m | false => false)
  | _ + 1, _, _ => false
theorem vsEq_ok {eq : V → V → Bool} (h : ∀ a b, eq a b = true → a = b) : ∀ {l m : List V}, vsEq eq l m = true → l = m
  | [], [], _ => rfl
  | a :: l, b :: m, e => by
    unfold vsEq at e
    split at e
    · rename_i h1
      rw [h a b h1, vsEq_ok h e]
    · cases e
  | [], _ :: _, e => by cases e
  | _ :: _, [], e => by cases e
theorem vqe_ok : ∀ (f : Nat) (a b : V), vqe f a b = true → a = b
  | 0, _, _, h => by cases h
  | f + 1, a, b, h => by
    unfold vqe at h
    split at h
    · rename_i e; cases e
    · rfl
    · split at h
      · rename_i hk
        rw [kEq_ok hk, beq_iff_eq.1 ((ieq_eq _ _).symm.trans h)]
      · cases h
    · rw [bEq_ok h]
    · rw [slEq_ok h]
    · rename_i f1 l m hq
      obtain rfl : f = f1 := by omega
      rw [vsEq_ok (vqe_ok f) h]
    · rename_i f1 l m hq
      obtain rfl : f = f1 := by omega
      rw [vsEq_ok (vqe_ok f) h]
    · rfl
    · split at h
      · rename_i h1 h2 h3 h4
        rw [Nat.eq_of_beq_eq_true h1, Nat.eq_of_beq_eq_true h2, Nat.eq_of_beq_eq_true h3, Nat.eq_of_beq_eq_true h4, bEq_ok h]
      · cases h
    · rfl
    · split at h
      · rename_i h1
        rw [Nat.eq_of_beq_eq_true h1, Nat.eq_of_beq_eq_true h]
      · cases h
    · rfl
    · rw [Nat.eq_of_beq_eq_true h]
    · rfl
    · rfl
    · rw [nlEq_ok h]
    · rename_i f1 d1 l1 d2 l2 hq
      obtain rfl : f = f1 := by omega
      split at h
      · rename_i h1
        rw [Nat.eq_of_beq_eq_true h1, vsEq_ok (vqe_ok f) h]
      · cases h
    · cases h
def allEq (v : V) : List V → Bool
  | [] => true
  | u :: l => match vqe 5 v u with | true => allEq v l | false => false
theorem allEq_ok {v : V} : ∀ {l : List V}, allEq v l = true → ∀ u ∈ l, u = v
  | [], _, u, hu => by cases hu
  | a :: l, h, u, hu => by
    unfold allEq at h
    split at h
    · rename_i h1
      rcases List.mem_cons.1 hu with rfl | hu
      · exact (vqe_ok 5 _ _ h1).symm
      · exact allEq_ok h u hu
    · cases h
/-! the cases of a dimension together -/
def aggs (k : Nat) : List V → Option (List (List V))
  | [] => some []
  | .agg l :: r => (match Nat.beq l.length k with | true => (match aggs k r with | some ls => some (l :: ls) | none => none) | false => none)
  | _ => none
theorem aggs_ok {k : Nat} : ∀ {vs : List V} {ls : List (List V)}, aggs k vs = some ls → vs = ls.map V.agg ∧ ∀ l ∈ ls, l.length = k
  | [], ls, h => by
    obtain rfl := Option.some.inj h
    exact ⟨rfl, fun l hl => by cases hl⟩
  | v :: r, ls, h => by
    cases v with
    | agg l =>
      simp only [aggs] at h
      split at h
      · rename_i h1
        split at h
        · rename_i ls' h2
          obtain rfl := Option.some.inj h
          obtain ⟨h3, h4⟩ := aggs_ok h2
          exact ⟨by rw [h3]; rfl, fun l' hl' => (List.mem_cons.1 hl').elim (fun e => by rw [e]; exact Nat.eq_of_beq_eq_true h1) (h4 l')⟩
        · cases h
      · cases h
    | _ => cases h
noncomputable def cols (g : List V → V) (ls : List (List V)) (k : Nat) : List V := (List.range k).map fun j => g (ls.map fun l => nth l j)
noncomputable def mrgA (g : List V → V) (d : Nat) (v : V) (vs : List V) : V := match v with
  | .agg l => (match aggs l.length vs with | some ls => .agg (cols g ls l.length) | none => .vec d vs)
  | _ => .vec d vs
noncomputable def mrg : Nat → Nat → List V → V
  | 0, d, vs => .vec d vs
  | _ + 1, d, [] => .vec d []
  | f + 1, d, v :: r => (match allEq v r with
      | true => v
      | false => mrgA (mrg f d) d v (v :: r))
theorem cols_lr {G : Gh} {i k : Nat} {g : List V → V} {ls : List (List V)} {l : List V} {cs : List Value} (hg : ∀ (vs : List V) (x : Value), vs.length = ls.length → CR G (vs.getD i .unk) x → CR G (g vs) x) (hi : ls[i]? = some l) (hk : l.length = k) (h : LR G l cs) : LR G (cols g ls k) cs := by
  refine ⟨by rw [h.1, hk]; simp [cols], fun j => ?_⟩
  by_cases hj : j < k
  · have e : (cols g ls k).getD j .unk = g (ls.map fun l => nth l j) := by
      simp [cols, List.getD_eq_getElem?_getD, hj]
    rw [e]
    refine hg _ _ (by simp) ?_
    rw [List.getD_eq_getElem?_getD, List.getElem?_map, hi, Option.map_some, Option.getD_some, nth_eq]
    exact h.2 j
  · have e : (cols g ls k).getD j .unk = .unk := by
      rw [List.getD_eq_getElem?_getD, List.getElem?_eq_none (by simp [cols]; omega)]; rfl
    rw [e]
    exact .unk _
theorem mrg_ok {G : Gh} {d : Nat} : ∀ (f : Nat) (vs : List V) (x : Value), vs.length = dimN d → CR G (vs.getD (G.θ d) .unk) x → CR G (mrg f d vs) x
  | 0, vs, x, _, h => .vec d vs x h
  | f + 1, [], x, hl, h => .vec d _ x h
  | f + 1, v :: r, x, hl, h => by
    have hlt : G.θ d < (v :: r).length := by rw [hl]; exact G.θlt d
    have hget : (v :: r)[G.θ d]? = some ((v :: r)[G.θ d]) := List.getElem?_eq_getElem hlt
    show CR G (match allEq v r with | true => v | false => mrgA (mrg f d) d v (v :: r)) x
    cases ha : allEq v r with
    | true =>
      have h1 : (v :: r).getD (G.θ d) .unk = v := by
        rw [List.getD_eq_getElem?_getD, hget, Option.getD_some]
        rcases List.mem_cons.1 (List.getElem_mem hlt) with e | e
        · exact e
        · exact allEq_ok ha _ e
      rw [h1] at h
      exact h
    | false =>
      cases v with
      | agg l =>
        show CR G (match aggs l.length (.agg l :: r) with | some ls => .agg (cols (mrg f d) ls l.length) | none => .vec d (.agg l :: r)) x
        cases hg : aggs l.length (.agg l :: r) with
        | none => exact .vec d _ x h
        | some ls =>
          obtain ⟨h1, h2⟩ := aggs_ok hg
          rw [h1] at h hl hlt
          rw [List.length_map] at hl hlt
          have hls : ls[G.θ d]? = some ls[G.θ d] := List.getElem?_eq_getElem hlt
          have e : (ls.map V.agg).getD (G.θ d) .unk = .agg ls[G.θ d] := by
            rw [List.getD_eq_getElem?_getD, List.getElem?_map, hls]; rfl
          rw [e] at h
          cases h with
          | agg _ cs k1 k2 k3 =>
            have hlr := cols_lr (g := mrg f d) (fun vs x hv hx => mrg_ok f vs x (hv.trans hl) hx) hls (h2 _ (List.getElem_mem hlt)) ⟨k1, k2⟩
            exact .agg _ cs hlr.1 hlr.2 k3
      | _ => exact .vec d _ x h
def cellsL (t : TypeId) (op : Option Nat) (k : Nat) : List Bk → Option (List (List V))
  | [] => some []
  | .cells t' l op' :: r => (match Nat.beq t t', Nat.beq l.length k, decide (op = op') with
    | true, true, true => (match cellsL t op k r with | some ls => some (l :: ls) | none => none)
    | _, _, _ => none)
  | _ => none
theorem cellsL_ok {t : TypeId} {op : Option Nat} {k : Nat} : ∀ {bs : List Bk} {ls : List (List V)}, cellsL t op k bs = some ls → bs = ls.map (fun l => Bk.cells t l op) ∧ ∀ l ∈ ls, l.length = k
  | [], ls, h => by
    obtain rfl := Option.some.inj h
    exact ⟨rfl, fun l hl => by cases hl⟩
  | b :: r, ls, h => by
    cases b with
    | cells t' l op' =>
      simp only [cellsL] at h
      split at h
      · rename_i h1 h2 h3
        split at h
        · rename_i ls' h4
          obtain rfl := Option.some.inj h
          obtain ⟨h5, h6⟩ := cellsL_ok h4
          obtain rfl := Nat.eq_of_beq_eq_true h1
          obtain rfl := of_decide_eq_true h3
          exact ⟨by rw [h5]; rfl, fun l' hl' => (List.mem_cons.1 hl').elim (fun e => by rw [e]; exact Nat.eq_of_beq_eq_true h2) (h6 l')⟩
        · cases h
      · cases h
    | _ => cases h
noncomputable def mrgB (d : Nat) : List Bk → Option Bk
  | .cells t l op :: r => (match cellsL t op l.length (.cells t l op :: r) with | some ls => some (.cells t (cols (mrg 5 d) ls l.length) op) | none => none)
  | _ => none
theorem mrgB_ok {w : World} {G : Gh} {b d : Nat} {bs : List Bk} {x : Bk} (hl : bs.length = dimN d) (h : mrgB d bs = some x) (hb : ∀ y, bs[G.θ d]? = some y → BkR w G b y) : BkR w G b x := by
  unfold mrgB at h
  split at h
  · rename_i t l op r
    split at h
    · rename_i ls hls
      obtain rfl := Option.some.inj h
      obtain ⟨h1, h2⟩ := cellsL_ok hls
      rw [h1] at hb hl
      rw [List.length_map] at hl
      have hlt : G.θ d < ls.length := by rw [hl]; exact G.θlt d
      have hget : ls[G.θ d]? = some ls[G.θ d] := List.getElem?_eq_getElem hlt
      obtain ⟨cv, rest, fr, k1, k2, k3, k4, k5⟩ := hb (.cells t ls[G.θ d] op) (by rw [List.getElem?_map, hget]; rfl)
      exact ⟨cv, rest, fr, k1, k2, ⟨cols_lr (g := mrg 5 d) (fun vs x hv hx => mrg_ok 5 vs x (hv.trans hl) hx) hget (h2 _ (List.getElem_mem hlt)) k3.lr, k3.one⟩, k4, k5⟩
    · cases h
  · cases h
end Go.Proofs.YtpmgggfjmkpleaaGreatDoor.E
