/- An exact machine, part 13b: operations case by case. -/
import Derived.Test.YtpmgggfjmkpleaaGreatDoorE13
namespace Go.Proofs.YtpmgggfjmkpleaaGreatDoor.E
open Go Go.RowKit
set_option linter.unusedVariables false

/-- a value, in one case of a dimension -/
noncomputable def prj : Nat → Nat → Nat → V → V
  | 0, _, _, v => v
  | f + 1, d, i, .vec e l => (match Nat.beq e d with | true => prj f d i (nth l i) | false => .vec e (l.map (prj f d i)))
  | f + 1, d, i, .agg l => .agg (l.map (prj f d i))
  | f + 1, d, i, .tup l => .tup (l.map (prj f d i))
  | _, _, _, v => v
theorem prj_unk (f d i : Nat) : prj f d i .unk = .unk := by cases f <;> rfl
theorem map_get {G : Gh} {g : V → V} (hg : ∀ v x, CR G v x → CR G (g v) x) (l : List V) (i : Nat) (x : Value) (h : CR G (l.getD i .unk) x) : CR G ((l.map g).getD i .unk) x := by
  rw [List.getD_eq_getElem?_getD] at h ⊢
  rw [List.getElem?_map]
  cases e : l[i]? with
  | none => exact .unk _
  | some v => rw [e] at h; exact hg v x h
theorem prj_ok {G : Gh} {d : Nat} : ∀ (f : Nat) (v : V) (x : Value), CR G v x → CR G (prj f d (G.θ d) v) x
  | 0, v, x, h => h
  | f + 1, v, x, h => by
    cases h with
    | vec e l x hx =>
      show CR G (match Nat.beq e d with | true => prj f d (G.θ d) (nth l (G.θ d)) | false => .vec e (l.map (prj f d (G.θ d)))) x
      cases hb : Nat.beq e d with
      | true =>
        obtain rfl := Nat.eq_of_beq_eq_true hb
        rw [nth_eq]
        exact prj_ok f _ x hx
      | false => exact .vec e _ x (map_get (prj_ok f) l _ x hx)
    | agg l cs h1 h2 h3 => exact .agg _ cs (by rw [h1, List.length_map]) (fun i => map_get (prj_ok f) l i _ (h2 i)) h3
    | tup l cs h1 h2 => exact .tup _ cs (by rw [h1, List.length_map]) (fun i => map_get (prj_ok f) l i _ (h2 i))
    | _ => constructor <;> assumption
noncomputable def prjB (d i : Nat) : Bk → Bk
  | .cells t l op => .cells t (l.map (prj 5 d i)) op
  | .map es => .map (es.map fun p => (prj 5 d i p.1, prj 5 d i p.2))
  | b => b
theorem prjE_ok {G : Gh} {d : Nat} : ∀ {es : List (V × V)} {ys : List MapEntry}, EntsR G es ys → EntsR G (es.map fun p => (prj 5 d (G.θ d) p.1, prj 5 d (G.θ d) p.2)) ys
  | [], _, h => h
  | p :: es, _, ⟨y, t, e, h1, h2⟩ => ⟨y, t, e, ⟨prj_ok 5 _ _ h1.1, prj_ok 5 _ _ h1.2⟩, prjE_ok h2⟩
theorem prjB_ok {w : World} {G : Gh} {d b : Nat} {bk : Bk} (h : BkR w G b bk) : BkR w G b (prjB d (G.θ d) bk) := by
  cases bk with
  | dead => exact h
  | cells t l op =>
    obtain ⟨cv, rest, fr, h1, h2, h3, h4, h5⟩ := h
    exact ⟨cv, rest, fr, h1, h2, ⟨⟨by rw [h3.lr.1, List.length_map], fun i => map_get (prj_ok 5) l i _ (h3.lr.2 i)⟩, h3.one⟩, h4, h5⟩
  | map es =>
    obtain ⟨ys, c, h1, h2⟩ := h
    exact ⟨ys, c, h1, prjE_ok h2⟩
  | iter s p => exact h
end Go.Proofs.YtpmgggfjmkpleaaGreatDoor.E
