/- A machine of values, part 28: contracts of the library's text functions. -/
import Derived.Test.YtbpjinefbnlenaaGreatDoorAm27
import Derived.Lib.Join
import Derived.Lib.Repeat
namespace Go.Proofs.YtbpjinefbnlenaaGreatDoor
open Go Go.RowKit
set_option linter.unusedVariables false

theorem CatR.strs {w : World} {fz : Nat → Prop} : ∀ {l : List (List UInt8)} {cs : List Value}, CatR (ShR w fz .str) l cs → cs = l.map fun s => Value.string ⟨s.toArray⟩
  | [], cs, h => h
  | x :: l, cs, ⟨c1, c2, e, h1, h2⟩ => by
    have e1 : c1 = [Value.string ⟨x.toArray⟩] := h1
    have e2 := CatR.strs h2
    rw [e, e1, e2]; rfl
theorem map_data (l : List (List UInt8)) : (l.map fun s => (⟨s.toArray⟩ : ByteArray)).map (·.data.toList) = l := by
  rw [List.map_map]
  have : ((fun x : ByteArray => x.data.toList) ∘ fun s : List UInt8 => (⟨s.toArray⟩ : ByteArray)) = id := by
    funext s; rfl
  rw [this, List.map_id]
/-- strings.Join -/
theorem PureC.join {P : Program} {f : Nat} (l : List (List UInt8)) (sep : List UInt8) (hlen : (Lib.join l sep).length ≤ 140737488355328 ∧ l.length ≤ 140737488355328)
    (h0 : ∀ (a : Option Addr) (c : Nat) (sep : ByteArray) (w : World), Calls P f #[.slice a 0 c, .string sep] w fun e w' => e = .returned (.string ⟨#[]⟩) ∧ w' = w)
    (h1 : ∀ (bk o c : Nat) (xs : List ByteArray) (sep : ByteArray) (w : World), (∀ (j : Nat) x, xs[j]? = some x → w.cell? ⟨bk, o + j, none⟩ = some (.string x)) → bk < w.heap.size → xs.length ≤ 140737488355328 → xs.length ≤ c →
      (Lib.join (xs.map (·.data.toList)) sep.data.toList).length ≤ 140737488355328 → Calls P f #[.slice (some ⟨bk, o, none⟩) xs.length c, .string sep] w fun e w' => e = .returned (.string ⟨(Lib.join (xs.map (·.data.toList)) sep.data.toList).toArray⟩) ∧ Below w.heap.size w w') :
    PureC P f [.sl .str l, .str sep] (.str (Lib.join l sep)) [] := by
  intro w fz vs hfz ha
  obtain ⟨v1, t1, rfl, h2, v2, t2, rfl, h3, h4⟩ := ha
  simp only [ArgsR] at h4
  subst h4
  have e2 : [v2] = [Value.string ⟨sep.toArray⟩] := h3
  obtain rfl : v2 = .string ⟨sep.toArray⟩ := by simpa using e2
  obtain ⟨ad, cap, e1, hlc, hcm, hx⟩ := (show ShR w fz (.sl .str) l [v1] from h2)
  obtain rfl : v1 = .slice ad l.length cap := by simpa using e1
  by_cases hl : l.length = 0
  · obtain rfl : l = [] := List.length_eq_zero_iff.1 hl
    refine (h0 ad cap ⟨sep.toArray⟩ w).mono ?_
    rintro e w' ⟨rfl, rfl⟩
    exact ⟨_, G0 fz, rfl, NewR.none (Below.refl _ _), rfl⟩
  · obtain ⟨b, off, cells, rfl, hf, hb, hcat, hcell⟩ := hx (by omega)
    have hcs := CatR.strs hcat
    subst hcs
    have hm := map_data l
    have hll : (l.map fun s => (⟨s.toArray⟩ : ByteArray)).length = l.length := by simp
    have := h1 b off cap (l.map fun s => (⟨s.toArray⟩ : ByteArray)) ⟨sep.toArray⟩ w (fun j x hj => by
      refine hcell j (.string x) ?_
      rw [List.getElem?_map] at hj ⊢
      cases hq : l[j]? with
      | none => rw [hq] at hj; cases hj
      | some s => rw [hq] at hj; simp only [Option.map_some, Option.some.injEq] at hj ⊢; rw [hj]) hb (by rw [hll]; exact hlen.2) (by rw [hll]; exact hlc) (by rw [hm]; exact hlen.1)
    rw [hll, hm] at this
    refine this.mono ?_
    rintro e w' ⟨rfl, hbel⟩
    exact ⟨_, G0 fz, rfl, NewR.none hbel, rfl⟩
end Go.Proofs.YtbpjinefbnlenaaGreatDoor
