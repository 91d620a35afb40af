/- A machine of values, part 37: strings.Index; the last rune of a text. -/
import Derived.Test.YtekmnhplhoejdaaDoorAm32
import Derived.Lib.SpaceU
namespace Go.Proofs.YtekmnhplhoejdaaDoor
open Go Go.RowKit
set_option linter.unusedVariables false
theorem PureC.index {P : Program} {f : Nat} (hg : GI = true) (s sub : List UInt8) (hs : s.length < 4294967281)
    (h : ∀ (s sub : ByteArray) (m : Int) (w : World), s.size < 4294967281 → w.cell? ⟨2, 0, none⟩ = some (.int .i64 m) → Calls P f #[.string s, .string sub] w fun e w' => e = .returned (.int .i64 (Lib.index s.data.toList sub.data.toList)) ∧ w' = w) :
    PureC P f [.str s, .str sub] (.int .i64 (Lib.index s sub)) [] := by
  intro w fz vs hfz ha
  obtain ⟨v1, t1, rfl, h2, v2, t2, rfl, h3, h4⟩ := ha
  simp only [ArgsR] at h4
  subst h4
  have e1 : [v1] = [Value.string ⟨s.toArray⟩] := h2
  have e2 : [v2] = [Value.string ⟨sub.toArray⟩] := h3
  obtain rfl : v1 = .string ⟨s.toArray⟩ := by simpa using e1
  obtain rfl : v2 = .string ⟨sub.toArray⟩ := by simpa using e2
  obtain ⟨_, m, hm⟩ := hfz.2.2 hg
  refine (h ⟨s.toArray⟩ ⟨sub.toArray⟩ m w (by rw [str_size]; exact hs) hm).mono ?_
  rintro e w' ⟨rfl, rfl⟩
  exact ⟨_, G0 fz, rfl, NewR.none (Below.refl _ _), rfl⟩
theorem PureC.lastRune {P : Program} {f : Nat} (hg : GI = true) (hg2 : GT = true) (s : List UInt8) (hs : s.length ≤ 9223372036854775807)
    (h : ∀ (s : ByteArray) (w : World), s.size ≤ 9223372036854775807 → TabsAt w → Calls P f #[.string s] w fun e w' => e = .returned (.tuple #[.int .i32 (Lib.decodeLastL s.data.toList).1, .int .i64 (Lib.decodeLastL s.data.toList).2]) ∧ Below w.heap.size w w') :
    PureC P f [.str s] (.tup (.cons (.int .i32 (((Lib.decodeLastL s).1 : Nat) : Int)) (.cons (.int .i64 (((Lib.decodeLastL s).2 : Nat) : Int)) .nil))) [] := by
  intro w fz vs hfz ha
  obtain ⟨v1, t1, rfl, h2, h4⟩ := ha
  simp only [ArgsR] at h4
  subst h4
  have e1 : [v1] = [Value.string ⟨s.toArray⟩] := h2
  obtain rfl : v1 = .string ⟨s.toArray⟩ := by simpa using e1
  refine (h ⟨s.toArray⟩ w (by rw [str_size]; exact hs) (((hfz.2.2 hg).1.2 hg2).2.2)).mono ?_
  rintro e w' ⟨rfl, hb⟩
  exact ⟨_, G0 fz, rfl, NewR.none hb, _, rfl, _, _, rfl, rfl, _, _, rfl, rfl, rfl⟩
end Go.Proofs.YtekmnhplhoejdaaDoor
