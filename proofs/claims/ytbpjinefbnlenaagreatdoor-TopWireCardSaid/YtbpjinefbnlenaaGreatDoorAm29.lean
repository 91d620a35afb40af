/- A machine of values, part 29: strings.Trim. -/
import Derived.Test.YtbpjinefbnlenaaGreatDoorAm28
import Derived.Shelf.Strings.SlTrimAscii
namespace Go.Proofs.YtbpjinefbnlenaaGreatDoor
open Go Go.RowKit
set_option linter.unusedVariables false

theorem PureC.trim {P : Program} {f : Nat} (s c : List UInt8) (hc : s.length ≤ 9223372036854775807 ∧ c.length < 4294967281 ∧ (c.all fun b => decide (b.toNat < 128)) = true)
    (h : ∀ (s c : ByteArray) (w : World), s.size ≤ 9223372036854775807 → c.size < 4294967281 → (∀ (j : Nat) b, c.data.toList[j]? = some b → b.toNat < 128) → Calls P f #[.string s, .string c] w fun e w' => e = .returned (.string ⟨(Lib.trimS s.data.toList c.data.toList).toArray⟩) ∧ Below w.heap.size w w') :
    PureC P f [.str s, .str c] (.str (Lib.trimS s c)) [] := by
  intro w fz vs hfz ha
  obtain ⟨v1, t1, rfl, h2, v2, t2, rfl, h3, h4⟩ := ha
  simp only [ArgsR] at h4
  subst h4
  have e1 : [v1] = [Value.string ⟨s.toArray⟩] := h2
  have e2 : [v2] = [Value.string ⟨c.toArray⟩] := h3
  obtain rfl : v1 = .string ⟨s.toArray⟩ := by simpa using e1
  obtain rfl : v2 = .string ⟨c.toArray⟩ := by simpa using e2
  refine (h ⟨s.toArray⟩ ⟨c.toArray⟩ w (by rw [str_size]; exact hc.1) (by rw [str_size]; exact hc.2.1) (ascii_of_all hc.2.2)).mono ?_
  rintro e w' ⟨rfl, hbel⟩
  exact ⟨_, G0 fz, rfl, NewR.none hbel, rfl⟩
end Go.Proofs.YtbpjinefbnlenaaGreatDoor
