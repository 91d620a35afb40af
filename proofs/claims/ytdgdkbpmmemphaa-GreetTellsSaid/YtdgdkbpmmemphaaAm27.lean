import Derived.Test.YtdgdkbpmmemphaaAm25
namespace Go.Proofs.Ytdgdkbpmmemphaa
open Go Go.RowKit
set_option linter.unusedVariables false
section
variable {w : World} {G : Gh} {r : Nat} {x : AV} {fz' : Nat → Prop}
end
section
variable {P : Program} {w0 : World} {fz0 : Nat → Prop} {st : St} {Q : Exit → Act → World → Prop} {ops : Array Oper} {k : Nat}
end
theorem PureC.textByte {P : Program} {f : Nat} (s : List UInt8) (c r : Int) (h : ∀ w, Calls P f #[.string ⟨s.toArray⟩, .int .u8 c] w fun e w' => e = .returned (.int .i64 r) ∧ w' = w) : PureC P f [.str s, .int .u8 c] (.int .i64 r) [] := by
  intro w fz vs hfz ha
  obtain ⟨v1, t1, rfl, h1, v2, t2, rfl, h2, h3⟩ := ha
  simp only [ArgsR] at h3
  subst h3
  have e1 : [v1] = [Value.string ⟨s.toArray⟩] := h1
  have e2 : [v2] = [Value.int .u8 c] := h2
  obtain rfl : v1 = .string ⟨s.toArray⟩ := by simpa using e1
  obtain rfl : v2 = .int .u8 c := by simpa using e2
  refine (h w).mono ?_
  rintro e w' ⟨rfl, rfl⟩
  exact ⟨_, G0 fz, rfl, NewR.none (Below.refl _ _), rfl⟩
theorem ai {a b : Prop} (x : a) (y : b) : a ∧ b := ⟨x, y⟩
theorem tv : True := trivial
end Go.Proofs.Ytdgdkbpmmemphaa
