/- A machine of values, part 36: a small number's numeral (strconv.Itoa). -/
import Derived.Test.YtgjklpadcmedkaaDoorAm28
import Derived.Lib.ItoaNum
namespace Go.Proofs.YtgjklpadcmedkaaDoor
open Go Go.RowKit
set_option linter.unusedVariables false
theorem PureC.itoa {P : Program} {f : Nat} (n : Int) (hn : 0 ≤ n ∧ n < 100) (h : ∀ i : Nat, i < 100 → ∀ w, Calls P f #[.int .i64 i] w fun e w' => e = .returned (.string ⟨(Lib.decDigits i).toArray⟩) ∧ w' = w) : PureC P f [.int .i64 n] (.str (Lib.decDigits n.toNat)) [] := by
  obtain ⟨i, rfl⟩ : ∃ i : Nat, n = i := ⟨n.toNat, by omega⟩
  intro w fz vs hfz ha
  obtain ⟨v1, t1, rfl, h1, h3⟩ := ha
  simp only [ArgsR] at h3
  subst h3
  have e1 : [v1] = [Value.int .i64 i] := h1
  obtain rfl : v1 = .int .i64 i := by simpa using e1
  refine (h i (by omega) w).mono ?_
  rintro e w' ⟨rfl, rfl⟩
  exact ⟨_, G0 fz, rfl, NewR.none (Below.refl _ _), rfl⟩
end Go.Proofs.YtgjklpadcmedkaaDoor
