/- route.Read: the contract, as the machine takes it. -/
import Derived.Test.YtgjklpadcmedkaaDoorRtRead
namespace Go.Proofs.YtgjklpadcmedkaaDoor
open Go Go.RowKit
set_option linter.unusedVariables false

theorem read_ok (n : Nat) (s : List UInt8) (c : s.length ≤ 1099511627776 ∧ readC n s = true) : PureC Tryd.prog 6 [.str s] (.tup (.cons (.row 0) (.cons (.int .i64 (readV n s).2) .nil))) [.row 3 (.int .i64) (readV n s).1] := by
  intro w fz vs hfz ha
  obtain ⟨v1, t1, rfl, h2, h4⟩ := ha
  have h2' : [v1] = [Value.string (bytesOf s)] := h2
  obtain rfl : v1 = Value.string (bytesOf s) := by simpa using h2'
  simp only [ArgsR] at h4
  subst h4
  refine (read_calls n s c.1 c.2 w hfz.2).mono ?_
  rintro e W' ⟨v, rfl, hown, hb⟩
  obtain ⟨h5, h6⟩ := rowv_new (fz := fz) (e := .int .i64) (l := (readV n s).1) (RowV.ofOwns hown) (catInts _) hb hfz.1
  exact ⟨_, _, rfl, h5, _, rfl, v, _, rfl, h6, _, _, rfl, rfl, rfl⟩
end Go.Proofs.YtgjklpadcmedkaaDoor
