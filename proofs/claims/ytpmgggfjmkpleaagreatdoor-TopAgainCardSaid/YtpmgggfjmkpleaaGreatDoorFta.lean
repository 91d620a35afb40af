/- TopAgain, as the machine of values takes it: whatever is handed in, it answers true. -/
import Derived.Test.YtpmgggfjmkpleaaGreatDoorAg5
import Derived.Test.YtpmgggfjmkpleaaGreatDoorAm22
namespace Go.Proofs.YtpmgggfjmkpleaaGreatDoor
open Go Go.RowKit
set_option linter.unusedVariables false
set_option maxRecDepth 100000

def inI (a : Int) : Bool := decide (-9223372036854775808 ≤ a) && decide (a ≤ 9223372036854775807)
def F3 (n : Nat) (s p q l : Int) (d : List UInt8) : Option Bool :=
  bif inI s && (inI p && (inI q && (inI l && decide ((d.length : Int) ≤ 9223372036854775807)))) then some true else none
theorem F3_ok (n : Nat) (s p q l : Int) (d : List UInt8) (r : Bool) (h : F3 n s p q l d = some r) : PureC Tryz.prog 3 [(.int .i64 s), (.int .i64 p), (.int .i64 q), (.int .i64 l), (.str d)] (.bool r) [] := by
  unfold F3 at h
  cases hb : inI s && (inI p && (inI q && (inI l && decide ((d.length : Int) ≤ 9223372036854775807)))) with
  | false => rw [hb] at h; cases h
  | true =>
    rw [hb] at h
    obtain rfl := Option.some.inj h
    simp only [inI, Bool.and_eq_true, decide_eq_true_eq] at hb
    obtain ⟨h1, h2, h3, h4, h5⟩ := hb
    intro w fz vs hfz ha
    obtain ⟨v1, t1, rfl, e1, v2, t2, rfl, e2, v3, t3, rfl, e3, v4, t4, rfl, e4, v5, t5, rfl, e5, e6⟩ := ha
    have e1 : [v1] = [Value.int .i64 s] := e1
    have e1 := (List.cons.inj e1).1
    have e2 : [v2] = [Value.int .i64 p] := e2
    have e2 := (List.cons.inj e2).1
    have e3 : [v3] = [Value.int .i64 q] := e3
    have e3 := (List.cons.inj e3).1
    have e4 : [v4] = [Value.int .i64 l] := e4
    have e4 := (List.cons.inj e4).1
    have e5 : [v5] = [Value.string ⟨d.toArray⟩] := e5
    have e5 := (List.cons.inj e5).1
    have e6 : t5 = [] := e6
    subst e1; subst e2; subst e3; subst e4; subst e5; subst e6
    refine (E.again_calls E.runs s p q l h1 h2 h3 h4 ⟨d.toArray⟩ h5 w).mono ?_
    rintro e w' ⟨rfl, hb⟩
    exact ⟨_, G0 fz, rfl, NewR.none hb, rfl⟩
theorem topAgain_says (a0 : Sh.T (.int .i64)) (g0 : Sh.good (.int .i64) a0) (a1 : Sh.T (.int .i64)) (g1 : Sh.good (.int .i64) a1) (a2 : Sh.T (.int .i64)) (g2 : Sh.good (.int .i64) a2) (a3 : Sh.T (.int .i64)) (g3 : Sh.good (.int .i64) a3) (a4 : Sh.T .str) (g4 : Sh.good .str a4) :
    ∃ n, F3 n a0 a1 a2 a3 a4 = some true := by
  have key : ∀ a : Int, (Lit.int .i64 a).wf = true → inI a = true := fun a h => by
    have e1 : IntKind.i64.min = -9223372036854775808 := by decide
    have e2 : IntKind.i64.max = 9223372036854775807 := by decide
    simp only [Lit.wf, e1, e2, Bool.and_eq_true, decide_eq_true_eq] at h
    unfold inI
    rw [Bool.and_eq_true, decide_eq_true_eq, decide_eq_true_eq]
    exact h
  refine ⟨0, ?_⟩
  unfold F3
  rw [key a0 g0, key a1 g1, key a2 g2, key a3 g3]
  have h4 : ((List.length a4 : Nat) : Int) ≤ 9223372036854775807 := by
    have : List.length a4 ≤ maxLen := g4
    have e : maxLen = 9223372036854775807 := by decide
    omega
  rw [decide_eq_true h4]
  rfl
end Go.Proofs.YtpmgggfjmkpleaaGreatDoor
