/-
  The law ArenaChecks: the row's step, for every input: from the walk to the statement.
-/
import Derived.Test.YtkhfbleldchnpaaWArenaChecks
import Derived.Test.YtkhfbleldchnpaaRows
import Derived.Test.YtkhfbleldchnpaaShape
import Derived.WalkKit
import Derived.ProofKit
import Derived.OpenShut
import Derived.ShutString
import Derived.ChangeOld
import Derived.Below
import Derived.JoinedCond
namespace Go.Proofs.Ytkhfbleldchnpaa.arenaChecks
open Go.ChangeShapes Go.WideShapes Go.ChangeAt Go.RowKit
open Go.ChangeMaps (open_string shut_string)
set_option linter.unusedVariables false

theorem own : ownKnob Try.prog.godebug = none := by kernel_rfl
theorem laidOut : laidOutB Try.prog = true := by kernel_rfl

noncomputable def sh3 : Shape Try.prog 3 (Int) := Shape.int .i64 Try.underlying3
noncomputable def sh127 : Shape Try.prog 127 (Int × Int) := Shape.struct Try.underlying127 (Fields.cons sh3 (Fields.last sh3 1 (by kernel_rfl)) 1 (by kernel_rfl) (by rfl)) 2 (by kernel_rfl)
noncomputable def sh44 : Shape Try.prog 44 (List (Int × Int)) := Shape.slice Try.underlying44 sh127 2 (by kernel_rfl) (by decide)
noncomputable def sh46 : Shape Try.prog 46 (Int × (List (Int × Int))) := Shape.struct Try.underlying46 (Fields.cons sh3 (Fields.last sh44 1 (by kernel_rfl)) 1 (by kernel_rfl) (by rfl)) 2 (by kernel_rfl)
theorem is127 (w : World) (c : List Value) (x : Int × Int) (h : sh127.is w c x) : c = [.int .i64 x.1, .int .i64 x.2] ∧ ((Lit.int .i64 x.1).wf = true ∧ (Lit.int .i64 x.2).wf = true) := by
  obtain ⟨hl, j⟩ := h
  obtain ⟨y0, y1, rfl⟩ := list2 hl
  obtain ⟨x0, x1⟩ := x
  obtain ⟨j0, j1⟩ := j
  obtain ⟨g0, w0⟩ := j0
  simp only [List.take_succ_cons, List.take_zero, List.drop_succ_cons, List.drop_zero, List.take_nil, List.drop_nil, List.cons.injEq, and_true] at g0; subst g0
  obtain ⟨g1, w1⟩ := j1
  simp only [List.take_succ_cons, List.take_zero, List.drop_succ_cons, List.drop_zero, List.take_nil, List.drop_nil, List.cons.injEq, and_true] at g1; subst g1
  exact ⟨rfl, w0, w1⟩

set_option maxRecDepth 100000 in
theorem lifted (os : Os) (started : os.Started) (H : Type) (enc : TypeId × Value → H) :
    ReturnsInHanded {} Try.checked os 6 .any (Rows.arenaChecksSpec.pre6 enc Try.prog Try.f6 Rows.arenaChecksRow.domain false) (Rows.arenaChecksSpec.post enc Try.prog Try.f6 false true false false) := by
  refine returnsInHanded_of_change (C := Try.checked) own started (by kernel_rfl) Try.func6
    (ChangeSpec.witness6 (enc := enc) (C := Try.checked) false ⟨#[], #[.int .i64 0, .agg #[.int .i64 0, .slice none 0 0]], []⟩ 8 (by kernel_rfl) (by kernel_rfl) (by kernel_rfl) (by kernel_rfl)) ?_
  intro W base args ds gs before hval0 hW hcnd _
  have hval : ∀ (j : Nat) t v, Try.f6.params[j]? = some t → args[j]? = some v → Value.okWide Try.prog W .any base t v := hval0
  have hW' := hW
  obtain ⟨p, q, hA0, hV, rfl, hfz, hnd⟩ := hW
  have hA : DataW.TrodAll enc Try.prog W 0 (fun _ => true) true Try.f6.params.toList args.toList ds p := hA0
  rw [Try.params6] at hA hval
  obtain ⟨v0, vs0, d0, ds0, p0, q0, hargs, rfl, rfl, h0, r0⟩ := trodAll_cons hA
  obtain ⟨v1, vs1, d1, ds1, p1, q1, rfl, rfl, rfl, h1, r1⟩ := trodAll_cons r0
  obtain ⟨rfl, rfl, rfl⟩ := trodAll_nil r1
  obtain rfl : args = #[v0, v1] := by cases args; simp_all
  obtain ⟨rfl, rfl⟩ := trodVars_none hV
  have k0 := h0
  have lt0 : ∀ x ∈ p0, x.block < W.heap.size := by obtain ⟨m, hm⟩ := k0; exact DataW.trod_lt m _ _ _ hm
  have k1 := h1
  have lt1 : ∀ x ∈ p1, x.block < W.heap.size := by obtain ⟨m, hm⟩ := k1; exact DataW.trod_lt m _ _ _ hm
  obtain ⟨a0, rfl, rfl, hp0, w0⟩ := open_int Try.underlying3 (hval 0 3 v0 rfl rfl) h0
  obtain ⟨cs1, rfl, -⟩ := okWide_struct Try.underlying46 (hval 1 46 v1 rfl rfl)
  obtain ⟨fu1, hf1⟩ := h1
  obtain ⟨a1, is1, bk1⟩ := sh46.opens hf1
  have hc1 : (Value.agg cs1).cells.toList = cs1.toList := by simp [Value.cells]
  rw [hc1] at is1
  obtain ⟨hl1, is1⟩ := is1
  obtain ⟨y1_0, y1_1, e1⟩ := list2 hl1
  obtain ⟨cl1⟩ := cs1
  simp only at e1; subst e1
  obtain ⟨a1_0, a1_1⟩ := a1
  obtain ⟨j1_0, j1_1⟩ := is1
  obtain ⟨g1_0, w1_0⟩ := j1_0
  simp only [List.take_succ_cons, List.take_zero, List.drop_succ_cons, List.drop_zero, List.take_nil, List.drop_nil, List.cons.injEq, and_true] at g1_0; subst g1_0
  obtain ⟨ad1_1, cap1_1, g1_1, w1_1⟩ := j1_1
  simp only [List.take_succ_cons, List.take_zero, List.drop_succ_cons, List.drop_zero, List.take_nil, List.drop_nil, List.cons.injEq, and_true] at g1_1; subst g1_1
  clear hA0 hval0
  refine (arenaChecks_walk (w := W) a0 w0 a1_0 w1_0 ad1_1 cap1_1 a1_1 (SlIs.reads _ _ (is127 W) (fun x => rfl) w1_1).1 (SlIs.reads _ _ (is127 W) (fun x => rfl) w1_1).2).mono fun e W' ⟨he, bel⟩ => ?_
  subst he
  exact ⟨_, rfl, _, _, _, [], _, [], hW', trodAll_mk1 (shut_bool Try.underlying4 _), (trodAll_cons_mk (Below.trod laidOut (by kernel_rfl) (of_decide_eq_true (by kernel_rfl)) k0 bel lt0) (trodAll_cons_mk (Below.trod laidOut (by kernel_rfl) (of_decide_eq_true (by kernel_rfl)) k1 bel lt1) trodAll_mk0)), rfl, bel.frame _, fun h => by cases h⟩

theorem over : Rows.arenaChecksRow.holds Try.pinned (OpenSpec.ofChange Rows.arenaChecksSpec) :=
  OpenClaim.holds_of_wide 6 Try.f6 rfl rfl rfl rfl rfl rfl rfl ⟨rfl, rfl, rfl, rfl, rfl⟩ rfl rfl rfl rfl rfl (by kernel_rfl) Try.func6 (by kernel_rfl)
    (of_decide_eq_true (by kernel_rfl)) (by unfold Func.isWrapper; first | (rw [if_pos (by decide +kernel)]; kernel_rfl) | (rw [if_neg (by decide +kernel)]; exact ⟨rfl, rfl⟩))
    (fun os started H enc _ => lifted os started H enc)

/-- THE STATEMENT -/
theorem proved : Rows.ArenaChecksSaid := over
#print axioms proved
end Go.Proofs.Ytkhfbleldchnpaa.arenaChecks
