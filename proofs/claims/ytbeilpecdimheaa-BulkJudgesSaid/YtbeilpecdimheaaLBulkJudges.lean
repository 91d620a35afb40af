/-
  The law BulkJudges: the row's step, for every input: from the walk to the statement.
-/
import Derived.Test.YtbeilpecdimheaaWBulkJudges
import Derived.Test.YtbeilpecdimheaaRows
import Derived.Test.YtbeilpecdimheaaShape
import Derived.WalkKit
import Derived.ProofKit
import Derived.OpenShut
import Derived.ShutString
import Derived.ChangeOld
import Derived.Below
import Derived.JoinedCond
namespace Go.Proofs.Ytbeilpecdimheaa.bulkJudges
open Go.ChangeShapes Go.WideShapes Go.ChangeAt Go.RowKit
open Go.ChangeMaps (open_string shut_string)
set_option linter.unusedVariables false

theorem own : ownKnob Try.prog.godebug = none := by kernel_rfl
theorem laidOut : laidOutB Try.prog = true := by kernel_rfl

noncomputable def sh3 : Shape Try.prog 3 (Int) := Shape.int .i64 Try.underlying3
noncomputable def sh29 : Shape Try.prog 29 (Int × Int) := Shape.struct Try.underlying29 (Fields.cons sh3 (Fields.last sh3 1 (by kernel_rfl)) 1 (by kernel_rfl) (by rfl)) 2 (by kernel_rfl)
set_option maxRecDepth 100000 in
theorem lifted (os : Os) (started : os.Started) (H : Type) (enc : TypeId × Value → H) :
    ReturnsInHanded {} Try.checked os 4 .any (Rows.bulkJudgesSpec.pre6 enc Try.prog Try.f4 Rows.bulkJudgesRow.domain false) (Rows.bulkJudgesSpec.post enc Try.prog Try.f4 false true false false) := by
  refine returnsInHanded_of_change (C := Try.checked) own started (by kernel_rfl) Try.func4
    (ChangeSpec.witness6 (enc := enc) (C := Try.checked) false ⟨#[], #[.agg #[.int .i64 0, .int .i64 0], .agg #[.int .i64 0, .int .i64 0]], []⟩ 8 (by kernel_rfl) (by kernel_rfl) (by kernel_rfl) (by kernel_rfl)) ?_
  intro W base args ds gs before hval0 hW hcnd _
  have hval : ∀ (j : Nat) t v, Try.f4.params[j]? = some t → args[j]? = some v → Value.okWide Try.prog W .any base t v := hval0
  have hW' := hW
  obtain ⟨p, q, hA0, hV, rfl, hfz, hnd⟩ := hW
  have hA : DataW.TrodAll enc Try.prog W 0 (fun _ => true) true Try.f4.params.toList args.toList ds p := hA0
  rw [Try.params4] at hA hval
  obtain ⟨v0, vs0, d0, ds0, p0, q0, hargs, rfl, rfl, h0, r0⟩ := trodAll_cons hA
  obtain ⟨v1, vs1, d1, ds1, p1, q1, rfl, rfl, rfl, h1, r1⟩ := trodAll_cons r0
  obtain ⟨rfl, rfl, rfl⟩ := trodAll_nil r1
  obtain rfl : args = #[v0, v1] := by cases args; simp_all
  obtain ⟨rfl, rfl⟩ := trodVars_none hV
  have k0 := h0
  have lt0 : ∀ x ∈ p0, x.block < W.heap.size := by obtain ⟨m, hm⟩ := k0; exact DataW.trod_lt m _ _ _ hm
  have k1 := h1
  have lt1 : ∀ x ∈ p1, x.block < W.heap.size := by obtain ⟨m, hm⟩ := k1; exact DataW.trod_lt m _ _ _ hm
  obtain ⟨cs0, rfl, -⟩ := okWide_struct Try.underlying29 (hval 0 29 v0 rfl rfl)
  obtain ⟨fu0, hf0⟩ := h0
  obtain ⟨a0, is0, bk0⟩ := sh29.opens hf0
  have hc0 : (Value.agg cs0).cells.toList = cs0.toList := by simp [Value.cells]
  rw [hc0] at is0
  obtain ⟨hl0, is0⟩ := is0
  obtain ⟨y0_0, y0_1, e0⟩ := list2 hl0
  obtain ⟨cl0⟩ := cs0
  simp only at e0; subst e0
  obtain ⟨a0_0, a0_1⟩ := a0
  obtain ⟨j0_0, j0_1⟩ := is0
  obtain ⟨g0_0, w0_0⟩ := j0_0
  simp only [List.take_succ_cons, List.take_zero, List.drop_succ_cons, List.drop_zero, List.take_nil, List.drop_nil, List.cons.injEq, and_true] at g0_0; subst g0_0
  obtain ⟨g0_1, w0_1⟩ := j0_1
  simp only [List.take_succ_cons, List.take_zero, List.drop_succ_cons, List.drop_zero, List.take_nil, List.drop_nil, List.cons.injEq, and_true] at g0_1; subst g0_1
  obtain ⟨cs1, rfl, -⟩ := okWide_struct Try.underlying29 (hval 1 29 v1 rfl rfl)
  obtain ⟨fu1, hf1⟩ := h1
  obtain ⟨a1, is1, bk1⟩ := sh29.opens hf1
  have hc1 : (Value.agg cs1).cells.toList = cs1.toList := by simp [Value.cells]
  rw [hc1] at is1
  obtain ⟨hl1, is1⟩ := is1
  obtain ⟨y1_0, y1_1, e1⟩ := list2 hl1
  obtain ⟨cl1⟩ := cs1
  simp only at e1; subst e1
  obtain ⟨a1_0, a1_1⟩ := a1
  obtain ⟨j1_0, j1_1⟩ := is1
  obtain ⟨g1_0, w1_0⟩ := j1_0
  simp only [List.take_succ_cons, List.take_zero, List.drop_succ_cons, List.drop_zero, List.take_nil, List.drop_nil, List.cons.injEq, and_true] at g1_0; subst g1_0
  obtain ⟨g1_1, w1_1⟩ := j1_1
  simp only [List.take_succ_cons, List.take_zero, List.drop_succ_cons, List.drop_zero, List.take_nil, List.drop_nil, List.cons.injEq, and_true] at g1_1; subst g1_1
  clear hA0 hval0
  refine (bulkJudges_walk (w := W) a0_0 w0_0 a0_1 w0_1 a1_0 w1_0 a1_1 w1_1).mono fun e W' ⟨he, bel⟩ => ?_
  subst he
  exact ⟨_, rfl, _, _, _, [], _, [], hW', trodAll_mk1 (shut_bool Try.underlying4 _), (trodAll_cons_mk (Below.trod laidOut (by kernel_rfl) (of_decide_eq_true (by kernel_rfl)) k0 bel lt0) (trodAll_cons_mk (Below.trod laidOut (by kernel_rfl) (of_decide_eq_true (by kernel_rfl)) k1 bel lt1) trodAll_mk0)), rfl, bel.frame _, fun h => by cases h⟩

theorem over : Rows.bulkJudgesRow.holds Try.pinned (OpenSpec.ofChange Rows.bulkJudgesSpec) :=
  OpenClaim.holds_of_wide 4 Try.f4 rfl rfl rfl rfl rfl rfl rfl ⟨rfl, rfl, rfl, rfl, rfl⟩ rfl rfl rfl rfl rfl (by kernel_rfl) Try.func4 (by kernel_rfl)
    (of_decide_eq_true (by kernel_rfl)) (by unfold Func.isWrapper; first | (rw [if_pos (by decide +kernel)]; kernel_rfl) | (rw [if_neg (by decide +kernel)]; exact ⟨rfl, rfl⟩))
    (fun os started H enc _ => lifted os started H enc)

/-- THE STATEMENT -/
theorem proved : Rows.BulkJudgesSaid := over
#print axioms proved
end Go.Proofs.Ytbeilpecdimheaa.bulkJudges
