/-
  The law HostPacks: the row's step, for every input: from the walk to the statement.
-/
import Derived.Test.YtkhfbleldchnpaaWHostPacks
import Derived.Test.YtkhfbleldchnpaaRows
import Derived.Test.YtkhfbleldchnpaaShape
import Derived.WalkKit
import Derived.ProofKit
import Derived.OpenShut
import Derived.ShutString
import Derived.ChangeOld
import Derived.Below
import Derived.JoinedCond
namespace Go.Proofs.Ytkhfbleldchnpaa.hostPacks
open Go.ChangeShapes Go.WideShapes Go.ChangeAt Go.RowKit
open Go.ChangeMaps (open_string shut_string)
set_option linter.unusedVariables false

theorem own : ownKnob Try.prog.godebug = none := by kernel_rfl
theorem laidOut : laidOutB Try.prog = true := by kernel_rfl

noncomputable def sh3 : Shape Try.prog 3 (Int) := Shape.int .i64 Try.underlying3
noncomputable def sh23 : Shape Try.prog 23 (Int × Int × Int × Int) := Shape.struct Try.underlying23 (Fields.cons sh3 (Fields.cons sh3 (Fields.cons sh3 (Fields.last sh3 1 (by kernel_rfl)) 1 (by kernel_rfl) (by rfl)) 1 (by kernel_rfl) (by rfl)) 1 (by kernel_rfl) (by rfl)) 4 (by kernel_rfl)
set_option maxRecDepth 100000 in
theorem lifted (os : Os) (started : os.Started) (H : Type) (enc : TypeId × Value → H) :
    ReturnsInHanded {} Try.checked os 3 .any (Rows.hostPacksSpec.pre6 enc Try.prog Try.f3 Rows.hostPacksRow.domain false) (Rows.hostPacksSpec.post enc Try.prog Try.f3 false true false false) := by
  refine returnsInHanded_of_change (C := Try.checked) own started (by kernel_rfl) Try.func3
    (ChangeSpec.witness6 (enc := enc) (C := Try.checked) false ⟨#[], #[.agg #[.int .i64 0, .int .i64 0, .int .i64 0, .int .i64 0], .int .u64 0], []⟩ 8 (by kernel_rfl) (by kernel_rfl) (by kernel_rfl) (by kernel_rfl)) ?_
  intro W base args ds gs before hval0 hW hcnd _
  have hval : ∀ (j : Nat) t v, Try.f3.params[j]? = some t → args[j]? = some v → Value.okWide Try.prog W .any base t v := hval0
  have hW' := hW
  obtain ⟨p, q, hA0, hV, rfl, hfz, hnd⟩ := hW
  have hA : DataW.TrodAll enc Try.prog W 0 (fun _ => true) true Try.f3.params.toList args.toList ds p := hA0
  rw [Try.params3] at hA hval
  obtain ⟨v0, vs0, d0, ds0, p0, q0, hargs, rfl, rfl, h0, r0⟩ := trodAll_cons hA
  obtain ⟨v1, vs1, d1, ds1, p1, q1, rfl, rfl, rfl, h1, r1⟩ := trodAll_cons r0
  obtain ⟨rfl, rfl, rfl⟩ := trodAll_nil r1
  obtain rfl : args = #[v0, v1] := by cases args; simp_all
  obtain ⟨rfl, rfl⟩ := trodVars_none hV
  have k0 := h0
  have lt0 : ∀ x ∈ p0, x.block < W.heap.size := by obtain ⟨m, hm⟩ := k0; exact DataW.trod_lt m _ _ _ hm
  have k1 := h1
  have lt1 : ∀ x ∈ p1, x.block < W.heap.size := by obtain ⟨m, hm⟩ := k1; exact DataW.trod_lt m _ _ _ hm
  obtain ⟨cs0, rfl, -⟩ := okWide_struct Try.underlying23 (hval 0 23 v0 rfl rfl)
  obtain ⟨fu0, hf0⟩ := h0
  obtain ⟨a0, is0, bk0⟩ := sh23.opens hf0
  have hc0 : (Value.agg cs0).cells.toList = cs0.toList := by simp [Value.cells]
  rw [hc0] at is0
  obtain ⟨hl0, is0⟩ := is0
  obtain ⟨y0_0, y0_1, y0_2, y0_3, e0⟩ := list4 hl0
  obtain ⟨cl0⟩ := cs0
  simp only at e0; subst e0
  obtain ⟨a0_0, a0_1, a0_2, a0_3⟩ := a0
  obtain ⟨j0_0, j0_1, j0_2, j0_3⟩ := is0
  obtain ⟨g0_0, w0_0⟩ := j0_0
  simp only [List.take_succ_cons, List.take_zero, List.drop_succ_cons, List.drop_zero, List.take_nil, List.drop_nil, List.cons.injEq, and_true] at g0_0; subst g0_0
  obtain ⟨g0_1, w0_1⟩ := j0_1
  simp only [List.take_succ_cons, List.take_zero, List.drop_succ_cons, List.drop_zero, List.take_nil, List.drop_nil, List.cons.injEq, and_true] at g0_1; subst g0_1
  obtain ⟨g0_2, w0_2⟩ := j0_2
  simp only [List.take_succ_cons, List.take_zero, List.drop_succ_cons, List.drop_zero, List.take_nil, List.drop_nil, List.cons.injEq, and_true] at g0_2; subst g0_2
  obtain ⟨g0_3, w0_3⟩ := j0_3
  simp only [List.take_succ_cons, List.take_zero, List.drop_succ_cons, List.drop_zero, List.take_nil, List.drop_nil, List.cons.injEq, and_true] at g0_3; subst g0_3
  obtain ⟨a1, rfl, rfl, hp1, w1⟩ := open_int Try.underlying24 (hval 1 24 v1 rfl rfl) h1
  clear hA0 hval0
  refine (hostPacks_walk a0_0 w0_0 a0_1 w0_1 a0_2 w0_2 a0_3 w0_3 a1 w1 W).mono fun e W' ⟨he, bel⟩ => ?_
  subst he
  exact ⟨_, rfl, _, _, _, [], _, [], hW', trodAll_mk1 (shut_bool Try.underlying4 _), (trodAll_cons_mk (Below.trod laidOut (by kernel_rfl) (of_decide_eq_true (by kernel_rfl)) k0 bel lt0) (trodAll_cons_mk (Below.trod laidOut (by kernel_rfl) (of_decide_eq_true (by kernel_rfl)) k1 bel lt1) trodAll_mk0)), rfl, bel.frame _, fun h => by cases h⟩

theorem over : Rows.hostPacksRow.holds Try.pinned (OpenSpec.ofChange Rows.hostPacksSpec) :=
  OpenClaim.holds_of_wide 3 Try.f3 rfl rfl rfl rfl rfl rfl rfl ⟨rfl, rfl, rfl, rfl, rfl⟩ rfl rfl rfl rfl rfl (by kernel_rfl) Try.func3 (by kernel_rfl)
    (of_decide_eq_true (by kernel_rfl)) (by unfold Func.isWrapper; first | (rw [if_pos (by decide +kernel)]; kernel_rfl) | (rw [if_neg (by decide +kernel)]; exact ⟨rfl, rfl⟩))
    (fun os started H enc _ => lifted os started H enc)

/-- THE STATEMENT -/
theorem proved : Rows.HostPacksSaid := over
#print axioms proved
end Go.Proofs.Ytkhfbleldchnpaa.hostPacks
