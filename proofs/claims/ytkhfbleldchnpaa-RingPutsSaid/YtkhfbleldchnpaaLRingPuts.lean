/-
  The law RingPuts: the row's step, for every input: from the walk to the statement.
-/
import Derived.Test.YtkhfbleldchnpaaWRingPuts
import Derived.Test.YtkhfbleldchnpaaRows
import Derived.Test.YtkhfbleldchnpaaShape
import Derived.WalkKit
import Derived.ProofKit
import Derived.OpenShut
import Derived.ShutString
import Derived.ChangeOld
import Derived.Below
import Derived.JoinedCond
namespace Go.Proofs.Ytkhfbleldchnpaa.ringPuts
open Go.ChangeShapes Go.WideShapes Go.ChangeAt Go.RowKit
open Go.ChangeMaps (open_string shut_string)
set_option linter.unusedVariables false

theorem own : ownKnob Try.prog.godebug = none := by kernel_rfl
theorem laidOut : laidOutB Try.prog = true := by kernel_rfl

noncomputable def sh24 : Shape Try.prog 24 (Int) := Shape.int .u64 Try.underlying24
noncomputable def sh3 : Shape Try.prog 3 (Int) := Shape.int .i64 Try.underlying3
noncomputable def sh4 : Shape Try.prog 4 (Bool) := Shape.bool Try.underlying4
noncomputable def sh75 : Shape Try.prog 75 (Int × Int × Bool) := Shape.struct Try.underlying75 (Fields.cons sh24 (Fields.cons sh3 (Fields.last sh4 1 (by kernel_rfl)) 1 (by kernel_rfl) (by rfl)) 1 (by kernel_rfl) (by rfl)) 3 (by kernel_rfl)
noncomputable def sh61 : Shape Try.prog 61 (List (Int × Int × Bool)) := Shape.slice Try.underlying61 sh75 3 (by kernel_rfl) (by decide)
noncomputable def sh63 : Shape Try.prog 63 (Int × Int) := Shape.struct Try.underlying63 (Fields.cons sh3 (Fields.last sh3 1 (by kernel_rfl)) 1 (by kernel_rfl) (by rfl)) 2 (by kernel_rfl)
noncomputable def sh65 : Shape Try.prog 65 ((List (Int × Int × Bool)) × (Int × Int) × (Int × Int) × Int) := Shape.struct Try.underlying65 (Fields.cons sh61 (Fields.cons sh63 (Fields.cons sh63 (Fields.last sh3 1 (by kernel_rfl)) 2 (by kernel_rfl) (by rfl)) 2 (by kernel_rfl) (by rfl)) 1 (by kernel_rfl) (by rfl)) 6 (by kernel_rfl)
theorem is75 (w : World) (c : List Value) (x : Int × Int × Bool) (h : sh75.is w c x) : c = [.int .u64 x.1, .int .i64 x.2.1, .bool x.2.2] ∧ ((Lit.int .u64 x.1).wf = true ∧ (Lit.int .i64 x.2.1).wf = true) := by
  obtain ⟨hl, j⟩ := h
  obtain ⟨y0, y1, y2, rfl⟩ := list3 hl
  obtain ⟨x0, x1, x2⟩ := x
  obtain ⟨j0, j1, j2⟩ := j
  obtain ⟨g0, w0⟩ := j0
  simp only [List.take_succ_cons, List.take_zero, List.drop_succ_cons, List.drop_zero, List.take_nil, List.drop_nil, List.cons.injEq, and_true] at g0; subst g0
  obtain ⟨g1, w1⟩ := j1
  simp only [List.take_succ_cons, List.take_zero, List.drop_succ_cons, List.drop_zero, List.take_nil, List.drop_nil, List.cons.injEq, and_true] at g1; subst g1
  have g2 : _ = [_] := j2
  simp only [List.take_succ_cons, List.take_zero, List.drop_succ_cons, List.drop_zero, List.take_nil, List.drop_nil, List.cons.injEq, and_true] at g2; subst g2
  exact ⟨rfl, w0, w1⟩

set_option maxRecDepth 100000 in
theorem lifted (os : Os) (started : os.Started) (H : Type) (enc : TypeId × Value → H) :
    ReturnsInHanded {} Try.checked os 9 .any (Rows.ringPutsSpec.pre6 enc Try.prog Try.f9 Rows.ringPutsRow.domain false) (Rows.ringPutsSpec.post enc Try.prog Try.f9 false true false false) := by
  refine returnsInHanded_of_change (C := Try.checked) own started (by kernel_rfl) Try.func9
    (ChangeSpec.witness6 (enc := enc) (C := Try.checked) false ⟨#[], #[.agg #[.slice none 0 0, .int .i64 0, .int .i64 0, .int .i64 0, .int .i64 0, .int .i64 0], .int .u64 0], []⟩ 8 (by kernel_rfl) (by kernel_rfl) (by kernel_rfl) (by kernel_rfl)) ?_
  intro W base args ds gs before hval0 hW hcnd _
  have hval : ∀ (j : Nat) t v, Try.f9.params[j]? = some t → args[j]? = some v → Value.okWide Try.prog W .any base t v := hval0
  have hW' := hW
  obtain ⟨p, q, hA0, hV, rfl, hfz, hnd⟩ := hW
  have hA : DataW.TrodAll enc Try.prog W 0 (fun _ => true) true Try.f9.params.toList args.toList ds p := hA0
  rw [Try.params9] at hA hval
  obtain ⟨v0, vs0, d0, ds0, p0, q0, hargs, rfl, rfl, h0, r0⟩ := trodAll_cons hA
  obtain ⟨v1, vs1, d1, ds1, p1, q1, rfl, rfl, rfl, h1, r1⟩ := trodAll_cons r0
  obtain ⟨rfl, rfl, rfl⟩ := trodAll_nil r1
  obtain rfl : args = #[v0, v1] := by cases args; simp_all
  obtain ⟨rfl, rfl⟩ := trodVars_none hV
  have k0 := h0
  have lt0 : ∀ x ∈ p0, x.block < W.heap.size := by obtain ⟨m, hm⟩ := k0; exact DataW.trod_lt m _ _ _ hm
  have k1 := h1
  have lt1 : ∀ x ∈ p1, x.block < W.heap.size := by obtain ⟨m, hm⟩ := k1; exact DataW.trod_lt m _ _ _ hm
  obtain ⟨cs0, rfl, -⟩ := okWide_struct Try.underlying65 (hval 0 65 v0 rfl rfl)
  obtain ⟨fu0, hf0⟩ := h0
  obtain ⟨a0, is0, bk0⟩ := sh65.opens hf0
  have hc0 : (Value.agg cs0).cells.toList = cs0.toList := by simp [Value.cells]
  rw [hc0] at is0
  obtain ⟨hl0, is0⟩ := is0
  obtain ⟨y0_0, y0_1, y0_2, y0_3, y0_4, y0_5, e0⟩ := list6 hl0
  obtain ⟨cl0⟩ := cs0
  simp only at e0; subst e0
  obtain ⟨a0_0, ⟨a0_1_0, a0_1_1⟩, ⟨a0_2_0, a0_2_1⟩, a0_3⟩ := a0
  obtain ⟨j0_0, j0_1, j0_2, j0_3⟩ := is0
  obtain ⟨ad0_0, cap0_0, g0_0, w0_0⟩ := j0_0
  simp only [List.take_succ_cons, List.take_zero, List.drop_succ_cons, List.drop_zero, List.take_nil, List.drop_nil, List.cons.injEq, and_true] at g0_0; subst g0_0
  obtain ⟨hl0_1, jj0_1⟩ := j0_1
  obtain ⟨j0_1_0, j0_1_1⟩ := jj0_1
  obtain ⟨g0_1_0, w0_1_0⟩ := j0_1_0
  simp only [List.take_succ_cons, List.take_zero, List.drop_succ_cons, List.drop_zero, List.take_nil, List.drop_nil, List.cons.injEq, and_true] at g0_1_0; subst g0_1_0
  obtain ⟨g0_1_1, w0_1_1⟩ := j0_1_1
  simp only [List.take_succ_cons, List.take_zero, List.drop_succ_cons, List.drop_zero, List.take_nil, List.drop_nil, List.cons.injEq, and_true] at g0_1_1; subst g0_1_1
  obtain ⟨hl0_2, jj0_2⟩ := j0_2
  obtain ⟨j0_2_0, j0_2_1⟩ := jj0_2
  obtain ⟨g0_2_0, w0_2_0⟩ := j0_2_0
  simp only [List.take_succ_cons, List.take_zero, List.drop_succ_cons, List.drop_zero, List.take_nil, List.drop_nil, List.cons.injEq, and_true] at g0_2_0; subst g0_2_0
  obtain ⟨g0_2_1, w0_2_1⟩ := j0_2_1
  simp only [List.take_succ_cons, List.take_zero, List.drop_succ_cons, List.drop_zero, List.take_nil, List.drop_nil, List.cons.injEq, and_true] at g0_2_1; subst g0_2_1
  obtain ⟨g0_3, w0_3⟩ := j0_3
  simp only [List.take_succ_cons, List.take_zero, List.drop_succ_cons, List.drop_zero, List.take_nil, List.drop_nil, List.cons.injEq, and_true] at g0_3; subst g0_3
  obtain ⟨a1, rfl, rfl, hp1, w1⟩ := open_int Try.underlying24 (hval 1 24 v1 rfl rfl) h1
  clear hA0 hval0
  refine (ringPuts_walk (w := W) ad0_0 cap0_0 a0_0 (SlIs.reads _ _ (is75 W) (fun x => rfl) w0_0).1 (SlIs.reads _ _ (is75 W) (fun x => rfl) w0_0).2 a0_1_0 w0_1_0 a0_1_1 w0_1_1 a0_2_0 w0_2_0 a0_2_1 w0_2_1 a0_3 w0_3 a1 w1).mono fun e W' ⟨he, bel⟩ => ?_
  subst he
  exact ⟨_, rfl, _, _, _, [], _, [], hW', trodAll_mk1 (shut_bool Try.underlying4 _), (trodAll_cons_mk (Below.trod laidOut (by kernel_rfl) (of_decide_eq_true (by kernel_rfl)) k0 bel lt0) (trodAll_cons_mk (Below.trod laidOut (by kernel_rfl) (of_decide_eq_true (by kernel_rfl)) k1 bel lt1) trodAll_mk0)), rfl, bel.frame _, fun h => by cases h⟩

theorem over : Rows.ringPutsRow.holds Try.pinned (OpenSpec.ofChange Rows.ringPutsSpec) :=
  OpenClaim.holds_of_wide 9 Try.f9 rfl rfl rfl rfl rfl rfl rfl ⟨rfl, rfl, rfl, rfl, rfl⟩ rfl rfl rfl rfl rfl (by kernel_rfl) Try.func9 (by kernel_rfl)
    (of_decide_eq_true (by kernel_rfl)) (by unfold Func.isWrapper; first | (rw [if_pos (by decide +kernel)]; kernel_rfl) | (rw [if_neg (by decide +kernel)]; exact ⟨rfl, rfl⟩))
    (fun os started H enc _ => lifted os started H enc)

/-- THE STATEMENT -/
theorem proved : Rows.RingPutsSaid := over
#print axioms proved
end Go.Proofs.Ytkhfbleldchnpaa.ringPuts
