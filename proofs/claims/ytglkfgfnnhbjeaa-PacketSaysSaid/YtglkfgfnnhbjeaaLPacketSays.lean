/-
  The law PacketSays: the row's step, for every input: from the walk to the statement.
-/
import Derived.Test.YtglkfgfnnhbjeaaWPacketSays
import Derived.Test.YtglkfgfnnhbjeaaRows
import Derived.Test.YtglkfgfnnhbjeaaShape
import Derived.WalkKit
import Derived.ProofKit
import Derived.OpenShut
import Derived.ShutString
import Derived.ChangeOld
import Derived.Below
import Derived.JoinedCond
namespace Go.Proofs.Ytglkfgfnnhbjeaa.packetSays
open Go.ChangeShapes Go.WideShapes Go.ChangeAt Go.RowKit
open Go.ChangeMaps (open_string shut_string)
set_option linter.unusedVariables false

theorem own : ownKnob Try.prog.godebug = none := by kernel_rfl
theorem laidOut : laidOutB Try.prog = true := by kernel_rfl

noncomputable def sh3 : Shape Try.prog 3 (Int) := Shape.int .i64 Try.underlying3
noncomputable def sh9 : Shape Try.prog 9 (ByteArray) := Shape.str Try.underlying9
noncomputable def sh36 : Shape Try.prog 36 (Int × Int × Int × Int × ByteArray) := Shape.struct Try.underlying36 (Fields.cons sh3 (Fields.cons sh3 (Fields.cons sh3 (Fields.cons sh3 (Fields.last sh9 1 (by kernel_rfl)) 1 (by kernel_rfl) (by rfl)) 1 (by kernel_rfl) (by rfl)) 1 (by kernel_rfl) (by rfl)) 1 (by kernel_rfl) (by rfl)) 5 (by kernel_rfl)
set_option maxRecDepth 100000 in
theorem lifted (os : Os) (started : os.Started) (H : Type) (enc : TypeId × Value → H) :
    ReturnsInHanded {} Try.checked os 6 .any (Rows.packetSaysSpec.pre6 enc Try.prog Try.f6 Rows.packetSaysRow.domain false) (Rows.packetSaysSpec.post enc Try.prog Try.f6 false true false false) := by
  refine returnsInHanded_of_change (C := Try.checked) own started (by kernel_rfl) Try.func6
    (ChangeSpec.witness6 (enc := enc) (C := Try.checked) false ⟨#[], #[.agg #[.int .i64 0, .int .i64 0, .int .i64 0, .int .i64 0, .string ByteArray.empty]], []⟩ 8 (by kernel_rfl) (by kernel_rfl) (by kernel_rfl) (by kernel_rfl)) ?_
  intro W base args ds gs before hval0 hW hcnd _
  have hval : ∀ (j : Nat) t v, Try.f6.params[j]? = some t → args[j]? = some v → Value.okWide Try.prog W .any base t v := hval0
  have hW' := hW
  obtain ⟨p, q, hA0, hV, rfl, hfz, hnd⟩ := hW
  have hA : DataW.TrodAll enc Try.prog W 0 (fun _ => true) true Try.f6.params.toList args.toList ds p := hA0
  rw [Try.params6] at hA hval
  obtain ⟨v0, vs0, d0, ds0, p0, q0, hargs, rfl, rfl, h0, r0⟩ := trodAll_cons hA
  obtain ⟨rfl, rfl, rfl⟩ := trodAll_nil r0
  obtain rfl : args = #[v0] := by cases args; simp_all
  obtain ⟨rfl, rfl⟩ := trodVars_none hV
  have k0 := h0
  have lt0 : ∀ x ∈ p0, x.block < W.heap.size := by obtain ⟨m, hm⟩ := k0; exact DataW.trod_lt m _ _ _ hm
  obtain ⟨cs0, rfl, -⟩ := okWide_struct Try.underlying36 (hval 0 36 v0 rfl rfl)
  obtain ⟨fu0, hf0⟩ := h0
  obtain ⟨a0, is0, bk0⟩ := sh36.opens hf0
  have hc0 : (Value.agg cs0).cells.toList = cs0.toList := by simp [Value.cells]
  rw [hc0] at is0
  obtain ⟨hl0, is0⟩ := is0
  obtain ⟨y0_0, y0_1, y0_2, y0_3, y0_4, e0⟩ := list5 hl0
  obtain ⟨cl0⟩ := cs0
  simp only at e0; subst e0
  obtain ⟨a0_0, a0_1, a0_2, a0_3, a0_4⟩ := a0
  obtain ⟨j0_0, j0_1, j0_2, j0_3, j0_4⟩ := is0
  obtain ⟨g0_0, w0_0⟩ := j0_0
  simp only [List.take_succ_cons, List.take_zero, List.drop_succ_cons, List.drop_zero, List.take_nil, List.drop_nil, List.cons.injEq, and_true] at g0_0; subst g0_0
  obtain ⟨g0_1, w0_1⟩ := j0_1
  simp only [List.take_succ_cons, List.take_zero, List.drop_succ_cons, List.drop_zero, List.take_nil, List.drop_nil, List.cons.injEq, and_true] at g0_1; subst g0_1
  obtain ⟨g0_2, w0_2⟩ := j0_2
  simp only [List.take_succ_cons, List.take_zero, List.drop_succ_cons, List.drop_zero, List.take_nil, List.drop_nil, List.cons.injEq, and_true] at g0_2; subst g0_2
  obtain ⟨g0_3, w0_3⟩ := j0_3
  simp only [List.take_succ_cons, List.take_zero, List.drop_succ_cons, List.drop_zero, List.take_nil, List.drop_nil, List.cons.injEq, and_true] at g0_3; subst g0_3
  obtain ⟨g0_4, w0_4⟩ := j0_4
  simp only [List.take_succ_cons, List.take_zero, List.drop_succ_cons, List.drop_zero, List.take_nil, List.drop_nil, List.cons.injEq, and_true] at g0_4; subst g0_4
  clear hA0 hval0
  refine (packetSays_walk a0_0 w0_0 a0_1 w0_1 a0_2 w0_2 a0_3 w0_3 a0_4 w0_4 W).mono fun e W' ⟨he, bel⟩ => ?_
  subst he
  exact ⟨_, rfl, _, _, _, [], _, [], hW', trodAll_mk1 (shut_bool Try.underlying4 _), (trodAll_cons_mk (Below.trod laidOut (by kernel_rfl) (of_decide_eq_true (by kernel_rfl)) k0 bel lt0) trodAll_mk0), rfl, bel.frame _, fun h => by cases h⟩

theorem over : Rows.packetSaysRow.holds Try.pinned (OpenSpec.ofChange Rows.packetSaysSpec) :=
  OpenClaim.holds_of_wide 6 Try.f6 rfl rfl rfl rfl rfl rfl rfl ⟨rfl, rfl, rfl, rfl, rfl⟩ rfl rfl rfl rfl rfl (by kernel_rfl) Try.func6 (by kernel_rfl)
    (of_decide_eq_true (by kernel_rfl)) (by unfold Func.isWrapper; first | (rw [if_pos (by decide +kernel)]; kernel_rfl) | (rw [if_neg (by decide +kernel)]; exact ⟨rfl, rfl⟩))
    (fun os started H enc _ => lifted os started H enc)

/-- THE STATEMENT -/
theorem proved : Rows.PacketSaysSaid := over
#print axioms proved
end Go.Proofs.Ytglkfgfnnhbjeaa.packetSays
