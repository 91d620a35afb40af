/- Functions of the program, as functions of values. -/
import Derived.Test.YtnibbbmjjdkkgaaFdwx1
import Derived.Test.YtnibbbmjjdkkgaaChecked
namespace Go.Proofs.Ytnibbbmjjdkkgaa
open Go Go.RowKit
set_option linter.unusedVariables false
set_option maxRecDepth 100000

/-! plugtree/pluglaw.DescWrites -/
def F3 (n : Nat) (c_Value : Int) (c_Name : Int) (c_Attr : Int) (c_Power : Int) (c_Faces : List (Int × Int × Int × Int × (List (List UInt8)) × List (Int × Bool × Int × Int × Int))) : Option Bool := ((F7 n c_Value c_Name c_Attr c_Power c_Faces).bind fun y_2 => ((F8 n c_Value c_Name c_Attr c_Power c_Faces).bind fun y_3 => (bif (y_2.1 == y_3.1) then (some (y_2.2 == y_3.2)) else (some false))))
theorem F3_ok (n : Nat) (c_Value : Int) (c_Name : Int) (c_Attr : Int) (c_Power : Int) (c_Faces : List (Int × Int × Int × Int × (List (List UInt8)) × List (Int × Bool × Int × Int × Int))) (r : Bool) (h : F3 n c_Value c_Name c_Attr c_Power c_Faces = some r) : PureC Try.prog 3 [(.st (.cons (.int .i64 c_Value) (.cons (.int .i64 c_Name) (.cons (.int .i64 c_Attr) (.cons (.int .i64 c_Power) (.sl (.st (.pair (.int .i64) (.pair (.int .i64) (.pair (.int .i64) (.pair (.int .i64) (.pair (.sl .str) (.sl (.st (.pair (.int .i64) (.pair .bool (.pair (.int .i64) (.pair (.int .i64) (.int .i64))))))))))))) c_Faces))))))] (.bool r) [] := by
  refine PureC.mkS Try.func3 rfl rfl ?_
  intro w0 fz0 hfz
  replace h : ((F7 n c_Value c_Name c_Attr c_Power c_Faces).bind fun y_2 => ((F8 n c_Value c_Name c_Attr c_Power c_Faces).bind fun y_3 => (bif (y_2.1 == y_3.1) then (some (y_2.2 == y_3.2)) else (some false)))) = some r := h
  refine TS.seq ?_
  have hq : (True) ∧ ((True) ∧ (True)) := ⟨trivial, ⟨trivial, trivial⟩⟩
  refine TS.reg [] ?_ ?_
  · apply prop_of ?_ hq
    kernel_rfl
  refine XS.then ?_
  refine TS.seq ?_
  obtain ⟨y_2, hx1, h⟩ := bind_some' h
  have hq : (True) ∧ ((PureC Try.prog 7 [(.st (.cons (.int .i64 c_Value) (.cons (.int .i64 c_Name) (.cons (.int .i64 c_Attr) (.cons (.int .i64 c_Power) (.sl (.st (.pair (.int .i64) (.pair (.int .i64) (.pair (.int .i64) (.pair (.int .i64) (.pair (.sl .str) (.sl (.st (.pair (.int .i64) (.pair .bool (.pair (.int .i64) (.pair (.int .i64) (.int .i64))))))))))))) c_Faces))))))] (.tup (.cons (.str y_2.1) (.cons (.int .i64 y_2.2) .nil))) []) ∧ ((True) ∧ ((True) ∧ ((True) ∧ ((True) ∧ ((True) ∧ (True))))))) := ⟨trivial, ⟨F7_ok n c_Value c_Name c_Attr c_Power c_Faces y_2 hx1, ⟨trivial, ⟨trivial, ⟨trivial, ⟨trivial, ⟨trivial, trivial⟩⟩⟩⟩⟩⟩⟩
  refine TS.reg [.none, (.call (.tup (.cons (.str y_2.1) (.cons (.int .i64 y_2.2) .nil))) [])] ?_ ?_
  · apply prop_of ?_ hq
    kernel_rfl
  refine XS.then ?_
  refine TS.seq ?_
  obtain ⟨y_3, hx2, h⟩ := bind_some' h
  have hq : (True) ∧ ((PureC Try.prog 8 [(.st (.cons (.int .i64 c_Value) (.cons (.int .i64 c_Name) (.cons (.int .i64 c_Attr) (.cons (.int .i64 c_Power) (.sl (.st (.pair (.int .i64) (.pair (.int .i64) (.pair (.int .i64) (.pair (.int .i64) (.pair (.sl .str) (.sl (.st (.pair (.int .i64) (.pair .bool (.pair (.int .i64) (.pair (.int .i64) (.int .i64))))))))))))) c_Faces))))))] (.tup (.cons (.str y_3.1) (.cons (.int .i64 y_3.2) .nil))) []) ∧ ((True) ∧ ((True) ∧ ((True) ∧ ((True) ∧ ((True) ∧ (True))))))) := ⟨trivial, ⟨F8_ok n c_Value c_Name c_Attr c_Power c_Faces y_3 hx2, ⟨trivial, ⟨trivial, ⟨trivial, ⟨trivial, ⟨trivial, trivial⟩⟩⟩⟩⟩⟩⟩
  refine TS.reg [.none, (.call (.tup (.cons (.str y_3.1) (.cons (.int .i64 y_3.2) .nil))) [])] ?_ ?_
  · apply prop_of ?_ hq
    kernel_rfl
  refine XS.then ?_
  refine TS.seq ?_
  rcases bif_some h with ⟨c3, h⟩ | ⟨c4, h⟩
  · have hq : (True) ∧ ((True) ∧ ((True) ∧ (((True) ∧ (y_2.1 == y_3.1) = true) ∧ ((True) ∧ ((True) ∧ ((True) ∧ ((True) ∧ ((True) ∧ (True))))))))) := ⟨trivial, ⟨trivial, ⟨trivial, ⟨⟨trivial, c3⟩, ⟨trivial, ⟨trivial, ⟨trivial, ⟨trivial, ⟨trivial, trivial⟩⟩⟩⟩⟩⟩⟩⟩⟩
    refine TS.reg [.none, .none, .none, .dec true] ?_ ?_
    · apply prop_of ?_ hq
      kernel_rfl
    refine XS.then ?_
    refine TS.ret ?_
    obtain rfl : (y_2.2 == y_3.2) = r := Option.some.inj h
    exact XS.fin [] ((True) ∧ (True)) (by kernel_rfl) ⟨trivial, trivial⟩
  · have hq : (True) ∧ ((True) ∧ ((True) ∧ (((True) ∧ (y_2.1 == y_3.1) = false) ∧ ((True) ∧ ((True) ∧ (True)))))) := ⟨trivial, ⟨trivial, ⟨trivial, ⟨⟨trivial, c4⟩, ⟨trivial, ⟨trivial, trivial⟩⟩⟩⟩⟩⟩
    refine TS.reg [.none, .none, .none, .dec false] ?_ ?_
    · apply prop_of ?_ hq
      kernel_rfl
    refine XS.then ?_
    refine TS.ret ?_
    obtain rfl : false = r := Option.some.inj h
    exact XS.fin [] ((True) ∧ (True)) (by kernel_rfl) ⟨trivial, trivial⟩
end Go.Proofs.Ytnibbbmjjdkkgaa
