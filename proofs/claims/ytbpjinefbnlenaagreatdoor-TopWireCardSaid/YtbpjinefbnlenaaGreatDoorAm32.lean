/- A machine of values, part 32: strings.Cut, Split and ReplaceAll (they read a variable of the library's). -/
import Derived.Test.YtbpjinefbnlenaaGreatDoorAm28
import Derived.WalkSmall
import Derived.Lib.IndexMore
import Derived.Lib.Split
import Derived.Lib.SplitLaws
import Derived.Lib.Replace
import Derived.Lib.TrimByte
namespace Go.Proofs.YtbpjinefbnlenaaGreatDoor
open Go Go.RowKit
set_option linter.unusedVariables false

theorem PureC.cut {P : Program} {f : Nat} (hg : GI = true) (s sep : List UInt8) (hs : s.length < 4294967281)
    (h : ∀ (s sep : ByteArray) (m : Int) (w : World), s.size < 4294967281 → w.cell? ⟨0, 0, none⟩ = some (.int .i64 m) → Calls P f #[.string s, .string sep] w fun e w' =>
      e = .returned (.tuple #[.string ⟨(Lib.cut s.data.toList sep.data.toList).1.toArray⟩, .string ⟨(Lib.cut s.data.toList sep.data.toList).2.1.toArray⟩, .bool (Lib.cut s.data.toList sep.data.toList).2.2]) ∧ ∃ n, w' = w.drewN n) :
    PureC P f [.str s, .str sep] (.tup (.cons (.str (Lib.cut s sep).1) (.cons (.str (Lib.cut s sep).2.1) (.cons (.bool (Lib.cut s sep).2.2) .nil)))) [] := by
  intro w fz vs hfz ha
  obtain ⟨v1, t1, rfl, h2, v2, t2, rfl, h3, h4⟩ := ha
  simp only [ArgsR] at h4
  subst h4
  have e1 : [v1] = [Value.string ⟨s.toArray⟩] := h2
  have e2 : [v2] = [Value.string ⟨sep.toArray⟩] := h3
  obtain rfl : v1 = .string ⟨s.toArray⟩ := by simpa using e1
  obtain rfl : v2 = .string ⟨sep.toArray⟩ := by simpa using e2
  obtain ⟨_, m, hm⟩ := hfz.2.2 hg
  have hz : (⟨s.toArray⟩ : ByteArray).size = s.length := str_size s
  refine (h ⟨s.toArray⟩ ⟨sep.toArray⟩ m w (by rw [hz]; exact hs) hm).mono ?_
  rintro e w' ⟨rfl, n, rfl⟩
  refine ⟨_, G0 fz, rfl, NewR.none (below_drewN (Below.refl _ _) n), ⟨_, rfl, ?_⟩⟩
  exact ⟨_, _, rfl, rfl, _, _, rfl, rfl, _, _, rfl, rfl, rfl⟩
theorem catStr {w : World} {fz : Nat → Prop} : ∀ l : List ByteArray, CatR (ShR w fz .str) (l.map (·.data.toList)) (l.map Value.string)
  | [] => rfl
  | x :: l => ⟨[.string x], l.map Value.string, rfl, by simp [ShR], catStr l⟩
theorem PureC.split {P : Program} {f : Nat} (T : TypeId) (hg : GI = true) (s sep : List UInt8) (hs : s.length < 4294967281 ∧ 1 ≤ sep.length)
    (h : ∀ (s sep : ByteArray) (m : Int) (w : World), s.size < 4294967281 → w.cell? ⟨0, 0, none⟩ = some (.int .i64 m) → 1 ≤ sep.size → Calls P f #[.string s, .string sep] w fun e w' =>
      e = .returned (.slice (some ⟨w.heap.size, 0, none⟩) (Lib.countB s sep + 1) (Lib.countB s sep + 1)) ∧ w' = w.alloc (.cells ((Lib.splitB sep 0 (Lib.countB s sep) s).map Value.string).toArray T)) :
    PureC P f [.str s, .str sep] (.row 0) [.row T .str (Lib.split s sep)] := by
  intro w fz vs hfz ha
  obtain ⟨v1, t1, rfl, h2, v2, t2, rfl, h3, h4⟩ := ha
  simp only [ArgsR] at h4
  subst h4
  have e1 : [v1] = [Value.string ⟨s.toArray⟩] := h2
  have e2 : [v2] = [Value.string ⟨sep.toArray⟩] := h3
  obtain rfl : v1 = .string ⟨s.toArray⟩ := by simpa using e1
  obtain rfl : v2 = .string ⟨sep.toArray⟩ := by simpa using e2
  obtain ⟨_, m, hm⟩ := hfz.2.2 hg
  have z1 : (⟨s.toArray⟩ : ByteArray).size = s.length := str_size s
  have z2 : (⟨sep.toArray⟩ : ByteArray).size = sep.length := str_size sep
  refine (h ⟨s.toArray⟩ ⟨sep.toArray⟩ m w (by rw [z1]; exact hs.1) hm (by rw [z2]; exact hs.2)).mono ?_
  rintro e w' ⟨rfl, rfl⟩
  have hall := Lib.splitB_all ⟨sep.toArray⟩ (by rw [z2]; exact hs.2) 0 (Lib.countB ⟨s.toArray⟩ ⟨sep.toArray⟩) ⟨s.toArray⟩ rfl
  have hdat := Lib.splitB_data ⟨sep.toArray⟩ 0 (Lib.countB ⟨s.toArray⟩ ⟨sep.toArray⟩) ⟨s.toArray⟩
  have hcb : Lib.countB ⟨s.toArray⟩ ⟨sep.toArray⟩ ≤ s.length := by
    have := Lib.countB_le ⟨sep.toArray⟩ (by rw [z2]; exact hs.2) _ ⟨s.toArray⟩ (Nat.le_refl _)
    rw [z1] at this; exact this
  have hl : Lib.split s sep = (Lib.splitB ⟨sep.toArray⟩ 0 (Lib.countB ⟨s.toArray⟩ ⟨sep.toArray⟩) ⟨s.toArray⟩).map (·.data.toList) := hdat.symm
  have hlen : (Lib.split s sep).length = Lib.countB ⟨s.toArray⟩ ⟨sep.toArray⟩ + 1 := by rw [hl, List.length_map, hall]
  refine ⟨_, (G0 fz).put 0 ⟨w.heap.size, 0, none⟩ (.slice (some ⟨w.heap.size, 0, none⟩) (Lib.countB ⟨s.toArray⟩ ⟨sep.toArray⟩ + 1) (Lib.countB ⟨s.toArray⟩ ⟨sep.toArray⟩ + 1)), rfl, newRow (G := G0 fz) (base := 0) ?_ hlen (by unfold maxLen; omega) hfz.1, ?_⟩
  · rw [hl]
    exact catStr _
  · exact ⟨rfl, rfl⟩
end Go.Proofs.YtbpjinefbnlenaaGreatDoor
