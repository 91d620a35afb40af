import Derived.Test.YtdgdkbpmmemphaaAm34
namespace Go.Proofs.Ytdgdkbpmmemphaa
open Go Go.RowKit
set_option linter.unusedVariables false
theorem PureC.frz {P : Program} {f : Nat} {args : List AV} {T : TypeId} {e : Sh} {l : List e.T} (h : PureC P f args (.row 0) [.row T e l]) : PureC P f args (.sl e l) [] := by
  intro w fz vs hfz ha
  refine (h w fz vs hfz ha).mono ?_
  rintro x w' ⟨v, G', rfl, hn, hv⟩
  obtain ⟨e1, _⟩ := (show [v] = [G'.rowv 0] ∧ _ from hv)
  obtain rfl : v = G'.rowv 0 := by simpa using e1
  have hb : BlkR w.heap.size w' G' 0 (.row T e l) := hn.blk 0
  obtain ⟨_, cs, hrv, hcat⟩ := hb
  let fz' : Nat → Prop := fun b => G'.fz b ∨ rowBlk (G'.rowv 0) = some b
  have hk : Keeps G'.fz fz' w' w' := ⟨Nat.le_refl _, fun _ _ _ => rfl, fun _ h => .inl h⟩
  have hown : ∀ b, rowBlk (G'.rowv 0) = some b → w.heap.size ≤ b ∧ b < w'.heap.size := fun b hb => by
    have := hn.own 0 b hb
    exact ⟨this.1, this.2.1⟩
  refine ⟨_, { (G0 fz) with fz := fz' }, rfl, ⟨hn.below, fun _ _ => ⟨rfl, rfl⟩, fun b hb => .inl (hn.fz1 b hb), fun b hb => ?_, fun j => ?_, fun j k x _ h => ?_, fun j x h => ?_⟩, ?_⟩
  · rcases hb with hb | hb
    · exact hn.fz2 b hb
    · exact .inr (hown b hb)
  · trivial
  · simp [lk, Blk.live] at h
  · simp [lk, Blk.live] at h
  · show ShR w' fz' (.sl e) l [G'.rowv 0]
    rcases hrv with ⟨hn0, rfl, ad, hv0⟩ | ⟨g, cap, rest, hv0, hcap, hBg, hat, hnc, hcm, hcl, hcr⟩
    · rw [hv0]
      exact ⟨ad, 0, by rw [hn0], by omega, Nat.zero_le _, fun h => by omega⟩
    · have hg : rowBlk (G'.rowv 0) = some g := by
        rw [hv0]
        cases cap with
        | zero => omega
        | succ c => rfl
      refine ⟨some ⟨g, 0, none⟩, cap, by rw [hv0], hnc, hcm, fun h0' => ⟨g, 0, cs, rfl, .inr hg, hat.lt, CatR.mono (fun y c hy => ShR.keep hk e y c hy) _ _ hcat, fun i v hi => ?_⟩⟩
      rw [Nat.zero_add]; exact hat.cell hi
end Go.Proofs.Ytdgdkbpmmemphaa
