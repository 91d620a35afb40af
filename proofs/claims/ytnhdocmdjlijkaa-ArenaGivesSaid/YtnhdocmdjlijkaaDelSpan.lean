/- slices.Delete of one span, in place. -/
import Derived.Test.YtnhdocmdjlijkaaChecked
import Derived.Shelf.RegionOpenPlain
import Derived.WalkKit
import Derived.Deep.LoopGhost
import Derived.Deep.RegionLaw
import Derived.Lib.Walk
import Derived.Lib.Hide
import Derived.Sort.WalkB12
import Derived.Lib.SliceRun
namespace Go.Proofs.Ytnhdocmdjlijkaa
open Go Go.Shelf Go.RowKit Go.Lib
set_option linter.unusedVariables false

theorem info_span : (Try.prog.info? 125).map (fun i => (i.zero, i.size, i.bytes)) = some (some (.agg #[.int .i64 0, .int .i64 0]), 2, 16) := by kernel_rfl
theorem clear_span (w : World) (ty : TypeId) (g o c : Nat) (h0 : (w.cell? ⟨g, o, none⟩).isSome = true) (h1 : (w.cell? ⟨g, o + 1, none⟩).isSome = true) (f0 : w.frozen? ⟨g, o, none⟩ = false) (f1 : w.frozen? ⟨g, o + 1, none⟩ = false) :
    (Builtin.clear_ #[43] ty #[.slice (some ⟨g, o, none⟩) 1 c]).run Try.prog w = .ok (.tuple #[]) (w.setCells g o [.int .i64 0, .int .i64 0]) := by
  obtain ⟨i0, hi, hz0, hz1, hz2⟩ := info_parts info_span
  have hst := run_storeCells_cells (P := Try.prog) g o [.int .i64 0, .int .i64 0] 0 w (by
    intro j hj
    simp only [List.length_cons, List.length_nil] at hj
    have : j = 0 ∨ j = 1 := by omega
    rcases this with rfl | rfl
    · exact h0
    · exact h1) (by
    intro j hj
    simp only [List.length_cons, List.length_nil] at hj
    have : j = 0 ∨ j = 1 := by omega
    rcases this with rfl | rfl
    · exact f0
    · exact f1) (by intro u hu; simp at hu; subst hu; rfl)
  simp only [Nat.add_zero] at hst
  have hv : (zeroValue 125).run Try.prog w = .ok (.agg #[.int .i64 0, .int .i64 0]) w := by
    simp [zeroValue, typeInfo, hi, hz0, Sem.run]
  simp [Builtin.clear_, run_underlying Try.underlying43, hv, Builtin.zeroCells, Value.cells]
  rw [show List.map (fun i => [Value.int IntKind.i64 0, Value.int IntKind.i64 0][i % 2]?.getD default) (List.range 2) = [.int .i64 0, .int .i64 0] from rfl, hst]
  rfl
theorem setCells_keeps (b : Nat) : ∀ (vs : List Value) (o : Nat) (w : World) (x : Addr), ((w.cell? x).isSome = true ∧ w.frozen? x = false) → ((w.setCells b o vs).cell? x).isSome = true ∧ (w.setCells b o vs).frozen? x = false
  | [], _, _, _, h => h
  | v :: r, o, w, x, h => by
    refine setCells_keeps b r (o + 1) (w.setCell ⟨b, o, none⟩ v) x ⟨?_, (World.frozen?_setCell _ _ _ _).trans h.2⟩
    by_cases e : x = ⟨b, o, none⟩
    · subst e
      rw [World.cell?_setCell_same' _ _ _ h.1]; rfl
    · rw [World.cell?_setCell_other _ _ _ _ (fun q => e q.symm)]; exact h.1
set_option maxHeartbeats 4000000 in
set_option maxRecDepth 1000000 in
theorem del_calls (w : World) (g n cap i j : Nat) (news : List Value) (hj : j = i + 1) (hi : i < n) (hn : n ≤ cap) (hcap : cap ≤ 9223372036854775807) (hl : news.length = (n - j) * 2) (hnews : ∀ (t : Nat) u, news[t]? = some u → w.cell? ⟨g, j * 2 + t, none⟩ = some u) (hone : ∀ u ∈ news, u.oneCell' = true)
    (hdst : ∀ t, t < n * 2 → (w.cell? ⟨g, t, none⟩).isSome = true ∧ w.frozen? ⟨g, t, none⟩ = false) :
    Calls Try.prog 59 #[.slice (some ⟨g, 0, none⟩) n cap, .int .i64 i, .int .i64 j] w fun e w' => e = .returned (.slice (some ⟨g, 0, none⟩) (i + (n - j)) cap) ∧ w' = (w.drew.setCells g (0 + i * 2) news).setCells g ((i + (n - j)) * 2) [.int .i64 0, .int .i64 0] := by
  obtain ⟨i0, hi0, hz0, hz1, hz2⟩ := info_parts info_span
  obtain ⟨A, hA, hsrc⟩ : ∃ A : Addr, (if cap = j then some (⟨g, 0, none⟩ : Addr) else some ⟨g, j * 2, none⟩) = some A ∧ Hid (∀ t u, news[t]? = some u → w.drew.cell? (A.add t) = some u) := by
    by_cases h : cap = j
    · refine ⟨⟨g, 0, none⟩, by simp [h], fun t u hu => ?_⟩
      have h0 : news.length = 0 := by rw [hl]; omega
      rw [List.length_eq_zero_iff.1 h0] at hu
      simp at hu
    · refine ⟨⟨g, j * 2, none⟩, by simp [h], fun t u hu => ?_⟩
      rw [Addr.add_lit]
      exact hnews t u hu
  have s1 : Hid (news.length = (n - j) * 2) := hl
  have s2 : Hid (∀ u ∈ news, u.oneCell' = true) := hone
  have s3 : Hid (∀ t, t < news.length → (w.drew.cell? ⟨g, 0 + i * 2 + t, none⟩).isSome = true ∧ w.drew.frozen? ⟨g, 0 + i * 2 + t, none⟩ = false) := by
    intro t ht
    rw [hl] at ht
    rw [Nat.zero_add]
    exact hdst (i * 2 + t) (by omega)
  obtain ⟨W1, hW1⟩ : ∃ W1, W1 = w.drew.setCells g (0 + i * 2) news := ⟨_, rfl⟩
  have hkeep : ∀ t, t < n * 2 → (W1.cell? ⟨g, t, none⟩).isSome = true ∧ W1.frozen? ⟨g, t, none⟩ = false := by
    intro t ht
    rw [hW1]
    exact setCells_keeps g news (0 + i * 2) w.drew ⟨g, t, none⟩ (hdst t ht)
  have hcl : ∀ ty, (Builtin.clear_ #[43] ty #[.slice (some ⟨g, (i + (n - j)) * 2, none⟩) (n - (i + (n - j))) (cap - (i + (n - j)))]).run Try.prog W1 = .ok (.tuple #[]) (W1.setCells g ((i + (n - j)) * 2) [.int .i64 0, .int .i64 0]) := fun ty => by
    rw [show n - (i + (n - j)) = 1 by omega]
    exact clear_span W1 ty g _ _ (hkeep _ (by omega)).1 (hkeep _ (by omega)).1 (hkeep _ (by omega)).2 (hkeep _ (by omega)).2
  have hW : Hid (W1 = w.drew.setCells g (0 + i * 2) news) := hW1
  have hic : i ≤ cap := by omega
  have hjc : j ≤ cap := by omega
  have hin : i ≤ n := by omega
  have hjn : j ≤ n := by omega
  have hij : ¬ ((i : Int) = (j : Int)) := by omega
  have hij2 : i ≤ j := by omega
  have hne : ¬ cap = i + (n - j) := by omega
  have hle : i + (n - j) ≤ n := by omega
  have hroom : i + (n - j) ≤ cap := by omega
  rw [← hW1]
  clear hnews hdst hl hone hW1 hkeep
  clear hj hi
  have mixed : Try.prog.follows .mixedOrders = true := by kernel_rfl
  go_enter Try.func59, Try.ntmps59
  go_wp2_with fail
  go_region_law_o (refine step_append_room rfl (.tmp 22) (.tmp 25) 43 rfl 125 i0 2 Try.underlying43 hi0 hz1 g 0 i cap (by simp [Act.eval, Act.put]) A (n - j) (cap - j) news (by simp [Act.eval, Act.put]) s1.out hsrc.out s2.out (by omega) s3.out ?_; rw [← hW.out])
  go_wp2
  go_ret
  exact ⟨rfl, rfl⟩
end Go.Proofs.Ytnhdocmdjlijkaa
