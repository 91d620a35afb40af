/- Configurations that are the same; the law DescReads. -/
import Derived.Test.YtdgdkbpmmemphaaSRdR
namespace Go.Proofs.Ytdgdkbpmmemphaa
open Go Go.RowKit
set_option linter.unusedVariables false

theorem eqTx (n : Nat) (l : List CTx) (hl : l.length ≤ 1000000000000000) (hn : l.length + 1 < n) : F38 n l l = some true := by
  unfold F38
  simp only [bne_self_eq_false, cond_false]
  obtain ⟨r, h1, h2⟩ := loopF_post (F38_l2 n l l) (fun x => 0 ≤ x ∧ x ≤ (l.length : Int)) (fun x r => r = true) (fun x => ((l.length : Int) - x).toNat) (by
    rintro k x ⟨hx0, hx1⟩ ih
    simp only [F38_l2]
    by_cases hx : x < (l.length : Int)
    · rw [decide_eq_true hx, inb_true hx0 hx, w64 (n := x + 1) (by omega) (by omega)]
      obtain ⟨r, i1, i2⟩ := ih (x + 1) ⟨by omega, by omega⟩ (by omega)
      exact ⟨r, by simpa using i1, i2⟩
    · rw [decide_eq_false hx]
      exact ⟨true, rfl, rfl⟩) n 0 ⟨by omega, by omega⟩ (by omega)
  rw [h1, h2]
theorem eqEn (n : Nat) (l : List CEnd) (hl : l.length ≤ 1000000000000000) (hn : l.length + 1 < n) : F39 n l l = some true := by
  unfold F39
  simp only [bne_self_eq_false, cond_false]
  obtain ⟨r, h1, h2⟩ := loopF_post (F39_l2 n l l) (fun x => 0 ≤ x ∧ x ≤ (l.length : Int)) (fun x r => r = true) (fun x => ((l.length : Int) - x).toNat) (by
    rintro k x ⟨hx0, hx1⟩ ih
    simp only [F39_l2]
    by_cases hx : x < (l.length : Int)
    · rw [decide_eq_true hx, inb_true hx0 hx, w64 (n := x + 1) (by omega) (by omega)]
      obtain ⟨r, i1, i2⟩ := ih (x + 1) ⟨by omega, by omega⟩ (by omega)
      exact ⟨r, by simpa [Sh.beq_self] using i1, i2⟩
    · rw [decide_eq_false hx]
      exact ⟨true, rfl, rfl⟩) n 0 ⟨by omega, by omega⟩ (by omega)
  rw [h1, h2]
theorem sameC (n : Nat) (v nm at' pw : Int) (Fs : List CFace) (hl : Fs.length ≤ 1000000000000000) (hn : Fs.length + 1 < n)
    (hF : ∀ f ∈ Fs, (f.2.2.2.2.1.length ≤ 1000000000000000 ∧ f.2.2.2.2.1.length + 1 < n) ∧ (f.2.2.2.2.2.length ≤ 1000000000000000 ∧ f.2.2.2.2.2.length + 1 < n)) :
    F15 n v nm at' pw Fs v nm at' pw Fs = some true := by
  unfold F15
  simp only [bne_self_eq_false, cond_false]
  obtain ⟨r, h1, h2⟩ := loopF_post (F15_l4 n Fs Fs) (fun x => 0 ≤ x ∧ x ≤ (Fs.length : Int)) (fun x r => r = true) (fun x => ((Fs.length : Int) - x).toNat) (by
    rintro k x ⟨hx0, hx1⟩ ih
    simp only [F15_l4]
    by_cases hx : x < (Fs.length : Int)
    · rw [decide_eq_true hx, inb_true hx0 hx, w64 (n := x + 1) (by omega) (by omega)]
      obtain ⟨r, i1, i2⟩ := ih (x + 1) ⟨by omega, by omega⟩ (by omega)
      refine ⟨r, ?_, i2⟩
      have hmem : Fs.getD x.toNat ((0 : Int), ((0 : Int), ((0 : Int), ((0 : Int), (([] : List (List UInt8)), ([] : List (Int × Bool × Int × Int × Int))))))) ∈ Fs := by
        rw [List.getD_eq_getElem?_getD, List.getElem?_eq_getElem (by omega)]
        exact List.getElem_mem _
      generalize Fs.getD x.toNat ((0 : Int), ((0 : Int), ((0 : Int), ((0 : Int), (([] : List (List UInt8)), ([] : List (Int × Bool × Int × Int × Int))))))) = f at *
      obtain ⟨⟨a1, a2⟩, a3, a4⟩ := hF f hmem
      have e : F37 n f.1 f.2.1 f.2.2.1 f.2.2.2.1 f.2.2.2.2.1 f.2.2.2.2.2 f.1 f.2.1 f.2.2.1 f.2.2.2.1 f.2.2.2.2.1 f.2.2.2.2.2 = some true := by
        unfold F37
        rw [eqTx n _ a1 a2, eqEn n _ a3 a4]
        simp
      simp only [cond_true, e, Option.bind_some, Bool.not_true, cond_false]
      exact i1
    · rw [decide_eq_false hx]
      exact ⟨true, rfl, rfl⟩) n 0 ⟨by omega, by omega⟩ (by omega)
  rw [h1, h2]
/-- what is read is no more than a configuration may have -/
theorem rdP_small (s : CTx) : (rdP s).2.2.2.2.1.length ≤ 4 ∧ ∀ f ∈ (rdP s).2.2.2.2.1, f.2.2.2.2.1.length ≤ 2 ∧ f.2.2.2.2.2.length ≤ 4 := by
  have he : ∀ x : Int × Int × Int × Int × List CFace × Int, x.2.2.2.2.1 = [] → x.2.2.2.2.1.length ≤ 4 ∧ ∀ f ∈ x.2.2.2.2.1, f.2.2.2.2.1.length ≤ 2 ∧ f.2.2.2.2.2.length ≤ 4 := by
    intro x hx
    rw [hx]
    exact ⟨Nat.zero_le _, fun f hf => by cases hf⟩
  unfold rdP
  split
  · exact he _ rfl
  · split
    · exact he _ rfl
    · rename_i h ds hl
      split
      · split
        · exact he _ rfl
        · rename_i l' z' f' ha
          unfold endP
          split
          · rename_i hc
            obtain ⟨_, _, _, c4, c5⟩ := conf_parts hc
            refine ⟨c4, fun f hf => ?_⟩
            obtain ⟨A, hA⟩ := c5 f hf
            obtain ⟨_, g2, _, g4, _⟩ := face_ok hA
            exact ⟨g2, g4⟩
          · exact he _ rfl
      · exact he _ rfl
theorem descReads_says (a0 : List UInt8) (g0 : Sh.good .str a0) : ∃ n, F4 n a0 = some true := by
  refine ⟨5000, ?_⟩
  unfold F4
  rw [readP 5000 (by omega), readR 5000 (by omega), rd_same]
  obtain ⟨h1, h2⟩ := rdP_small a0
  simp only [Option.bind_some, BEq.rfl, cond_true]
  rw [sameC 5000 _ _ _ _ _ (by omega) (by omega) (fun f hf => by
    obtain ⟨k1, k2⟩ := h2 f hf
    omega)]
  rfl
end Go.Proofs.Ytdgdkbpmmemphaa
