/- Disks over a bus: Read and Write, in plain Lean. -/
import Derived.Test.YtbodjbpgdkkohaaSStoC
namespace Go.Proofs.Ytbodjbpgdkkohaa
open Go Go.RowKit
open Classical
set_option linter.unusedVariables false

def cI (cn d : Nat) : Nat := min 4 (cn - d)
theorem cI_eq {cn d : Nat} (h : d < cn) (h64 : cn ≤ 64) : (if IntKind.wrap .i64 ((cn : Int) - (d : Int)) < 4 then IntKind.wrap .i64 ((cn : Int) - (d : Int)) else 4) = (cI cn d : Int) := by
  unfold cI
  rw [w64 (by omega) (by omega)]
  by_cases q : (cn : Int) - (d : Int) < 4
  · rw [if_pos q]; omega
  · rw [if_neg q]; omega
def partV (op : Int) (data : Tx) (cn d : Nat) : Tx := if op = 40 then [] else (data.take (16 * (d + cI cn d))).drop (16 * d)
theorem mkLink {D : List DTx} {sn tag : Int} {fs : List Int} (h1 : diskV D sn = 0) (h2 : 0 ≤ tag ∧ tag ≤ 4294967295) (h3 : fs.length ≤ 1000) (h4 : Ca.fatesOk fs) : linkV D sn tag fs = 0 := by
  unfold linkV
  rw [if_neg (by simpa using h1), if_neg (by omega), if_neg (by omega), if_pos h4]
theorem cmd_len {op : Int} {ln d c : Nat} (hop : op = 40 ∨ op = 42) (h : ln + d ≤ 64) (hc : c ≤ 4) : (Mk.cmdV op ((ln + d : Nat) : Int) (c : Int)).1.length = 10 := by
  unfold Mk.cmdV
  rw [if_pos ⟨by omega, by omega, by omega⟩]; rfl
section
variable {op : Int} {ln cn : Nat} {data : Tx} {fs : List Int}
def okOp (op : Int) (data : Tx) (cn : Nat) : Prop := (op = 40 ∧ data = []) ∨ (op = 42 ∧ data.length = 16 * cn)
theorem part_len {d : Nat} (ho : okOp op data cn) (hd : d < cn) : (op = 40 → partV op data cn d = []) ∧ (op = 42 → (partV op data cn d).length = 16 * cI cn d) := by
  unfold partV
  constructor
  · intro h; rw [if_pos h]
  · intro h
    rw [if_neg (by omega)]
    rcases ho with ⟨h2, _⟩ | ⟨_, h2⟩
    · omega
    · rw [List.length_drop, List.length_take]
      unfold cI; omega
theorem sub_part {d : Nat} (ho : okOp op data cn) (h42 : op = 42) (hd : d < cn) (h64 : cn ≤ 64) : subB data.length (some (((16 * d : Nat) : Nat) : Int)) (some ((16 * (d + cI cn d) : Nat) : Int)) = true := by
  rcases ho with ⟨h2, _⟩ | ⟨_, h2⟩
  · omega
  · simp only [subB, Bool.and_eq_true, decide_eq_true_eq]
    unfold cI; omega
theorem l27S (m N : Nat) (text : Tx) (D : List DTx) (sn tag : Int) (d : Nat) (u : Int) (ho : okOp op data cn) (hd : d < cn) (h64 : ln + cn ≤ 64) :
    loopF (F50_l27 (m + 200) op (ln : Int) (cn : Int) data fs) (N + 1) (text, D, sn, tag, (d : Int), u) = loopF (F50_l31 (m + 200) (loopF (F50_l27 (m + 200) op (ln : Int) (cn : Int) data fs) N) op (cn : Int) fs text (d : Int) (Mk.cmdV op ((ln + d : Nat) : Int) (cI cn d : Int)) (partV op data cn d)) (m + 200) (0, D, sn, tag, u) := by
  show F50_l27 (m + 200) op (ln : Int) (cn : Int) data fs (loopF (F50_l27 (m + 200) op (ln : Int) (cn : Int) data fs) N) (text, D, sn, tag, (d : Int), u) = _
  simp only [F50_l27, F50_j28, cI_eq hd (show cn ≤ 64 by omega)]
  rw [decide_eq_true (show (d : Int) < (cn : Int) by omega), w64 (n := (ln : Int) + (d : Int)) (by omega) (by omega), show (ln : Int) + (d : Int) = ((ln + d : Nat) : Int) by omega, Mk.makeP]
  simp only [cond_true, Option.bind_some]
  have hc4 : cI cn d ≤ 4 := by unfold cI; omega
  rcases ho with ⟨h1, h2⟩ | ⟨h1, h2⟩
  · rw [show (op == 40) = true from beq_iff_eq.2 h1]
    unfold partV
    rw [if_pos h1]; rfl
  · rw [show (op == 40) = false by rw [beq_eq_false_iff_ne]; omega]
    simp only [Bool.not_false, cond_true]
    rw [w64 (n := (d : Int) + (cI cn d : Int)) (by omega) (by omega), w64 (n := (d : Int) * 16) (by omega) (by omega), w64 (n := ((d : Int) + (cI cn d : Int)) * 16) (by omega) (by omega),
      show (d : Int) * 16 = ((16 * d : Nat) : Int) by omega, show ((d : Int) + (cI cn d : Int)) * 16 = ((16 * (d + cI cn d) : Nat) : Int) by omega, sub_part (.inr ⟨h1, h2⟩) h1 hd (by omega)]
    simp only [cond_true, Int.toNat_natCast]
    unfold partV
    rw [if_neg (by omega)]
theorem l21S (m : Nat) (K : Tx × Int × List DTx × Int × Int × Int × Int × Int → Option R7) (text : Tx) (tr : Int) (D : List DTx) (sn tag code : Int) (d : Nat) (u : Int) (ho : okOp op data cn) (hd : d < cn) (h64 : ln + cn ≤ 64) :
    F19_l21 (m + 200) op (ln : Int) (cn : Int) data fs K (text, tr, D, sn, tag, code, (d : Int), u) = F19_j22 (m + 200) K op (cn : Int) fs text tr D sn tag (d : Int) u (Mk.cmdV op ((ln + d : Nat) : Int) (cI cn d : Int)) (partV op data cn d) := by
  simp only [F19_l21, cI_eq hd (show cn ≤ 64 by omega)]
  rw [decide_eq_true (show (d : Int) < (cn : Int) by omega), w64 (n := (ln : Int) + (d : Int)) (by omega) (by omega), show (ln : Int) + (d : Int) = ((ln + d : Nat) : Int) by omega, Mk.madeP]
  simp only [cond_true, Option.bind_some]
  have hc4 : cI cn d ≤ 4 := by unfold cI; omega
  rcases ho with ⟨h1, h2⟩ | ⟨h1, h2⟩
  · rw [show (op == 42) = false by rw [beq_eq_false_iff_ne]; omega]
    unfold partV
    rw [if_pos h1]; rfl
  · rw [show (op == 42) = true from beq_iff_eq.2 h1]
    simp only [cond_true]
    rw [w64 (n := (d : Int) + (cI cn d : Int)) (by omega) (by omega), w64 (n := 16 * (d : Int)) (by omega) (by omega), w64 (n := 16 * ((d : Int) + (cI cn d : Int))) (by omega) (by omega),
      show 16 * (d : Int) = ((16 * d : Nat) : Int) by omega, show 16 * ((d : Int) + (cI cn d : Int)) = ((16 * (d + cI cn d) : Nat) : Int) by omega, sub_part (.inr ⟨h1, h2⟩) h1 hd (by omega)]
    simp only [cond_true, Int.toNat_natCast]
    unfold partV
    rw [if_neg (by omega)]
/-- one cycle of a job -/
theorem oneC (m : Nat) (hm : 100000 < m) (D : List DTx) (sn tag : Int) (d u : Nat) (ho : okOp op data cn) (hd : d < cn) (h64 : ln + cn ≤ 64) (hk : diskV D sn = 0) (ht : 0 ≤ tag ∧ tag ≤ 4294967295) (hf : fs.length ≤ 1000) (hok : Ca.fatesOk fs) (hu : u ≤ fs.length) :
    ∃ (v : R7) (w : Nat), F15 (m + 200) D sn tag 0 ((16 * cI cn d : Nat) : Int) (op == 40) 0 (Mk.cmdV op ((ln + d : Nat) : Int) (cI cn d : Int)).1 (partV op data cn d) (fs.drop u) = some v ∧
      F16 (m + 200) D sn tag 0 ((16 * cI cn d : Nat) : Int) (op == 40) 0 (Mk.cmdV op ((ln + d : Nat) : Int) (cI cn d : Int)).1 (partV op data cn d) (fs.drop u) = some v ∧
      v.1.length = D.length ∧ v.2.2.2.1.length ≤ 4096 ∧ v.2.2.2.2.2.2 = (w : Int) ∧ u + w ≤ fs.length ∧ (v.2.2.2.2.1 ≠ 0 → v.2.2.2.1 = []) ∧ okD v := by
  have hD := (disk0 hk).1.2
  have ld : (fs.drop u).length = fs.length - u := List.length_drop
  obtain ⟨v, h1, h2, ⟨b1, b2, b3, b4, b5⟩, h4⟩ := cycN (m + 200) (by omega) D sn tag 0 ((16 * cI cn d : Nat) : Int) (op == 40) 0 (Mk.cmdV op ((ln + d : Nat) : Int) (cI cn d : Int)).1 (partV op data cn d) (fs.drop u) (by omega)
  have hc4 : cI cn d ≤ 4 := by unfold cI; omega
  have hop : op = 40 ∨ op = 42 := by rcases ho with ⟨h, _⟩ | ⟨h, _⟩ <;> omega
  have hp := part_len ho hd
  have hcl := cmd_len (c := cI cn d) hop (show ln + d ≤ 64 by omega) hc4
  have hcl2 : List.length (Mk.cmdV op ((ln + d : Nat) : Int) (cI cn d : Int)).1 = 10 := hcl
  refine ⟨v, v.2.2.2.2.2.2.toNat, h1, h2, b1, b2, by omega, by omega, b5, h4 (mkLink hk ht (by omega) (fates_drop hok u)) ⟨ht, by omega, by omega, by omega⟩ ⟨fun h => hp.1 (beq_iff_eq.1 h), fun h => ?_, ?_⟩⟩
  · have := hp.2 (by have := beq_eq_false_iff_ne.1 h; omega)
    omega
  · rcases hop with h | h
    · rw [hp.1 h]; simp
    · rw [hp.2 h]; omega
theorem portI (m : Nat) (hm : 100000 < m) (ho : okOp op data cn) (h64 : ln + cn ≤ 64) (hf : fs.length ≤ 1000) (hok : Ca.fatesOk fs) : ∀ (k : Nat) (text : Tx) (tr : Nat) (D : List DTx) (sn tag code : Int) (d u N1 N2 N3 : Nat),
    d < cn → diskV D sn = 0 → (0 ≤ tag ∧ tag ≤ 4294967295) → tr ≤ 2 → u ≤ fs.length → text.length ≤ 4096 * d → 3 * (cn - d) ≤ k + tr → k + 5 ≤ N1 → 5 ≤ N2 + tr → k + 5 ≤ N3 →
    ∃ r : R7, loopF (F50_l31 (m + 200) (loopF (F50_l27 (m + 200) op (ln : Int) (cn : Int) data fs) N1) op (cn : Int) fs text (d : Int) (Mk.cmdV op ((ln + d : Nat) : Int) (cI cn d : Int)) (partV op data cn d)) N2 ((tr : Int), D, sn, tag, (u : Int)) = some r ∧
      loopF (F19_l21 (m + 200) op (ln : Int) (cn : Int) data fs) N3 (text, (tr : Int), D, sn, tag, code, (d : Int), (u : Int)) = some r ∧ r.1.length = D.length
  | k, text, tr, D, sn, tag, code, d, u, N1, N2, N3, hd, hk, ht, htr, hu, htx, hmu, hN1, hN2, hN3 => by
    obtain ⟨v, w, h1, h2, b1, b2, b3, b4, b5, b6, b7, b8⟩ := oneC m hm D sn tag d u ho hd h64 hk ht hf hok hu
    have hc4 : cI cn d ≤ 4 ∧ 1 ≤ cI cn d ∧ d + cI cn d ≤ cn := by unfold cI; omega
    have hb : v.2.2.2.1.length ≤ 4096 := b2
    rw [loopF_step _ N2 _ (by omega), loopF_step _ N3 _ (by omega), l21S m _ text _ D sn tag code d _ ho hd h64]
    simp only [F50_l31, F19_j22, cI_eq hd (show cn ≤ 64 by omega), sub_tail _ _ hu, cond_true, Int.toNat_natCast]
    rw [w64 (n := (cI cn d : Int) * 16) (by omega) (by omega), w64 (n := 16 * (cI cn d : Int)) (by omega) (by omega), show (cI cn d : Int) * 16 = ((16 * cI cn d : Nat) : Int) by omega, show 16 * (cI cn d : Int) = ((16 * cI cn d : Nat) : Int) by omega, h1, h2]
    simp only [Option.bind_some, b3]
    rw [decide_eq_true (show text.length + v.2.2.2.1.length ≤ 9223372036854775807 by omega), w64 (n := (u : Int) + (w : Int)) (by omega) (by omega), w64 (n := (d : Int) + (cI cn d : Int)) (by omega) (by omega), w64 (n := (tr : Int) + 1) (by omega) (by omega),
      show (u : Int) + (w : Int) = ((u + w : Nat) : Int) by omega, show (d : Int) + (cI cn d : Int) = ((d + cI cn d : Nat) : Int) by omega, show (tr : Int) + 1 = ((tr + 1 : Nat) : Int) by omega]
    simp only [cond_true]
    by_cases q0 : v.2.2.2.2.1 = 0
    · rw [show (v.2.2.2.2.1 == 0) = true from beq_iff_eq.2 q0]
      simp only [cond_true]
      have hl : (text ++ v.2.2.2.1).length ≤ 4096 * (d + cI cn d) := by rw [List.length_append]; omega
      by_cases qd : d + cI cn d < cn
      · obtain ⟨N1', rfl⟩ : ∃ N, N1 = N + 1 := ⟨N1 - 1, by omega⟩
        obtain ⟨k', rfl⟩ : ∃ k', k = k' + 1 := ⟨k - 1, by omega⟩
        rw [l27S m N1' (text ++ v.2.2.2.1) v.1 v.2.1 v.2.2.1 (d + cI cn d) _ ho qd h64]
        obtain ⟨r, e1, e2, e3⟩ := portI m hm ho h64 hf hok k' (text ++ v.2.2.2.1) 0 v.1 v.2.1 v.2.2.1 v.2.2.2.2.1 (d + cI cn d) (u + w) N1' (m + 200) (N3 - 1) qd b6 b7 (by omega) b4 hl (by omega) (by omega) (by omega) (by omega)
        exact ⟨r, e1, e2, e3.trans b1⟩
      · have ed : d + cI cn d = cn := by omega
        refine ⟨(v.1, v.2.1, v.2.2.1, text ++ v.2.2.2.1, 0, ((d + cI cn d : Nat) : Int), ((u + w : Nat) : Int)), ?_, ?_, b1⟩
        · rw [loopF_step _ N1 _ (by omega)]
          simp only [F50_l27]
          rw [decide_eq_false (show ¬ ((d + cI cn d : Nat) : Int) < (cn : Int) by omega)]; rfl
        · rw [loopF_step _ (N3 - 1) _ (by omega)]
          simp only [F19_l21, F19_j18]
          rw [decide_eq_false (show ¬ ((d + cI cn d : Nat) : Int) < (cn : Int) by omega), q0]; rfl
    · have han := b5 q0
      have hap : text ++ v.2.2.2.1 = text := by rw [han]; exact List.append_nil _
      rw [show (v.2.2.2.2.1 == 0) = false from beq_eq_false_iff_ne.2 q0, hap]
      have wU : IntKind.wrap .i64 ((u : Int) + (w : Int)) = ((u + w : Nat) : Int) := by rw [w64 (by omega) (by omega)]; omega
      have wT : IntKind.wrap .i64 ((tr : Int) + 1) = ((tr + 1 : Nat) : Int) := by rw [w64 (by omega) (by omega)]; omega
      simp only [cond_false, F50_j32, F19_j18, Bool.not_true, b3, wU, wT]
      have stop : ∀ r : R7, r = (v.1, v.2.1, v.2.2.1, text, v.2.2.2.2.1, (d : Int), ((u + w : Nat) : Int)) → r.1.length = D.length := fun r h => by rw [h]; exact b1
      have again : (v.2.2.2.2.1 = 8 ∨ v.2.2.2.2.1 = 9 ∨ v.2.2.2.2.1 = 4) → ∃ r : R7, (bif (tr : Int) == 2 then some (v.1, v.2.1, v.2.2.1, text, v.2.2.2.2.1, (d : Int), ((u + w : Nat) : Int)) else loopF (F50_l31 (m + 200) (loopF (F50_l27 (m + 200) op (ln : Int) (cn : Int) data fs) N1) op (cn : Int) fs text (d : Int) (Mk.cmdV op ((ln + d : Nat) : Int) (cI cn d : Int)) (partV op data cn d)) (N2 - 1) (((tr + 1 : Nat) : Int), v.1, v.2.1, v.2.2.1, ((u + w : Nat) : Int))) = some r ∧
          (bif v.2.2.2.2.1 == 10 then some (v.1, v.2.1, v.2.2.1, text, v.2.2.2.2.1, (d : Int), ((u + w : Nat) : Int)) else bif v.2.2.2.2.1 == 14 then some (v.1, v.2.1, v.2.2.1, text, v.2.2.2.2.1, (d : Int), ((u + w : Nat) : Int)) else bif ((tr + 1 : Nat) : Int) == 3 then some (v.1, v.2.1, v.2.2.1, text, v.2.2.2.2.1, (d : Int), ((u + w : Nat) : Int)) else loopF (F19_l21 (m + 200) op (ln : Int) (cn : Int) data fs) (N3 - 1) (text, ((tr + 1 : Nat) : Int), v.1, v.2.1, v.2.2.1, v.2.2.2.2.1, (d : Int), ((u + w : Nat) : Int))) = some r ∧ r.1.length = D.length := by
        intro hc
        rw [show (v.2.2.2.2.1 == 10) = false by rw [beq_eq_false_iff_ne]; omega, show (v.2.2.2.2.1 == 14) = false by rw [beq_eq_false_iff_ne]; omega]
        by_cases q2 : tr = 2
        · rw [show ((tr : Int) == 2) = true by rw [beq_iff_eq]; omega, show (((tr + 1 : Nat) : Int) == 3) = true by rw [beq_iff_eq]; omega]
          exact ⟨_, rfl, rfl, b1⟩
        · rw [show ((tr : Int) == 2) = false by rw [beq_eq_false_iff_ne]; omega, show (((tr + 1 : Nat) : Int) == 3) = false by rw [beq_eq_false_iff_ne]; omega]
          obtain ⟨k', rfl⟩ : ∃ k', k = k' + 1 := ⟨k - 1, by omega⟩
          obtain ⟨r, e1, e2, e3⟩ := portI m hm ho h64 hf hok k' text (tr + 1) v.1 v.2.1 v.2.2.1 v.2.2.2.2.1 d (u + w) N1 (N2 - 1) (N3 - 1) hd b6 b7 (by omega) b4 htx (by omega) (by omega) (by omega) (by omega)
          exact ⟨r, e1, e2, e3.trans b1⟩
      rcases b8 with h | h | h | h | h | h
      · exact absurd h q0
      · have := again (.inl h)
        rw [h] at this ⊢
        exact this
      · have := again (.inr (.inl h))
        rw [h] at this ⊢
        exact this
      · rw [h]
        exact ⟨_, rfl, rfl, b1⟩
      · rw [h]
        exact ⟨_, rfl, rfl, b1⟩
      · have := again (.inr (.inr h))
        rw [h] at this ⊢
        exact this
/-- a job, on both sides -/
theorem jobN (m : Nat) (hm : 100000 < m) (ho : okOp op data cn) (h64 : ln + cn ≤ 64) (hf : fs.length ≤ 1000) (hok : Ca.fatesOk fs) (D : List DTx) (sn tag : Int) (hk : diskV D sn = 0) (ht : 0 ≤ tag ∧ tag ≤ 4294967295) :
    ∃ r : R7, F50 (m + 200) D sn tag op (ln : Int) (cn : Int) data fs = some r ∧ loopF (F19_l21 (m + 200) op (ln : Int) (cn : Int) data fs) (m + 200) ([], 0, D, sn, tag, 0, 0, 0) = some r ∧ r.1.length = D.length := by
  unfold F50
  by_cases q : 0 < cn
  · have e := l27S m (m + 199) [] D sn tag 0 0 ho q h64 (fs := fs)
    have hcn : cn ≤ 64 := by omega
    obtain ⟨r, e1, e2, e3⟩ := portI m hm ho h64 hf hok (3 * cn) [] 0 D sn tag 0 0 0 (m + 199) (m + 200) (m + 200) q hk ht (by omega) (by omega) (by simp) (by omega) (by omega) (by omega) (by omega)
    exact ⟨r, e.trans e1, e2, e3⟩
  · obtain rfl : cn = 0 := by omega
    exact ⟨(D, sn, tag, [], 0, 0, 0), rfl, rfl, rfl⟩
end
theorem blocksP (n : Nat) (D : List DTx) (sn tag lba count : Int) (hD : D.length ≤ 64) : F49 n D sn tag lba count = some (if lba < 0 ∨ count < 0 then 1 else if lba + count > ((D.length : Nat) : Int) then 12 else 0) := by
  unfold F49
  by_cases h1 : lba < 0
  · rw [decide_eq_true h1, if_pos (.inl h1)]; rfl
  rw [decide_eq_false h1]
  by_cases h2 : count < 0
  · rw [decide_eq_true h2, if_pos (.inr h2)]; rfl
  rw [decide_eq_false h2, if_neg (by omega)]
  by_cases h3 : lba > ((D.length : Nat) : Int)
  · rw [decide_eq_true h3, if_pos (by omega)]; rfl
  rw [decide_eq_false h3]
  by_cases h4 : count > ((D.length : Nat) : Int)
  · rw [decide_eq_true h4, if_pos (by omega)]; rfl
  rw [decide_eq_false h4, w64 (by omega) (by omega)]
  by_cases h5 : lba + count > ((D.length : Nat) : Int)
  · rw [decide_eq_true h5, if_pos h5]; rfl
  · rw [decide_eq_false h5, if_neg h5]; rfl
/-- what is refused, in the document -/
theorem j12R (n : Nat) (D : List DTx) (sn tag op lba count : Int) (data : Tx) (fs : List Int) (hD : D.length ≤ 64) (h1 : 0 ≤ lba) (h2 : 0 ≤ count) : F19_j12 n D sn tag op lba count data fs false = if lba + count > ((D.length : Nat) : Int) then some (D, sn, tag, [], 12, 0, 0) else loopF (F19_l21 n op lba count data fs) n ([], 0, D, sn, tag, 0, 0, 0) := by
  simp only [F19_j12, F19_j13, cond_false, cond_true]
  by_cases h3 : lba > ((D.length : Nat) : Int)
  · rw [decide_eq_true h3, if_pos (by omega)]; rfl
  rw [decide_eq_false h3]
  by_cases h4 : count > ((D.length : Nat) : Int)
  · rw [decide_eq_true h4, if_pos (by omega)]; rfl
  rw [decide_eq_false h4, w64 (by omega) (by omega)]
  by_cases h5 : lba + count > ((D.length : Nat) : Int)
  · rw [decide_eq_true h5, if_pos h5]; rfl
  · rw [decide_eq_false h5, if_neg h5]; rfl
theorem readN (m : Nat) (D : List DTx) (sn tag lba count : Int) (fs : List Int) (hD : D.length ≤ 8796093022208) (hm : D.length + 200000 < m) : F6 (m + 200) D sn tag lba count fs = some true := by
  have key : ∃ v : R7, F18 (m + 200) D sn tag lba count fs = some v ∧ F19 (m + 200) D sn tag 40 lba count [] fs = some v ∧ v.1.length = D.length := by
    unfold F18 F19
    rw [copyP _ D sn tag hD, linkR _ (by omega)]
    simp only [Option.bind_some]
    rw [linkP _ (by omega)]
    simp only [Option.bind_some, F18_j2]
    by_cases hl : linkV D sn tag fs = 0
    case neg =>
      rw [show (linkV D sn tag fs != 0) = true from bne_iff_ne.2 hl, show (linkV D sn tag fs == 0) = false from beq_eq_false_iff_ne.2 hl]
      exact ⟨_, rfl, rfl, rfl⟩
    obtain ⟨hk, htag, hf, hok⟩ := link0 hl
    have hD64 := (disk0 hk).1.2
    rw [show (linkV D sn tag fs != 0) = false from bne_eq_false_iff_eq.2 hl, show (linkV D sn tag fs == 0) = true from beq_iff_eq.2 hl]
    simp only [cond_true, cond_false]
    rw [blocksP _ D sn tag lba count hD64]
    simp only [Option.bind_some]
    by_cases h1 : lba < 0
    · rw [decide_eq_true h1, if_pos (.inl h1)]; exact ⟨_, rfl, rfl, rfl⟩
    rw [decide_eq_false h1]
    by_cases h2 : count < 0
    · rw [decide_eq_true h2, if_pos (.inr h2)]; exact ⟨_, rfl, rfl, rfl⟩
    rw [decide_eq_false h2, if_neg (by omega)]
    simp only [cond_false]
    rw [show ((((([] : Tx).length : Nat) : Int).tmod 16) != 0) = false from rfl, j12R _ D sn tag 40 lba count [] fs hD64 (by omega) (by omega)]
    by_cases h5 : lba + count > ((D.length : Nat) : Int)
    · rw [if_pos h5, if_pos h5]; exact ⟨_, rfl, rfl, rfl⟩
    rw [if_neg h5, if_neg h5]
    obtain ⟨ln, rfl⟩ : ∃ x : Nat, lba = (x : Int) := ⟨lba.toNat, by omega⟩
    obtain ⟨cn, rfl⟩ : ∃ x : Nat, count = (x : Int) := ⟨count.toNat, by omega⟩
    obtain ⟨r, e1, e2, e3⟩ := jobN m (by omega) (.inl ⟨rfl, rfl⟩) (show ln + cn ≤ 64 by omega) hf hok D sn tag hk htag (op := 40) (data := [])
    refine ⟨r, ?_, e2, e3⟩
    rw [e1]; rfl
  obtain ⟨v, h1, h2, h3⟩ := key
  unfold F6
  rw [h1, h2]
  simp only [Option.bind_some]
  rw [sameL (m + 200) v.1 v.2.1 v.2.2.1 (by rw [h3]; exact hD) (by rw [h3]; omega)]
  simp only [Option.bind_some, BEq.rfl, cond_true, Sh.beq_self]
theorem writeN (m : Nat) (D : List DTx) (sn tag lba : Int) (data : Tx) (fs : List Int) (hD : D.length ≤ 8796093022208) (hd : data.length ≤ 140737488351232) (hm : D.length + 200000 < m) : F7 (m + 200) D sn tag lba data fs = some true := by
  have ew : IntKind.wrap .i64 (((data.length : Nat) : Int).tdiv 16) = ((data.length / 16 : Nat) : Int) := by
    rw [Int.tdiv_eq_ediv_of_nonneg (by omega), w64 (by omega) (by omega)]; omega
  have key : ∃ v : R7, F20 (m + 200) D sn tag lba data fs = some (v.1, v.2.1, v.2.2.1, v.2.2.2.2.1, v.2.2.2.2.2.1, v.2.2.2.2.2.2) ∧ F19 (m + 200) D sn tag 42 lba ((data.length / 16 : Nat) : Int) data fs = some v ∧ v.1.length = D.length := by
    unfold F20 F19
    rw [copyP _ D sn tag hD, linkR _ (by omega)]
    simp only [Option.bind_some]
    rw [linkP _ (by omega)]
    simp only [Option.bind_some, F20_j4, F20_j5, F20_j6, ew]
    by_cases hl : linkV D sn tag fs = 0
    case neg =>
      rw [show (linkV D sn tag fs != 0) = true from bne_iff_ne.2 hl, show (linkV D sn tag fs == 0) = false from beq_eq_false_iff_ne.2 hl]
      exact ⟨(D, sn, tag, [], linkV D sn tag fs, 0, 0), rfl, rfl, rfl⟩
    obtain ⟨hk, htag, hf, hok⟩ := link0 hl
    have hD64 := (disk0 hk).1.2
    rw [hl]
    simp only [bne_self_eq_false, BEq.rfl, cond_true, cond_false]
    have em : ((data.length : Nat) : Int).tmod 16 = ((data.length % 16 : Nat) : Int) := by rw [Int.tmod_eq_emod_of_nonneg (by omega)]; omega
    rw [em]
    have j12t : F19_j12 (m + 200) D sn tag 42 lba ((data.length / 16 : Nat) : Int) data fs true = some (D, sn, tag, [], 1, 0, 0) := rfl
    rw [j12t]
    by_cases q : data.length % 16 = 0
    case neg =>
      rw [show (((data.length % 16 : Nat) : Int) != 0) = true by rw [bne_iff_ne]; omega, j12t]
      refine ⟨(D, sn, tag, [], 1, 0, 0), rfl, ?_, rfl⟩
      cases decide (lba < 0) <;> cases decide (((data.length / 16 : Nat) : Int) < 0) <;> rfl
    rw [show (((data.length % 16 : Nat) : Int) != 0) = false by rw [bne_eq_false_iff_eq]; omega]
    simp only [cond_false]
    rw [blocksP _ D sn tag lba _ hD64, decide_eq_false (show ¬ ((data.length / 16 : Nat) : Int) < 0 by omega)]
    simp only [Option.bind_some]
    by_cases h1 : lba < 0
    · rw [decide_eq_true h1, if_pos (.inl h1)]; exact ⟨(D, sn, tag, [], 1, 0, 0), rfl, rfl, rfl⟩
    rw [decide_eq_false h1, if_neg (by omega)]
    simp only [cond_false]
    rw [j12R _ D sn tag 42 lba _ data fs hD64 (by omega) (by omega)]
    by_cases h5 : lba + ((data.length / 16 : Nat) : Int) > ((D.length : Nat) : Int)
    · rw [if_pos h5, if_pos h5]; exact ⟨(D, sn, tag, [], 12, 0, 0), rfl, rfl, rfl⟩
    rw [if_neg h5, if_neg h5]
    obtain ⟨ln, rfl⟩ : ∃ x : Nat, lba = (x : Int) := ⟨lba.toNat, by omega⟩
    obtain ⟨r, e1, e2, e3⟩ := jobN m (by omega) (.inr ⟨rfl, by omega⟩) (show ln + data.length / 16 ≤ 64 by omega) hf hok D sn tag hk htag (op := 42) (data := data)
    refine ⟨r, ?_, e2, e3⟩
    rw [e1]; rfl
  obtain ⟨v, h1, h2, h3⟩ := key
  unfold F7
  rw [ew, h1, h2]
  simp only [Option.bind_some]
  rw [sameL (m + 200) v.1 v.2.1 v.2.2.1 (by rw [h3]; exact hD) (by rw [h3]; omega)]
  simp only [Option.bind_some, BEq.rfl, cond_true, Sh.beq_self]
theorem read1 (D : List DTx) (sn tag lba count : Int) (fs : List Int) (h : D.length * 16 ≤ 140737488351232) : ∃ n, F6 n D sn tag lba count fs = some true := ⟨D.length + 200001 + 200, readN _ D sn tag lba count fs (by omega) (by omega)⟩
theorem write1 (D : List DTx) (sn tag lba : Int) (data : Tx) (fs : List Int) (h : D.length * 16 ≤ 140737488351232) (hd : data.length ≤ 140737488351232) : ∃ n, F7 n D sn tag lba data fs = some true := ⟨D.length + 200001 + 200, writeN _ D sn tag lba data fs (by omega) hd (by omega)⟩
theorem storeReads_says (a0 : Sh.T (.st (.pair (.st (.pair (.sl .str) (.int .i64))) (.int .i64)))) (g0 : Sh.good (.st (.pair (.st (.pair (.sl .str) (.int .i64))) (.int .i64))) a0) (v0 : Sh.rch (.st (.pair (.st (.pair (.sl .str) (.int .i64))) (.int .i64))) a0) (a1 : Sh.T (.int .i64)) (g1 : Sh.good (.int .i64) a1) (v1 : Sh.rch (.int .i64) a1) (a2 : Sh.T (.int .i64)) (g2 : Sh.good (.int .i64) a2) (v2 : Sh.rch (.int .i64) a2) (a3 : Sh.T (.sl (.int .i64))) (g3 : Sh.good (.sl (.int .i64)) a3) (v3 : Sh.rch (.sl (.int .i64)) a3) :
    ∃ n, F6 n a0.1.1 a0.1.2 a0.2 a1 a2 a3 = some true := read1 a0.1.1 a0.1.2 a0.2 a1 a2 a3 v0.1.1.1
theorem storeWrites_says (a0 : Sh.T (.st (.pair (.st (.pair (.sl .str) (.int .i64))) (.int .i64)))) (g0 : Sh.good (.st (.pair (.st (.pair (.sl .str) (.int .i64))) (.int .i64))) a0) (v0 : Sh.rch (.st (.pair (.st (.pair (.sl .str) (.int .i64))) (.int .i64))) a0) (a1 : Sh.T (.int .i64)) (g1 : Sh.good (.int .i64) a1) (v1 : Sh.rch (.int .i64) a1) (a2 : Sh.T (.str)) (g2 : Sh.good (.str) a2) (v2 : Sh.rch (.str) a2) (a3 : Sh.T (.sl (.int .i64))) (g3 : Sh.good (.sl (.int .i64)) a3) (v3 : Sh.rch (.sl (.int .i64)) a3) :
    ∃ n, F7 n a0.1.1 a0.1.2 a0.2 a1 a2 a3 = some true := write1 a0.1.1 a0.1.2 a0.2 a1 a2 a3 v0.1.1.1 v2
end Go.Proofs.Ytbodjbpgdkkohaa
