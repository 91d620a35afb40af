/- Disks over a bus: what is checked first; statuses; in plain Lean. -/
import Derived.Test.YtbodjbpgdkkohaaSServe3
import Derived.Test.YtbodjbpgdkkohaaSCarryK
import Derived.Test.YtbodjbpgdkkohaaSMakesK
namespace Go.Proofs.Ytbodjbpgdkkohaa
open Go Go.RowKit
open Classical
set_option linter.unusedVariables false

theorem fateP (n : Nat) (hn : 5000 < n) (fs : List Int) (hf : fs.length ≤ 1000) : loopF (F41_l12 n fs) n 0 = some (if Ca.fatesOk fs then 0 else 1) := by
  refine loopF_eq (F41_l12 n fs) (fun _ => some (if Ca.fatesOk fs then 0 else 1)) (fun x => ∃ k : Nat, x = (k : Int) ∧ k ≤ fs.length ∧ ∀ j, j < k → 1 ≤ fs.getD j 0 ∧ fs.getD j 0 ≤ 5) (fun x => fs.length - x.toNat) ?_ n 0 ⟨0, rfl, by omega, fun j h => by omega⟩ (by simp; omega)
  rintro kk x ⟨k, rfl, hk, hall⟩ ih
  have e76 : ∀ f, F76 n f = some (!decide (1 ≤ f ∧ f ≤ 5)) := fun f => by
    unfold F76
    by_cases h : f < 1
    · rw [decide_eq_true h, decide_eq_false (show ¬ (1 ≤ f ∧ f ≤ 5) by omega)]; rfl
    · rw [decide_eq_false h]
      by_cases h2 : f > 5
      · rw [decide_eq_true h2, decide_eq_false (show ¬ (1 ≤ f ∧ f ≤ 5) by omega)]; rfl
      · rw [decide_eq_false h2, decide_eq_true (show 1 ≤ f ∧ f ≤ 5 by omega)]; rfl
  simp only [F41_l12, Int.toNat_natCast, e76, Option.bind_some]
  by_cases hka : k < fs.length
  · rw [decide_eq_true (show (k : Int) < ((fs.length : Nat) : Int) by omega), inb_true (show (0 : Int) ≤ k by omega) (show (k : Int) < (fs.length : Nat) by omega), w64 (n := (k : Int) + 1) (by omega) (by omega)]
    simp only [cond_true]
    by_cases q1 : 1 ≤ fs.getD k 0 ∧ fs.getD k 0 ≤ 5
    · rw [decide_eq_true q1]
      exact ih _ ⟨k + 1, by omega, by omega, fun j hj => by
        rcases Nat.lt_succ_iff_lt_or_eq.1 hj with h | h
        · exact hall j h
        · subst h; exact q1⟩ (by omega)
    · rw [decide_eq_false q1, if_neg (fun hh => q1 (hh k hka))]
      simp only [Bool.not_false, cond_true, F41_j11]
      rw [decide_eq_true (show (k : Int) ≥ 0 by omega)]; rfl
  · obtain rfl : k = fs.length := by omega
    rw [decide_eq_false (by omega), if_pos (show Ca.fatesOk fs from hall)]; rfl
theorem fateR (n : Nat) (hn : 5000 < n) (fs : List Int) (hf : fs.length ≤ 1000) : loopF (F44_l12 n fs) n 0 = some (if Ca.fatesOk fs then 0 else 1) := by
  refine loopF_eq (F44_l12 n fs) (fun _ => some (if Ca.fatesOk fs then 0 else 1)) (fun x => ∃ k : Nat, x = (k : Int) ∧ k ≤ fs.length ∧ ∀ j, j < k → 1 ≤ fs.getD j 0 ∧ fs.getD j 0 ≤ 5) (fun x => fs.length - x.toNat) ?_ n 0 ⟨0, rfl, by omega, fun j h => by omega⟩ (by simp; omega)
  rintro kk x ⟨k, rfl, hk, hall⟩ ih
  have e80 : ∀ f, F80 n f = some (!decide (1 ≤ f ∧ f ≤ 5)) := fun f => by
    unfold F80 F81
    rw [betC]; rfl
  simp only [F44_l12, Int.toNat_natCast, e80, Option.bind_some]
  by_cases hka : k < fs.length
  · rw [decide_eq_true (show (k : Int) < ((fs.length : Nat) : Int) by omega), inb_true (show (0 : Int) ≤ k by omega) (show (k : Int) < (fs.length : Nat) by omega), w64 (n := (k : Int) + 1) (by omega) (by omega)]
    simp only [cond_true]
    by_cases q1 : 1 ≤ fs.getD k 0 ∧ fs.getD k 0 ≤ 5
    · rw [decide_eq_true q1]
      exact ih _ ⟨k + 1, by omega, by omega, fun j hj => by
        rcases Nat.lt_succ_iff_lt_or_eq.1 hj with h | h
        · exact hall j h
        · subst h; exact q1⟩ (by omega)
    · rw [decide_eq_false q1, if_neg (fun hh => q1 (hh k hka))]
      simp only [Bool.not_false, cond_true, F44_j11]
      rw [decide_eq_true (show (k : Int) ≥ 0 by omega)]; rfl
  · obtain rfl : k = fs.length := by omega
    rw [decide_eq_false (by omega), if_pos (show Ca.fatesOk fs from hall)]; rfl
/-- what is refused ahead of all -/
noncomputable def linkV (D : List DTx) (sn tag : Int) (fs : List Int) : Int :=
  if diskV D sn ≠ 0 then diskV D sn else if ¬ (0 ≤ tag ∧ tag ≤ 4294967295) then 1 else if fs.length > 1000 then 2 else if Ca.fatesOk fs then 0 else 1
theorem linkP (n : Nat) (hn : 5000 < n) (D : List DTx) (sn tag : Int) (fs : List Int) : F41 n D sn tag fs = some (linkV D sn tag fs) := by
  unfold F41 linkV
  rw [diskP n D sn (by omega)]
  simp only [Option.bind_some]
  by_cases hk : diskV D sn = 0
  · rw [show (diskV D sn != 0) = false from bne_eq_false_iff_eq.2 hk, if_neg (by simpa using hk)]
    by_cases h0 : tag < 0
    · rw [decide_eq_true h0, if_pos (by omega)]; rfl
    rw [decide_eq_false h0]
    by_cases h1 : tag ≥ 4294967296
    · rw [decide_eq_true h1, if_pos (by omega)]; rfl
    rw [decide_eq_false h1, if_neg (by omega)]
    by_cases h2 : fs.length > 1000
    · rw [decide_eq_true (show ((fs.length : Nat) : Int) > 1000 by omega), if_pos h2]; rfl
    rw [decide_eq_false (show ¬ ((fs.length : Nat) : Int) > 1000 by omega), if_neg h2]
    exact fateP n hn fs (by omega)
  · rw [show (diskV D sn != 0) = true from bne_iff_ne.2 hk, if_pos hk]; rfl
theorem linkR (n : Nat) (hn : 5000 < n) (D : List DTx) (sn tag : Int) (fs : List Int) : F44 n D sn tag fs = some (linkV D sn tag fs) := by
  unfold F44 linkV
  rw [diskR n D sn (by omega), longR n (by omega)]
  simp only [Option.bind_some]
  by_cases hk : diskV D sn = 0
  · rw [show (diskV D sn != 0) = false from bne_eq_false_iff_eq.2 hk, if_neg (by simpa using hk)]
    by_cases h0 : 0 ≤ tag ∧ tag ≤ 4294967295
    · rw [decide_eq_true h0, if_neg (by omega)]
      by_cases h2 : fs.length > 1000
      · rw [decide_eq_true (show ((fs.length : Nat) : Int) > 1000 by omega), if_pos h2]; rfl
      rw [decide_eq_false (show ¬ ((fs.length : Nat) : Int) > 1000 by omega), if_neg h2]
      exact fateR n hn fs (by omega)
    · rw [decide_eq_false h0, if_pos h0]; rfl
  · rw [show (diskV D sn != 0) = true from bne_iff_ne.2 hk, if_pos hk]; rfl
theorem link0 {D : List DTx} {sn tag : Int} {fs : List Int} (h : linkV D sn tag fs = 0) : diskV D sn = 0 ∧ (0 ≤ tag ∧ tag ≤ 4294967295) ∧ fs.length ≤ 1000 ∧ Ca.fatesOk fs := by
  unfold linkV at h
  by_cases hk : diskV D sn = 0
  · rw [if_neg (by simpa using hk)] at h
    by_cases h0 : 0 ≤ tag ∧ tag ≤ 4294967295
    · rw [if_neg (by omega)] at h
      by_cases h2 : fs.length > 1000
      · rw [if_pos h2] at h; omega
      rw [if_neg h2] at h
      by_cases h3 : Ca.fatesOk fs
      · exact ⟨hk, h0, by omega, h3⟩
      · rw [if_neg h3] at h; omega
    · rw [if_pos h0] at h; omega
  · rw [if_pos hk] at h; exact absurd h hk
/-- a status's text, from its parts -/
theorem same13 (s : Tx) (h13 : 13 ≤ s.length) : ((([85, 83, 66, 83] ++ lb (four s 4 : Int)) ++ lb (four s 8 : Int)) ++ strOf [IntKind.wrap .u8 (byN s 12 : Int)] = s) ↔ (s.length = 13 ∧ s.take 4 = [85, 83, 66, 83]) := by
  have e12 : strOf [IntKind.wrap .u8 (byN s 12 : Int)] = [s.getD 12 0] := by
    have hb := byN_lt s 12
    have : UInt8.ofNat (IntKind.wrap .u8 (byN s 12 : Int)).toNat = s.getD 12 0 := byte_of s 12 _ (by rw [u8w]; omega)
    rw [← this]; rfl
  rw [e12, lb_four s 4, lb_four s 8]
  constructor
  · intro h
    have hl := congrArg List.length h
    have ht := congrArg (List.take 4) h
    simp only [List.length_append, List.length_cons, List.length_nil] at hl
    exact ⟨by omega, ht.symm⟩
  · rintro ⟨hl, ht⟩
    have s4 := split4 s 4 (by omega)
    have s8 := split4 s 8 (by omega)
    have s12 : s.drop 12 = [s.getD 12 0] := by
      rw [dropE s 12 0 (by omega), List.drop_eq_nil_of_le (by omega)]
    rw [s12] at s8
    rw [s8] at s4
    have e := List.take_append_drop 4 s
    rw [ht, s4] at e
    simpa [List.append_assoc] using e
theorem tellB (n : Nat) (hn : 100 < n) (s : Tx) (hs : s.length ≤ 1000000) : ∃ a, F79 n s = some a ∧ F48 n s = some a ∧ 0 ≤ a.2.2.1 ∧ a.2.2.1 ≤ 2 := by
  unfold F79 F48
  by_cases h13 : s.length < 13
  · rw [decide_eq_true (show ((s.length : Nat) : Int) < 13 by omega)]; exact ⟨_, rfl, rfl, by simp, by simp⟩
  rw [decide_eq_false (show ¬ ((s.length : Nat) : Int) < 13 by omega)]
  have e4 : F62 n s 4 = some (four s 4 : Int) := longAtP n s 4 (by omega) (by omega)
  have e8 : F62 n s 8 = some (four s 8 : Int) := longAtP n s 8 (by omega) (by omega)
  have hb := byN_lt s 12
  have ec : IntKind.wrap .i64 (((s.getD 12 0).toNat : Nat) : Int) = (byN s 12 : Int) := w64 (by omega) (by have : (s.getD 12 0).toNat < 256 := hb; omega)
  have l4 := four_lt s 4
  have l8 := four_lt s 8
  rw [e4, e8, inb_true (show (0 : Int) ≤ 12 by omega) (show (12 : Int) < s.length by omega), ec]
  simp only [cond_false, cond_true, Option.bind_some, statP]
  have p4 : subB s.length none (some 4) = true := by simp [subB]; omega
  have d4 : subB s.length (some 4) none = true := by simp [subB]; omega
  have d8 : subB s.length (some 8) none = true := by simp [subB]; omega
  have r4 : F66 n (s.drop 4) = some (four s 4 : Int) := lowNumR n s 4 (by omega) (by omega)
  have r8 : F66 n (s.drop 8) = some (four s 8 : Int) := lowNumR n s 8 (by omega) (by omega)
  have jt : F48_j2 n s true = some (0, 0, 0, 4) := rfl
  have jf : F48_j2 n s false = some ((four s 4 : Int), (four s 8 : Int), (byN s 12 : Int), 0) := by
    unfold F48_j2
    simp only
    rw [d4, d8, r4, r8, inb_true (show (0 : Int) ≤ 12 by omega) (show (12 : Int) < s.length by omega), ec]; rfl
  have eb : decide ((((s.getD 12 0).toNat : Nat) : Int) > 2) = decide (byN s 12 > 2) := by
    have : (s.getD 12 0).toNat = byN s 12 := rfl
    rw [this]; exact decide_eq_decide.2 (by omega)
  rw [p4, jt, eb]
  have key := same13 s (by omega)
  by_cases hc : byN s 12 ≤ 2
  · rw [show stV (four s 4 : Int) (four s 8 : Int) (byN s 12 : Int) = ((([85, 83, 66, 83] ++ lb (four s 4 : Int)) ++ lb (four s 8 : Int)) ++ strOf [IntKind.wrap .u8 (byN s 12 : Int)], 0) by unfold stV; rw [if_pos ⟨by omega, by omega, by omega⟩]]
    simp only [bne_self_eq_false, cond_false, cond_true]
    rw [decide_eq_false (show ¬ byN s 12 > 2 by omega)]
    by_cases g : s.length = 13 ∧ s.take 4 = [85, 83, 66, 83]
    · rw [key.2 g, decide_eq_false (show ¬ ((s.length : Nat) : Int) > 13 by omega), g.2]
      simp only [BEq.rfl, Bool.not_true, cond_false]
      rw [jf]
      exact ⟨_, rfl, rfl, by show (0 : Int) ≤ (byN s 12 : Int); omega, by show (byN s 12 : Int) ≤ 2; omega⟩
    · have ne : (((([85, 83, 66, 83] ++ lb (four s 4 : Int)) ++ lb (four s 8 : Int)) ++ strOf [IntKind.wrap .u8 (byN s 12 : Int)]) == s) = false := beq_eq_false_iff_ne.2 fun h => g (key.1 h)
      rw [ne]
      refine ⟨(0, 0, 0, 4), rfl, ?_, by simp, by simp⟩
      by_cases q : ((s.length : Nat) : Int) > 13
      · rw [decide_eq_true q]; rfl
      · rw [decide_eq_false q, show ((s.take 4) == ([85, 83, 66, 83] : List UInt8)) = false from beq_eq_false_iff_ne.2 fun h => g ⟨by omega, h⟩]; rfl
  · rw [show stV (four s 4 : Int) (four s 8 : Int) (byN s 12 : Int) = ([], 1) by unfold stV; rw [if_neg (by omega)]]
    refine ⟨(0, 0, 0, 4), rfl, ?_, by simp, by simp⟩
    rw [decide_eq_true (show byN s 12 > 2 by omega), jt]
    by_cases q : ((s.length : Nat) : Int) > 13
    · rw [decide_eq_true q]; rfl
    · rw [decide_eq_false q]
      cases (!(s.take 4 == ([85, 83, 66, 83] : List UInt8))) <;> rfl
/-- fates that are left -/
theorem fates_drop {fs : List Int} (h : Ca.fatesOk fs) (k : Nat) : Ca.fatesOk (fs.drop k) := by
  intro j hj
  rw [List.length_drop] at hj
  have := h (k + j) (by omega)
  rw [List.getD_eq_getElem?_getD] at this
  rw [List.getD_eq_getElem?_getD, List.getElem?_drop]
  exact this
theorem carry64 (n : Nat) (hn : 6000 < n) (t : Tx) (ht : t.length ≤ 4096) (fs : List Int) (hf : fs.length ≤ 1000) (h : Ca.fatesOk fs) :
    ∃ (code : Int) (k : Nat) (done : Int) (u : Nat), F95 n t 64 fs = some (code, t.take k, done, (u : Int), 0) ∧ F47 n t 64 fs = some (code, t.take k, done, (u : Int), 0) ∧ u ≤ fs.length ∧ (code = 0 → t.take k = t) ∧ (code = 0 ∨ code = 8 ∨ code = 9 ∨ code = 10) := by
  obtain ⟨⟨code, got, done, used, e⟩, h1, h2, h3⟩ := Ca.carryK n hn t 64 fs
  obtain ⟨a1, a2, a3, ⟨k, a4⟩, a5, a6⟩ := h3 ht rfl hf h
  simp only at a1 a2 a3 a4 a5 a6
  subst a3 a4
  exact ⟨code, k, done, used.toNat, by rw [h1, Int.toNat_of_nonneg a1], by rw [h2, Int.toNat_of_nonneg a1], by omega, a5, a6⟩
end Go.Proofs.Ytbodjbpgdkkohaa

namespace Go.Proofs.Ytbodjbpgdkkohaa
open Go Go.RowKit
open Classical
set_option linter.unusedVariables false

abbrev R7 := List DTx × Int × Int × Tx × Int × Int × Int
def finV (D : List DTx) (s tg : Int) (ans : Tx) (c u : Int) : R7 := if c = 1 then (D, s, tg, [], 14, 0, u) else if c = 2 then (D, s, tg, [], 4, 0, u) else (D, s, tg, ans, 0, 0, u)
def endV (D : List DTx) (s tg : Int) (ans : Tx) (code c u : Int) : R7 := if code ≠ 0 then (D, s, tg, [], code, 0, u) else finV D s tg ans c u
theorem loopF_step {D R : Type} (B : (D → Option R) → D → Option R) (n : Nat) (d : D) (h : 0 < n) : loopF B n d = B (loopF B (n - 1)) d := by
  cases n with
  | zero => omega
  | succ n => rfl
theorem sub_tail (m u : Nat) (h : u ≤ m) : subB m (some (u : Int)) none = true := by simp [subB]; omega
section
variable {D D' : List DTx} {sn s' tag tg : Int} {ans st : Tx} {fs : List Int} {code done c : Int} {k u u' : Nat} {a : Int × Int × Int × Int}
theorem tailT (ht : IntKind.wrap .i64 (tag + 1) = tag + 1) (n : Nat) (x : Tx) (code u : Int) : F15_j46 n (sn, tag, D) (x, code, D', s', fs, u) = some (D', s', (tag + 1).tmod 4294967296, x, code, 0, u) := by
  unfold F15_j46
  simp only [ht]
theorem j52V (ht : IntKind.wrap .i64 (tag + 1) = tag + 1) (n : Nat) (ha : F79 n st = some a) (got : Tx) (u : Int) :
    F15_j52 n (sn, tag, D) ans st D' s' (got, code, fs, u) = some (endV D' s' ((tag + 1).tmod 4294967296) ans code a.2.2.1 u) := by
  unfold F15_j52
  simp only [tailT ht, ha, Option.bind_some]
  unfold endV finV
  by_cases h0 : code = 0
  · rw [show (code != 0) = false from bne_eq_false_iff_eq.2 h0, if_neg (by simpa using h0)]
    by_cases h1 : a.2.2.1 = 1
    · rw [show (a.2.2.1 == 1) = true from beq_iff_eq.2 h1, if_pos h1]; rfl
    rw [show (a.2.2.1 == 1) = false from beq_eq_false_iff_ne.2 h1, if_neg h1]
    by_cases h2 : a.2.2.1 = 2
    · rw [show (a.2.2.1 == 2) = true from beq_iff_eq.2 h2, if_pos h2]; rfl
    rw [show (a.2.2.1 == 2) = false from beq_eq_false_iff_ne.2 h2, if_neg h2]; rfl
  · rw [show (code != 0) = true from bne_iff_ne.2 h0, if_pos h0]; rfl
theorem j51V (ht : IntKind.wrap .i64 (tag + 1) = tag + 1) (n : Nat) (ha : F79 n st = some a) (hc : F95 n st 64 fs = some (code, st.take k, done, (u : Int), 0)) (hu : u ≤ fs.length) (hs : u' + fs.length ≤ 100000) :
    F15_j51 n (sn, tag, D) (ans, st, D', s', fs, (u' : Int)) = some (endV D' s' ((tag + 1).tmod 4294967296) ans code a.2.2.1 ((u' + u : Nat) : Int)) := by
  unfold F15_j51
  simp only [hc, Option.bind_some, bne_self_eq_false, cond_false, sub_tail _ _ hu, cond_true]
  rw [j52V ht n ha, w64 (by omega) (by omega)]
  simp
theorem j58V (ht : IntKind.wrap .i64 (tag + 1) = tag + 1) (n : Nat) {v : List DTx × Int × Tx × Tx × Int} (ha : F79 n v.2.2.2.1 = some a) (got : Tx) (u : Int) :
    F15_j58 n (sn, tag, D) v (got, code, fs, u) = some (endV v.1 v.2.1 ((tag + 1).tmod 4294967296) v.2.2.1 code a.2.2.1 u) := by
  unfold F15_j58
  simp only [tailT ht, ha, Option.bind_some]
  unfold endV finV
  by_cases h0 : code = 0
  · rw [show (code != 0) = false from bne_eq_false_iff_eq.2 h0, if_neg (by simpa using h0)]
    by_cases h1 : a.2.2.1 = 1
    · rw [show (a.2.2.1 == 1) = true from beq_iff_eq.2 h1, if_pos h1]; rfl
    rw [show (a.2.2.1 == 1) = false from beq_eq_false_iff_ne.2 h1, if_neg h1]
    by_cases h2 : a.2.2.1 = 2
    · rw [show (a.2.2.1 == 2) = true from beq_iff_eq.2 h2, if_pos h2]; rfl
    rw [show (a.2.2.1 == 2) = false from beq_eq_false_iff_ne.2 h2, if_neg h2]; rfl
  · rw [show (code != 0) = true from bne_iff_ne.2 h0, if_pos h0]; rfl
theorem j57V (ht : IntKind.wrap .i64 (tag + 1) = tag + 1) (n : Nat) {v : List DTx × Int × Tx × Tx × Int} (ha : F79 n v.2.2.2.1 = some a) (hc : F95 n v.2.2.2.1 64 fs = some (code, v.2.2.2.1.take k, done, (u : Int), 0)) (hu : u ≤ fs.length) (hs : u' + fs.length ≤ 100000) :
    F15_j57 n (sn, tag, D) v (fs, (u' : Int)) = some (endV v.1 v.2.1 ((tag + 1).tmod 4294967296) v.2.2.1 code a.2.2.1 ((u' + u : Nat) : Int)) := by
  unfold F15_j57
  simp only [hc, Option.bind_some, bne_self_eq_false, cond_false, sub_tail _ _ hu, cond_true]
  rw [j58V ht n ha, w64 (by omega) (by omega)]
  simp
/-- one text of a cycle, in the document -/
theorem refStep (n : Nat) (data : Tx) (v : List DTx × Int × Tx × Tx × Int) (texts : List Tx) (kk : Int × Int × List DTx × Int → Option R7) (x : Nat) (hx : x < texts.length) (hl : texts.length ≤ 3) (hu' : u' ≤ fs.length) (hf : fs.length ≤ 1000)
    (t : Tx) (ht : texts.getD x [] = t) (hc : F47 n t 64 (fs.drop u') = some (code, t.take k, done, (u : Int), 0)) (hu : u ≤ (fs.drop u').length) (S : List DTx × Int)
    (hS : S = if (x = 1 ∧ data ≠ [] ∧ t.take k = data) ∨ (x = 0 ∧ data = [] ∧ code = 0) then (v.1, v.2.1) else (D', s')) :
    F16_l38 n data fs tg v texts kk ((x : Int), (u' : Int), D', s') = if code ≠ 0 then some (S.1, S.2, tg, [], code, 0, ((u' + u : Nat) : Int)) else kk (((x + 1 : Nat) : Int), ((u' + u : Nat) : Int), S.1, S.2) := by
  have hu2 : u ≤ fs.length := by rw [List.length_drop] at hu; omega
  have e40 : ∀ (D2 : List DTx) (s2 : Int), F16_j40 n kk tg (x : Int) (u' : Int) (code, t.take k, done, (u : Int), 0) (D2, s2) = if code ≠ 0 then some (D2, s2, tg, [], code, 0, ((u' + u : Nat) : Int)) else kk (((x + 1 : Nat) : Int), ((u' + u : Nat) : Int), D2, s2) := by
    intro D2 s2
    unfold F16_j40
    simp only
    rw [w64 (n := (u' : Int) + (u : Int)) (by omega) (by omega), w64 (n := (x : Int) + 1) (by omega) (by omega)]
    by_cases h0 : code = 0
    · rw [show (code != 0) = false from bne_eq_false_iff_eq.2 h0, if_neg (by simpa using h0)]; simp
    · rw [show (code != 0) = true from bne_iff_ne.2 h0, if_pos h0]; simp
  have e39 : ∀ b : Bool, F16_j39 n kk tg v (x : Int) (u' : Int) D' s' (code, t.take k, done, (u : Int), 0) b = if code ≠ 0 then some ((if b = true then (v.1, v.2.1) else (D', s')).1, (if b = true then (v.1, v.2.1) else (D', s')).2, tg, [], code, 0, ((u' + u : Nat) : Int)) else kk (((x + 1 : Nat) : Int), ((u' + u : Nat) : Int), (if b = true then (v.1, v.2.1) else (D', s')).1, (if b = true then (v.1, v.2.1) else (D', s')).2) := by
    intro b
    unfold F16_j39
    cases b
    · simp only [cond_false, e40]; simp
    · simp only [cond_true, e40]; simp
  have main : ∀ b : Bool, (b = true ↔ ((x = 1 ∧ data ≠ [] ∧ t.take k = data) ∨ (x = 0 ∧ data = [] ∧ code = 0))) → F16_j39 n kk tg v (x : Int) (u' : Int) D' s' (code, t.take k, done, (u : Int), 0) b = if code ≠ 0 then some (S.1, S.2, tg, [], code, 0, ((u' + u : Nat) : Int)) else kk (((x + 1 : Nat) : Int), ((u' + u : Nat) : Int), S.1, S.2) := by
    intro b hb
    rw [e39, hS]
    by_cases q : b = true
    · rw [if_pos q, if_pos (hb.1 q)]
    · rw [if_neg q, if_neg (fun h => q (hb.2 h))]
  simp only [F16_l38, Int.toNat_natCast]
  rw [decide_eq_true (show (x : Int) < ((texts.length : Nat) : Int) by omega), inb_true (show (0 : Int) ≤ x by omega) (show (x : Int) < (texts.length : Nat) by omega), sub_tail _ _ hu', ht, hc]
  simp only [cond_true, Option.bind_some]
  by_cases x1 : x = 1
  · rw [show ((x : Int) == 1) = true by rw [beq_iff_eq]; omega, show ((x : Int) == 0) = false by rw [beq_eq_false_iff_ne]; omega]
    simp only [cond_true, cond_false]
    by_cases hd : data = []
    · rw [show (data == ([] : List UInt8)) = true from beq_iff_eq.2 hd]
      exact main false ⟨fun h => by simp at h, fun h => by
        rcases h with ⟨_, h, _⟩ | ⟨h, _⟩
        · exact absurd hd h
        · omega⟩
    · rw [show (data == ([] : List UInt8)) = false from beq_eq_false_iff_ne.2 hd]
      simp only [Bool.not_false, cond_true]
      by_cases hg : t.take k = data
      · rw [show (t.take k == data) = true from beq_iff_eq.2 hg]
        exact main true ⟨fun _ => .inl ⟨x1, hd, hg⟩, fun _ => rfl⟩
      · rw [show (t.take k == data) = false from beq_eq_false_iff_ne.2 hg]
        exact main false ⟨fun h => by simp at h, fun h => by
          rcases h with ⟨_, _, h⟩ | ⟨h, _⟩
          · exact absurd h hg
          · omega⟩
  · rw [show ((x : Int) == 1) = false by rw [beq_eq_false_iff_ne]; omega]
    simp only [cond_false]
    by_cases x0 : x = 0
    · rw [show ((x : Int) == 0) = true by rw [beq_iff_eq]; omega]
      simp only [cond_true]
      by_cases hd : data = []
      · rw [show (data == ([] : List UInt8)) = true from beq_iff_eq.2 hd]
        simp only [cond_true]
        exact main (code == 0) ⟨fun h => .inr ⟨x0, hd, beq_iff_eq.1 h⟩, fun h => by
          rcases h with ⟨h, _⟩ | ⟨_, _, h⟩
          · omega
          · exact beq_iff_eq.2 h⟩
      · rw [show (data == ([] : List UInt8)) = false from beq_eq_false_iff_ne.2 hd]
        exact main false ⟨fun h => by simp at h, fun h => by
          rcases h with ⟨h, _⟩ | ⟨_, h, _⟩
          · omega
          · exact absurd h hd⟩
    · rw [show ((x : Int) == 0) = false by rw [beq_eq_false_iff_ne]; omega]
      exact main false ⟨fun h => by simp at h, fun h => by
        rcases h with ⟨h, _⟩ | ⟨h, _⟩ <;> omega⟩
theorem refEnd (n : Nat) (data : Tx) (v : List DTx × Int × Tx × Tx × Int) (texts : List Tx) (kk : Int × Int × List DTx × Int → Option R7) (ha : F48 n v.2.2.2.1 = some a) (h0 : 0 ≤ a.2.2.1) (h2 : a.2.2.1 ≤ 2) (u : Int) :
    F16_l38 n data fs tg v texts kk (((texts.length : Nat) : Int), u, D', s') = some (finV D' s' tg v.2.2.1 a.2.2.1 u) := by
  simp only [F16_l38]
  rw [decide_eq_false (show ¬ ((texts.length : Nat) : Int) < ((texts.length : Nat) : Int) by omega), ha]
  simp only [cond_false, Option.bind_some, F16_j41]
  obtain ⟨a1, a2, cc, a4⟩ := a
  simp only at h0 h2 ⊢
  have : cc = 0 ∨ cc = 1 ∨ cc = 2 := by omega
  rcases this with rfl | rfl | rfl <;> rfl
end
end Go.Proofs.Ytbodjbpgdkkohaa
