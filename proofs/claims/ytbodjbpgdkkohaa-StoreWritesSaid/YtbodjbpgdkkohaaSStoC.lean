/- Disks over a bus: a cycle, on both sides; in plain Lean. -/
import Derived.Test.YtbodjbpgdkkohaaSStoA
import Derived.Test.YtbodjbpgdkkohaaSWrapsR
namespace Go.Proofs.Ytbodjbpgdkkohaa
open Go Go.RowKit
open Classical
set_option linter.unusedVariables false

def okB (D : List DTx) (fs : List Int) (v : R7) : Prop := v.1.length = D.length ∧ v.2.2.2.1.length ≤ 4096 ∧ 0 ≤ v.2.2.2.2.2.2 ∧ v.2.2.2.2.2.2 ≤ ((fs.length : Nat) : Int) ∧ (v.2.2.2.2.1 ≠ 0 → v.2.2.2.1 = [])
def okD (v : R7) : Prop := diskV v.1 v.2.1 = 0 ∧ (0 ≤ v.2.2.1 ∧ v.2.2.1 ≤ 4294967295) ∧ (v.2.2.2.2.1 = 0 ∨ v.2.2.2.2.1 = 8 ∨ v.2.2.2.2.1 = 9 ∨ v.2.2.2.2.1 = 10 ∨ v.2.2.2.2.1 = 14 ∨ v.2.2.2.2.1 = 4)
theorem tag_next {tag : Int} (h : 0 ≤ tag ∧ tag ≤ 4294967295) : 0 ≤ (tag + 1).tmod 4294967296 ∧ (tag + 1).tmod 4294967296 ≤ 4294967295 := by
  rw [Int.tmod_eq_emod_of_nonneg (by omega)]; omega
theorem okE {D D' : List DTx} {fs : List Int} {s tg code : Int} {u : Nat} (h1 : D'.length = D.length) (h3 : u ≤ fs.length) (hk : diskV D' s = 0) (ht : 0 ≤ tg ∧ tg ≤ 4294967295) (hc : code = 0 ∨ code = 8 ∨ code = 9 ∨ code = 10) : okB D fs (D', s, tg, [], code, 0, (u : Int)) ∧ okD (D', s, tg, [], code, 0, (u : Int)) := by
  refine ⟨⟨h1, by simp, by show (0 : Int) ≤ (u : Int); omega, by show (u : Int) ≤ ((fs.length : Nat) : Int); omega, fun _ => rfl⟩, hk, ht, ?_⟩
  rcases hc with h | h | h | h <;> simp [h]
theorem okC_end {D D' : List DTx} {fs : List Int} {s tg code c : Int} {ans : Tx} {u : Nat} (h1 : D'.length = D.length) (h2 : ans.length ≤ 4096) (h3 : u ≤ fs.length) (hk : diskV D' s = 0) (ht : 0 ≤ tg ∧ tg ≤ 4294967295) (hc : code = 0 ∨ code = 8 ∨ code = 9 ∨ code = 10) : okB D fs (endV D' s tg ans code c (u : Int)) ∧ okD (endV D' s tg ans code c (u : Int)) := by
  unfold endV finV
  have h4 : (0 : Int) ≤ (u : Int) := by omega
  have h5 : (u : Int) ≤ ((fs.length : Nat) : Int) := by omega
  split
  · exact okE h1 h3 hk ht hc
  split
  · exact ⟨⟨h1, by simp, h4, h5, fun _ => rfl⟩, hk, ht, by simp⟩
  split
  · exact ⟨⟨h1, by simp, h4, h5, fun _ => rfl⟩, hk, ht, by simp⟩
  · exact ⟨⟨h1, h2, h4, h5, fun h => absurd rfl h⟩, hk, ht, by simp⟩
/-- the last text of a cycle, in the document -/
theorem refSt (n : Nat) (data : Tx) (v : List DTx × Int × Tx × Tx × Int) (texts : List Tx) (fs : List Int) (hf : fs.length ≤ 1000) (tg : Int) (x u' : Nat) (hu' : u' ≤ fs.length) (hx : texts.length = x + 1) (hx1 : 1 ≤ x) (hx3 : x ≤ 2) (hd : x = 1 → data = []) (ht : texts.getD x [] = v.2.2.2.1)
    {a : Int × Int × Int × Int} (ha : F48 n v.2.2.2.1 = some a) (h0 : 0 ≤ a.2.2.1) (h2 : a.2.2.1 ≤ 2) {code done : Int} {k u : Nat} (hc : F47 n v.2.2.2.1 64 (fs.drop u') = some (code, v.2.2.2.1.take k, done, (u : Int), 0)) (hu : u ≤ (fs.drop u').length) (m : Nat) (hm : 2 ≤ m) :
    loopF (F16_l38 n data fs tg v texts) m ((x : Int), (u' : Int), v.1, v.2.1) = some (endV v.1 v.2.1 tg v.2.2.1 code a.2.2.1 ((u' + u : Nat) : Int)) := by
  rw [loopF_step _ m _ (by omega), refStep n data v texts _ x (by omega) (by omega) hu' hf _ ht hc hu (v.1, v.2.1) (by split <;> rfl)]
  unfold endV
  by_cases q : code = 0
  · rw [if_neg (by simpa using q), if_neg (by simpa using q), loopF_step _ (m - 1) _ (by omega), ← hx]
    exact refEnd n data v texts _ ha h0 h2 _
  · rw [if_pos q, if_pos q]
theorem cycJ (n : Nat) (hn : 100000 < n) (D : List DTx) (sn tag wl : Int) (wIn : Bool) (data : Tx) (fs : List Int) (wr : Tx) (hk : diskV D sn = 0) (htag : 0 ≤ tag ∧ tag ≤ 4294967295) (hf : fs.length ≤ 1000) (hok : Ca.fatesOk fs) (hD : D.length ≤ 8796093022208) (hw : wr.length ≤ 4096) (hd : data.length ≤ 4096) (hwl : 0 ≤ wl) (hin : data ≠ [] → wIn = false) :
    ∃ v, F15_j31 n wl wIn data fs (sn, tag, D) (wr, 0) 0 = some v ∧ F16_j31 n D sn wl wIn data fs (wr, 0) ((tag + 1).tmod 4294967296) = some v ∧ (okB D fs v ∧ okD v) := by
  have ht : IntKind.wrap .i64 (tag + 1) = tag + 1 := w64 (by omega) (by omega)
  obtain ⟨v, hs1, hs2, hv1, hv2, hv3, hv4⟩ := serveN n hn D sn wr data hD (by omega)
  have hkv := hv4 hk
  have htn := tag_next htag
  obtain ⟨c1, k1, d1, u1, hc1, hr1, hu1, hz1, hq1⟩ := carry64 n (by omega) wr hw fs hf hok
  obtain ⟨a, ha1, ha2, ha3, ha4⟩ := tellB n (by omega) v.2.2.2.1 (by omega)
  have ld : (fs.drop u1).length = fs.length - u1 := List.length_drop
  have P0 : F15_j31 n wl wIn data fs (sn, tag, D) (wr, 0) 0 = F15_j47 n wl wIn data (sn, tag, D) (wr, 0) (wr.take k1, c1, fs.drop u1, (u1 : Int)) := by
    unfold F15_j31
    simp only [hc1, Option.bind_some, bne_self_eq_false, cond_false, sub_tail _ _ hu1, cond_true, Int.toNat_natCast]
    rw [w64 (by omega) (by omega)]; simp
  rw [P0]
  have R0 : ∀ texts : List Tx, 0 < texts.length → texts.length ≤ 3 → texts.getD 0 [] = wr → ∀ S : List DTx × Int, (S = if data = [] ∧ c1 = 0 then (v.1, v.2.1) else (D, sn)) →
      loopF (F16_l38 n data fs ((tag + 1).tmod 4294967296) v texts) n (0, 0, D, sn) = if c1 ≠ 0 then some (S.1, S.2, (tag + 1).tmod 4294967296, [], c1, 0, (u1 : Int)) else loopF (F16_l38 n data fs ((tag + 1).tmod 4294967296) v texts) (n - 1) (((1 : Nat) : Int), (u1 : Int), S.1, S.2) := by
    intro texts t0 t3 tw S hS
    rw [loopF_step _ n _ (by omega)]
    have := refStep (u' := 0) (tg := (tag + 1).tmod 4294967296) (D' := D) (s' := sn) n data v texts (loopF (F16_l38 n data fs ((tag + 1).tmod 4294967296) v texts) (n - 1)) 0 t0 t3 (Nat.zero_le _) hf wr tw hr1 hu1 S (by
      rw [hS]
      by_cases q : data = [] ∧ c1 = 0
      · rw [if_pos q, if_pos (.inr ⟨rfl, q⟩)]
      · rw [if_neg q, if_neg]
        rintro (⟨h, _⟩ | ⟨_, h⟩)
        · omega
        · exact q h)
    rw [Nat.zero_add, Nat.zero_add] at this
    exact this
  unfold F16_j31
  rw [hs2]
  simp only [Option.bind_some, F16_j32]
  unfold F15_j47
  simp only [tailT ht]
  by_cases q1 : c1 = 0
  case neg =>
    rw [show (c1 != 0) = true from bne_iff_ne.2 q1]
    refine ⟨(D, sn, (tag + 1).tmod 4294967296, [], c1, 0, (u1 : Int)), rfl, ?_, okE rfl hu1 hk htn hq1⟩
    have fin : ∀ texts : List Tx, 0 < texts.length → texts.length ≤ 3 → texts.getD 0 [] = wr → loopF (F16_l38 n data fs ((tag + 1).tmod 4294967296) v texts) n (0, 0, D, sn) = some (D, sn, (tag + 1).tmod 4294967296, [], c1, 0, (u1 : Int)) := by
      intro texts t0 t3 tw
      rw [R0 texts t0 t3 tw (D, sn) (by rw [if_neg (fun h => q1 h.2)]), if_pos q1]
    cases hb : (data == ([] : List UInt8)) with
    | false => exact fin _ (by simp) (by simp) rfl
    | true =>
      simp only [Bool.not_true, cond_false]
      cases wIn with
      | false => exact fin _ (by simp) (by simp) rfl
      | true =>
        simp only [cond_true]
        cases decide (wl > 0)
        · exact fin _ (by simp) (by simp) rfl
        · exact fin _ (by simp) (by simp) rfl
  rw [show (c1 != 0) = false from bne_eq_false_iff_eq.2 q1]
  simp only [cond_false]
  by_cases hd0 : data = []
  case neg =>
    have hw0 := hin hd0
    subst hw0
    rw [show (data == ([] : List UInt8)) = false from beq_eq_false_iff_ne.2 hd0]
    simp only [Bool.not_false, cond_true]
    obtain ⟨c2, k2, d2, u2, hc2, hr2, hu2, hz2, hq2⟩ := carry64 n (by omega) data hd (fs.drop u1) (by omega) (fates_drop hok u1)
    have ld2 : (fs.drop (u1 + u2)).length = fs.length - (u1 + u2) := List.length_drop
    rw [R0 [wr, data, v.2.2.2.1] (by simp) (by simp) rfl (D, sn) (by rw [if_neg (fun h => hd0 h.1)]), if_neg (by simpa using q1), loopF_step _ (n - 1) _ (by omega)]
    have R1 := refStep (u' := u1) (tg := (tag + 1).tmod 4294967296) (D' := D) (s' := sn) n data v [wr, data, v.2.2.2.1] (loopF (F16_l38 n data fs ((tag + 1).tmod 4294967296) v [wr, data, v.2.2.2.1]) (n - 1 - 1)) 1 (by simp) (by simp) hu1 hf data rfl hr2 hu2 (if data.take k2 = data then (v.1, v.2.1) else (D, sn)) (by
      by_cases q : data.take k2 = data
      · rw [if_pos q, if_pos (.inl ⟨rfl, hd0, q⟩)]
      · rw [if_neg q, if_neg]
        rintro (⟨_, _, h⟩ | ⟨h, _⟩)
        · exact q h
        · omega)
    rw [R1, hc2]
    simp only [Option.bind_some, bne_self_eq_false, cond_false, sub_tail _ _ hu2, cond_true, Int.toNat_natCast, List.drop_drop]
    rw [w64 (n := (u1 : Int) + (u2 : Int)) (by omega) (by omega), show (u1 : Int) + (u2 : Int) = ((u1 + u2 : Nat) : Int) by omega]
    unfold F15_j53 F15_j54
    simp only [tailT ht]
    by_cases hg : data.take k2 = data
    · rw [if_pos hg, hg, show (((data.length : Nat) : Int) == ((data.length : Nat) : Int)) = true from beq_iff_eq.2 rfl, hs1]
      simp only [cond_true, Option.bind_some]
      by_cases q2 : c2 = 0
      · rw [if_neg (by simpa using q2), show (c2 != 0) = false from bne_eq_false_iff_eq.2 q2]
        obtain ⟨c3, k3, d3, u3, hc3, hr3, hu3, hz3, hq3⟩ := carry64 n (by omega) v.2.2.2.1 (by omega) (fs.drop (u1 + u2)) (by omega) (fates_drop hok _)
        refine ⟨_, j51V ht n ha1 hc3 hu3 (by omega), ?_, okC_end hv1 (by omega) (by omega) hkv htn hq3⟩
        exact refSt n data v [wr, data, v.2.2.2.1] fs hf _ 2 (u1 + u2) (by omega) rfl (by omega) (by omega) (fun h => by omega) rfl ha2 ha3 ha4 hr3 hu3 (n - 1 - 1) (by omega)
      · rw [if_pos q2, show (c2 != 0) = true from bne_iff_ne.2 q2]
        exact ⟨_, rfl, rfl, okE hv1 (by omega) hkv htn hq2⟩
    · have q2 : c2 ≠ 0 := fun h => hg (hz2 h)
      have hne : (((data.take k2).length : Nat) : Int) ≠ ((data.length : Nat) : Int) := by
        intro h
        apply hg
        apply List.take_of_length_le
        rw [List.length_take] at h
        omega
      rw [if_neg hg, if_pos q2, show ((((data.take k2).length : Nat) : Int) == ((data.length : Nat) : Int)) = false from beq_eq_false_iff_ne.2 hne, show (c2 != 0) = true from bne_iff_ne.2 q2]
      exact ⟨_, rfl, rfl, okE rfl (by omega) hk htn hq2⟩
  subst hd0
  rw [show (([] : Tx) == ([] : List UInt8)) = true from rfl, hs1]
  simp only [Bool.not_true, cond_false, Option.bind_some]
  have S0 : (v.1, v.2.1) = if ([] : Tx) = [] ∧ c1 = 0 then (v.1, v.2.1) else (D, sn) := by rw [if_pos ⟨rfl, q1⟩]
  obtain ⟨c3, k3, d3, u3, hc3, hr3, hu3, hz3, hq3⟩ := carry64 n (by omega) v.2.2.2.1 (by omega) (fs.drop u1) (by omega) (fates_drop hok _)
  have two : loopF (F16_l38 n [] fs ((tag + 1).tmod 4294967296) v [wr, v.2.2.2.1]) n (0, 0, D, sn) = some (endV v.1 v.2.1 ((tag + 1).tmod 4294967296) v.2.2.1 c3 a.2.2.1 ((u1 + u3 : Nat) : Int)) := by
    rw [R0 [wr, v.2.2.2.1] (by simp) (by simp) rfl (v.1, v.2.1) S0, if_neg (by simpa using q1)]
    exact refSt n [] v [wr, v.2.2.2.1] fs hf _ 1 u1 hu1 rfl (by omega) (by omega) (fun _ => rfl) rfl ha2 ha3 ha4 hr3 hu3 (n - 1) (by omega)
  cases wIn with
  | false =>
    simp only [Bool.not_false, cond_true, cond_false]
    exact ⟨_, j51V ht n ha1 hc3 hu3 (by omega), two, okC_end hv1 (by omega) (by omega) hkv htn hq3⟩
  | true =>
    simp only [Bool.not_true, cond_true, cond_false]
    by_cases hl0 : wl = 0
    · rw [show (wl != 0) = false from bne_eq_false_iff_eq.2 hl0, decide_eq_false (show ¬ wl > 0 by omega)]
      exact ⟨_, j57V ht n ha1 hc3 hu3 (by omega), two, okC_end hv1 (by omega) (by omega) hkv htn hq3⟩
    · rw [show (wl != 0) = true from bne_iff_ne.2 hl0, decide_eq_true (show wl > 0 by omega)]
      obtain ⟨c2, k2, d2, u2, hc2, hr2, hu2, hz2, hq2⟩ := carry64 n (by omega) v.2.2.1 (by omega) (fs.drop u1) (by omega) (fates_drop hok u1)
      have ld2 : (fs.drop (u1 + u2)).length = fs.length - (u1 + u2) := List.length_drop
      simp only [cond_true]
      rw [R0 [wr, v.2.2.1, v.2.2.2.1] (by simp) (by simp) rfl (v.1, v.2.1) S0, if_neg (by simpa using q1), loopF_step _ (n - 1) _ (by omega)]
      have R1 := refStep (u' := u1) (tg := (tag + 1).tmod 4294967296) (D' := v.1) (s' := v.2.1) n [] v [wr, v.2.2.1, v.2.2.2.1] (loopF (F16_l38 n [] fs ((tag + 1).tmod 4294967296) v [wr, v.2.2.1, v.2.2.2.1]) (n - 1 - 1)) 1 (by simp) (by simp) hu1 hf v.2.2.1 rfl hr2 hu2 (v.1, v.2.1) (by split <;> rfl)
      rw [R1, hc2]
      simp only [Option.bind_some, bne_self_eq_false, cond_false, sub_tail _ _ hu2, cond_true, Int.toNat_natCast, List.drop_drop]
      rw [w64 (n := (u1 : Int) + (u2 : Int)) (by omega) (by omega), show (u1 : Int) + (u2 : Int) = ((u1 + u2 : Nat) : Int) by omega]
      unfold F15_j59
      simp only [tailT ht]
      by_cases q2 : c2 = 0
      · rw [if_neg (by simpa using q2), show (c2 != 0) = false from bne_eq_false_iff_eq.2 q2]
        obtain ⟨c4, k4, d4, u4, hc4, hr4, hu4, hz4, hq4⟩ := carry64 n (by omega) v.2.2.2.1 (by omega) (fs.drop (u1 + u2)) (by omega) (fates_drop hok _)
        refine ⟨_, j57V ht n ha1 hc4 hu4 (by omega), ?_, okC_end hv1 (by omega) (by omega) hkv htn hq4⟩
        exact refSt n [] v [wr, v.2.2.1, v.2.2.2.1] fs hf _ 2 (u1 + u2) (by omega) rfl (by omega) (by omega) (fun h => by omega) rfl ha2 ha3 ha4 hr4 hu4 (n - 1 - 1) (by omega)
      · rw [if_pos q2, show (c2 != 0) = true from bne_iff_ne.2 q2]
        exact ⟨_, rfl, rfl, okE hv1 (by omega) hkv htn hq2⟩
end Go.Proofs.Ytbodjbpgdkkohaa

namespace Go.Proofs.Ytbodjbpgdkkohaa
open Go Go.RowKit
open Classical
set_option linter.unusedVariables false

theorem copyP (n : Nat) (D : List DTx) (sn tag : Int) (hD : D.length ≤ 8796093022208) : F40 n D sn tag = some (sn, tag, D) := by
  unfold F40 F21
  rw [List.nil_append, decide_eq_true (show ([] : List DTx).length + D.length ≤ 8796093022208 by simpa using hD)]; rfl
theorem errR (n : Nat) (D : List DTx) (sn tag wl : Int) (wIn : Bool) (data : Tx) (fs : List Int) (y : Tx × Int) (e : Int) (he : e ≠ 0) : F16_j27 n D sn tag wl wIn data fs y e = some (D, sn, tag, [], e, 0, 0) := by
  simp only [F16_j27, F16_j28, F16_j29, show (e == 0) = false from beq_eq_false_iff_ne.2 he, show (e != 0) = true from bne_iff_ne.2 he, cond_false, cond_true]
theorem errR2 (n : Nat) (D : List DTx) (sn tag wl : Int) (wIn : Bool) (data : Tx) (fs : List Int) (y : Tx × Int) (e : Int) (he : e ≠ 0) : F16_j30 n D sn tag wl wIn data fs y e = some (D, sn, tag, [], e, 0, 0) := by
  simp only [F16_j30, show (e != 0) = true from bne_iff_ne.2 he, cond_true]
theorem errP (n : Nat) (D : List DTx) (sn tag wl : Int) (wIn : Bool) (data : Tx) (fs : List Int) (y : Tx × Int) (e : Int) (he : e ≠ 0) : F15_j31 n wl wIn data fs (sn, tag, D) y e = some (D, sn, tag, [], e, 0, 0) := by
  simp only [F15_j31, show (e != 0) = true from bne_iff_ne.2 he, cond_true]
theorem okErr (D : List DTx) (sn tag e : Int) (fs : List Int) : okB D fs (D, sn, tag, [], e, 0, 0) := ⟨rfl, by simp, Int.le_refl _, by show (0 : Int) ≤ ((fs.length : Nat) : Int); omega, fun _ => rfl⟩
def argOk (wIn : Bool) (data : Tx) (wl : Int) : Prop := (wIn = true → data = []) ∧ (wIn = false → ((data.length : Nat) : Int) = wl) ∧ data.length ≤ 4096
theorem cycN (n : Nat) (hn : 100000 < n) (D : List DTx) (sn tag wt wl : Int) (wIn : Bool) (wu : Int) (wc data : Tx) (fs : List Int) (hD : D.length ≤ 8796093022208) :
    ∃ v, F15 n D sn tag wt wl wIn wu wc data fs = some v ∧ F16 n D sn tag wt wl wIn wu wc data fs = some v ∧ okB D fs v ∧
      (linkV D sn tag fs = 0 → wgood tag wl wu wc → argOk wIn data wl → okD v) := by
  unfold F15 F16
  rw [copyP n D sn tag hD, linkR n (by omega), wrapR n (by omega)]
  simp only [Option.bind_some]
  rw [linkP n (by omega), wrapP]
  simp only [Option.bind_some]
  by_cases hl : linkV D sn tag fs = 0
  case neg =>
    rw [show (linkV D sn tag fs != 0) = true from bne_iff_ne.2 hl, show (linkV D sn tag fs == 0) = false from beq_eq_false_iff_ne.2 hl]
    simp only [cond_true, cond_false]
    exact ⟨_, rfl, errR n D sn tag wl wIn data fs _ _ hl, okErr D sn tag _ fs, fun h => absurd h hl⟩
  rw [show (linkV D sn tag fs != 0) = false from bne_eq_false_iff_eq.2 hl, show (linkV D sn tag fs == 0) = true from beq_iff_eq.2 hl]
  simp only [cond_true, cond_false]
  obtain ⟨hk, htag, hf, hok⟩ := link0 hl
  by_cases hw : (wrapV tag wl wIn wu wc).2 = 0
  case neg =>
    rw [show ((wrapV tag wl wIn wu wc).2 != 0) = true from bne_iff_ne.2 hw]
    simp only [cond_true]
    refine ⟨_, errP n D sn tag wl wIn data fs _ _ hw, errR n D sn tag wl wIn data fs _ _ hw, okErr D sn tag _ fs, fun _ h => absurd ?_ hw⟩
    unfold wrapV; rw [if_pos h]
  have hg := wrapV_good hw
  obtain ⟨wr, hwr⟩ : ∃ wr, wrapV tag wl wIn wu wc = (wr, 0) := ⟨_, Prod.ext rfl hw⟩
  have hwl : wr.length = 31 := by
    have e1 : (wrapV tag wl wIn wu wc).1 = wr := by rw [hwr]
    unfold wrapV at e1
    rw [if_pos hg] at e1
    rw [← e1]
    exact wtext_len _ _ _ _ _ hg.2.2.2.2
  rw [hwr]
  simp only [bne_self_eq_false, cond_false]
  have big : ∀ e : Int, e ≠ 0 → ¬ argOk wIn data wl → F16_j27 n D sn tag wl wIn data fs (wr, 0) 0 = some (D, sn, tag, [], e, 0, 0) →
      ∃ v, F15_j31 n wl wIn data fs (sn, tag, D) (wr, 0) e = some v ∧ F16_j27 n D sn tag wl wIn data fs (wr, 0) 0 = some v ∧ okB D fs v ∧ (linkV D sn tag fs = 0 → wgood tag wl wu wc → argOk wIn data wl → okD v) := fun e he hno h =>
    ⟨_, errP n D sn tag wl wIn data fs _ e he, h, okErr D sn tag e fs, fun _ _ h1 => absurd h1 hno⟩
  have j28t : F16_j28 n D sn tag wl wIn data fs (wr, 0) 0 true = some (D, sn, tag, [], 1, 0, 0) := rfl
  have j28f : F16_j28 n D sn tag wl wIn data fs (wr, 0) 0 false = if data.length > 4096 then some (D, sn, tag, [], 2, 0, 0) else F16_j31 n D sn wl wIn data fs (wr, 0) ((tag + 1).tmod 4294967296) := by
    simp only [F16_j28, F16_j29, cond_false, BEq.rfl, cond_true]
    by_cases h : data.length > 4096
    · rw [decide_eq_true (show ((data.length : Nat) : Int) > 4096 by omega), if_pos h]
      exact errR2 n D sn tag wl wIn data fs (wr, 0) 2 (by decide)
    · rw [decide_eq_false (show ¬ ((data.length : Nat) : Int) > 4096 by omega), if_neg h]
      have e32 : F46 n 32 = some 4294967296 := two' n (by omega) 32 (by omega)
      simp only [F16_j30, cond_false, bne_self_eq_false, e32, Option.bind_some]
      rw [w64 (n := tag + 1) (by omega) (by omega), Int.tmod_eq_emod_of_nonneg (by omega)]
      by_cases q : tag + 1 = 4294967296
      · rw [q]; rfl
      · rw [show (tag + 1 == 4294967296) = false from beq_eq_false_iff_ne.2 q, show (tag + 1) % 4294967296 = tag + 1 by omega]; rfl
  have good : data.length ≤ 4096 → (data ≠ [] → wIn = false) → F16_j27 n D sn tag wl wIn data fs (wr, 0) 0 = F16_j31 n D sn wl wIn data fs (wr, 0) ((tag + 1).tmod 4294967296) → ∃ v, F15_j31 n wl wIn data fs (sn, tag, D) (wr, 0) 0 = some v ∧ F16_j27 n D sn tag wl wIn data fs (wr, 0) 0 = some v ∧ okB D fs v ∧ (linkV D sn tag fs = 0 → wgood tag wl wu wc → argOk wIn data wl → okD v) := fun h1 h2 h3 => by
    obtain ⟨v, a1, a2, a3, a4⟩ := cycJ n hn D sn tag wl wIn data fs wr hk htag hf hok hD (by omega) h1 hg.2.1.1 h2
    exact ⟨v, a1, by rw [h3, a2], a3, fun _ _ _ => a4⟩
  have r27 : F16_j27 n D sn tag wl wIn data fs (wr, 0) 0 = F16_j28 n D sn tag wl wIn data fs (wr, 0) 0 (if wIn = true then !(data == ([] : List UInt8)) else (((data.length : Nat) : Int) != wl)) := by
    simp only [F16_j27, BEq.rfl, cond_true]
    cases wIn with
    | true =>
      simp only [cond_true, Bool.not_true, cond_false, if_true]
      cases (data == ([] : List UInt8)) <;> rfl
    | false => rfl
  cases wIn with
  | true =>
    simp only [cond_true, Bool.not_true, cond_false]
    by_cases hd : data = []
    · rw [show (data == ([] : List UInt8)) = true from beq_iff_eq.2 hd]
      have hlen : data.length = 0 := by rw [hd]; rfl
      rw [decide_eq_false (show ¬ ((data.length : Nat) : Int) > 4096 by omega)]
      simp only [Bool.not_true, cond_false]
      refine good (by omega) (fun h => absurd hd h) ?_
      rw [r27, if_pos rfl, show (data == ([] : List UInt8)) = true from beq_iff_eq.2 hd, Bool.not_true, j28f, if_neg (by omega)]
    · rw [show (data == ([] : List UInt8)) = false from beq_eq_false_iff_ne.2 hd]
      simp only [Bool.not_false, cond_true]
      refine big 1 (by decide) (fun h => hd (h.1 rfl)) ?_
      rw [r27, if_pos rfl, show (data == ([] : List UInt8)) = false from beq_eq_false_iff_ne.2 hd, Bool.not_false, j28t]
  | false =>
    simp only [cond_true, Bool.not_false, cond_false]
    by_cases hd : ((data.length : Nat) : Int) = wl
    · rw [show (((data.length : Nat) : Int) != wl) = false from bne_eq_false_iff_eq.2 hd]
      simp only [cond_false]
      by_cases h4 : data.length > 4096
      · rw [decide_eq_true (show ((data.length : Nat) : Int) > 4096 by omega)]
        simp only [cond_true]
        refine big 2 (by decide) (fun h => absurd h.2.2 (by omega)) ?_
        rw [r27, if_neg (by simp), show (((data.length : Nat) : Int) != wl) = false from bne_eq_false_iff_eq.2 hd, j28f, if_pos h4]
      · rw [decide_eq_false (show ¬ ((data.length : Nat) : Int) > 4096 by omega)]
        simp only [cond_false]
        refine good (by omega) (fun _ => rfl) ?_
        rw [r27, if_neg (by simp), show (((data.length : Nat) : Int) != wl) = false from bne_eq_false_iff_eq.2 hd, j28f, if_neg h4]
    · rw [show (((data.length : Nat) : Int) != wl) = true from bne_iff_ne.2 hd]
      simp only [cond_true]
      refine big 1 (by decide) (fun h => hd (h.2.1 rfl)) ?_
      rw [r27, if_neg (by simp), show (((data.length : Nat) : Int) != wl) = true from bne_iff_ne.2 hd, j28t]
theorem sameL (n : Nat) (D : List DTx) (sn tag : Int) (hD : D.length ≤ 8796093022208) (hn : D.length + 4 < n) : F17 n D sn tag D sn tag = some true := by
  unfold F17
  simp only [BEq.rfl, cond_true, F10]
  rw [eqBL n D hD hn]; rfl
end Go.Proofs.Ytbodjbpgdkkohaa
