/- The law HubSays, in plain Lean (first part: what is asked of a port). -/
import Derived.Test.YtmcjcioifgaihaaSAsk
import Derived.Test.YtmcjcioifgaihaaSHubK
namespace Go.Proofs.Ytmcjcioifgaihaa
open Go Go.RowKit
set_option linter.unusedVariables false

theorem read_idx (n : Nat) (hn : 4 ≤ n) (s : List UInt8) (hl : s.length = 8) : ∀ (m k f' : Nat), 1 ≤ k → k + m = 15 → m < f' → ∃ q, loopF (F93_l2 n s) f' ((2 * (k - 1) : Nat) : Int) = some q ∧ 0 ≤ q.2.2.1
  | m, k, 0, _, _, h => by omega
  | 0, k, f' + 1, hk1, hk, hf' => by
    refine ⟨noAsk, ?_, by decide⟩
    show F93_l2 n s (loopF (F93_l2 n s) f') ((2 * (k - 1) : Nat) : Int) = _
    unfold F93_l2
    simp only
    rw [decide_eq_false (show ¬ (((2 * (k - 1) : Nat) : Int)) < 28 by omega)]
    rfl
  | m + 1, k, f' + 1, hk1, hk, hf' => by
    obtain ⟨r, h1, h2, h3⟩ := ask_k n hn k (wd s 2) (wd s 4) (wd s 6) (by omega)
    show ∃ q, F93_l2 n s (loopF (F93_l2 n s) f') ((2 * (k - 1) : Nat) : Int) = some q ∧ 0 ≤ q.2.2.1
    rw [r56 n hn s hl k hk1 (by omega) _ r h2]
    by_cases hP : s.take 2 = headK k
    · rw [if_pos hP]
      rcases h3 with rfl | rfl
      · rw [if_pos (by simp)]; exact ⟨_, rfl, by decide⟩
      · rw [if_neg (by simp)]; exact ⟨_, rfl, by show (0 : Int) ≤ (wd s 4 : Int); omega⟩
    · rw [if_neg hP]
      exact read_idx n hn s hl m (k + 1) f' (by omega) (by omega) (by omega)
theorem readBoth (n : Nat) (hn : 20 ≤ n) (s : List UInt8) : ∃ r, F89 n s = some r ∧ F93 n s = some r ∧ 0 ≤ r.2.2.1 := by
  unfold F89 F93
  by_cases h1 : s.length = 8
  · rw [decide_eq_false (show ¬ ((s.length : Nat) : Int) < 8 by omega), decide_eq_false (show ¬ ((s.length : Nat) : Int) > 8 by omega), show (((s.length : Nat) : Int) != 8) = false by simp [h1]]
    obtain ⟨r, e1, e2⟩ := read_same n (by omega) s h1 14 1 n n (by omega) (by omega) (by omega) (by omega)
    obtain ⟨q, e3, e4⟩ := read_idx n (by omega) s h1 14 1 n (by omega) (by omega) (by omega)
    obtain rfl : r = q := by rw [e2] at e3; exact Option.some.inj e3
    exact ⟨r, e1, e2, e4⟩
  · rw [show (((s.length : Nat) : Int) != 8) = true by simp; omega]
    by_cases h2 : s.length < 8
    · rw [decide_eq_true (show ((s.length : Nat) : Int) < 8 by omega)]
      exact ⟨_, rfl, rfl, by decide⟩
    · rw [decide_eq_false (show ¬ ((s.length : Nat) : Int) < 8 by omega), decide_eq_true (show ((s.length : Nat) : Int) > 8 by omega)]
      exact ⟨_, rfl, rfl, by decide⟩
theorem hubK (n : Nat) (hn : 17 ≤ n) (cnt : Int) (R : List Pt) : ∃ r, F92 n cnt R = some r ∧ (r = 0 → PortsIn R ∧ (1 ≤ cnt ∧ cnt ≤ 15) ∧ ∀ i : Nat, i < 16 → ¬ (1 ≤ i ∧ (i : Int) ≤ cnt) → R.getD i pz = pz) := by
  unfold F92
  rw [hf66]
  simp only [Option.bind_some]
  cases hcnt : (decide (1 ≤ cnt) && decide (cnt ≤ 15))
  · exact ⟨1, rfl, by omega⟩
  simp only [Bool.and_eq_true, decide_eq_true_eq] at hcnt
  obtain ⟨r, h1, h2⟩ := loopF_post (F92_l2 n cnt R) (fun x => ∃ k : Nat, x = (k : Int) ∧ k ≤ 16) (fun x r => r = 0 → ∀ i : Nat, x ≤ i → i < 16 → (okS (R.getD i pz).1 = true ∧ okC (R.getD i pz).2 = true) ∧ (¬ (1 ≤ i ∧ (i : Int) ≤ cnt) → R.getD i pz = pz)) (fun x => (16 - x).toNat) (by
    rintro kk x ⟨k, rfl, hk⟩ ih
    simp only [F92_l2, hf66, f83_eq, f84_eq, Option.bind_some, Int.toNat_natCast]
    by_cases hx : k < 16
    · obtain ⟨r, hr1, hr2⟩ := ih ((k : Int) + 1) ⟨k + 1, by omega, by omega⟩ (by omega)
      rw [decide_eq_true (show (k : Int) < 16 by omega), inb_true (show (0 : Int) ≤ k by omega) (show (k : Int) < (16 : Nat) by omega), w64 (n := (k : Int) + 1) (by omega) (by omega), hr1]
      simp only [cond_true]
      have e0 : R.getD k ((0 : Int), (0 : Int)) = R.getD k pz := rfl
      rw [e0]
      generalize hq : R.getD k pz = q at *
      obtain ⟨s, c⟩ := q
      simp only
      have bad : ∃ r : Int, (some (4 : Int) = some r) ∧ (r = 0 → ∀ i : Nat, (k : Int) ≤ i → i < 16 → (okS (R.getD i pz).1 = true ∧ okC (R.getD i pz).2 = true) ∧ (¬ (1 ≤ i ∧ (i : Int) ≤ cnt) → R.getD i pz = pz)) := ⟨4, rfl, fun h => by omega⟩
      cases hs : okS s
      · exact bad
      cases hc : okC c
      · exact bad
      have a1 := okS_cases hs
      have a2 := okC_cases hc
      simp only [Bool.not_true, cond_false]
      by_cases hin : 1 ≤ (k : Int) ∧ (k : Int) ≤ cnt
      · rw [decide_eq_true hin.1, decide_eq_true hin.2]
        refine ⟨r, rfl, fun h i i1 i2 => ?_⟩
        by_cases e : i = k
        · subst e; rw [hq]; exact ⟨⟨hs, hc⟩, fun hh => absurd ⟨by omega, hin.2⟩ hh⟩
        · exact hr2 h i (by omega) i2
      · have e1 : (!(decide (1 ≤ (k : Int)) && decide ((k : Int) ≤ cnt))) = true := by
          rw [Bool.not_eq_true', Bool.and_eq_false_iff, decide_eq_false_iff_not, decide_eq_false_iff_not]; omega
        rw [e1, w64 (by omega) (by omega)]
        simp only [cond_true]
        by_cases hz : s + c = 0
        · rw [show (s + c != 0) = false by simpa using hz]
          refine ⟨r, rfl, fun h i i1 i2 => ?_⟩
          by_cases e : i = k
          · subst e; rw [hq]
            refine ⟨⟨hs, hc⟩, fun _ => ?_⟩
            have : s = 0 ∧ c = 0 := by omega
            rw [this.1, this.2]
          · exact hr2 h i (by omega) i2
        · rw [show (s + c != 0) = true by simpa using hz]; exact bad
    · rw [decide_eq_false (show ¬ (k : Int) < 16 by omega)]
      exact ⟨0, rfl, fun _ i h1 h2 => by omega⟩) n 0 ⟨0, rfl, by omega⟩ (by omega)
  exact ⟨r, h1, fun hr => ⟨fun i hi => (h2 hr i (by omega) hi).1, hcnt, fun i hi h => (h2 hr i (by omega) hi).2 h⟩⟩
theorem sBits : ∀ s : Int, okS s = true → bitsI .or .i64 s 256 = (if 256 > s then 256 else s) ∧ (bitsI .and .i64 s 1 != 0) = decide (s > 256) ∧ (s > 256 → bitsI .or .i64 (bitsI .andNot .i64 s 2) 16 = 273) ∧ bitsI .andNot .i64 s 2 = (if s == 259 then 257 else s) := by
  intro s h
  rcases okS_cases h with rfl | rfl | rfl | rfl | rfl <;> decide +kernel
theorem cBits (n : Nat) : ∀ c : Int, okC c = true → F155 n c 1 = some (bitsI .andNot .i64 c 1) ∧ F155 n c 2 = some (bitsI .andNot .i64 c 2) ∧ F155 n c 16 = some (bitsI .andNot .i64 c 16) := by
  intro c h
  rcases okC_cases h with rfl | rfl | rfl | rfl | rfl | rfl | rfl | rfl <;> exact ⟨rfl, rfl, rfl⟩
theorem control (n : Nat) (hn : 20 ≤ n) (cnt : Int) (R : List Pt) (hR : InR R) (ask : List UInt8) : ∃ r, F33 n cnt R ask = some r ∧ F34 n cnt R ask = some r := by
  obtain ⟨e, h1, h2⟩ := hubK n (by omega) cnt R
  obtain ⟨q, q1, q2, q3⟩ := readBoth n hn ask
  unfold F33 F34
  rw [f45_f46 n cnt R hR, h1, q1, q2]
  simp only [Option.bind_some]
  by_cases he : e = 0
  · subst he
    obtain ⟨hP, hcnt, hz⟩ := h2 rfl
    obtain ⟨k, v, x, l, er⟩ := q
    simp only at q3 ⊢
    rw [hf66]
    simp only [bne_self_eq_false, cond_false, Option.bind_some]
    by_cases her : er = 0
    · rw [show (er != 0) = false by simpa using her]
      simp only [cond_false]
      by_cases hk : 8 ≤ k ∧ k ≤ 10
      · rw [decide_eq_true hk.1, decide_eq_true hk.2]
        have ek : (bif k != 8 then bif k != 9 then F33_j3 n cnt R (k, v, x, l, er) (k != 10) else F33_j3 n cnt R (k, v, x, l, er) false else F33_j3 n cnt R (k, v, x, l, er) false) = F33_j3 n cnt R (k, v, x, l, er) false := by
          have : k = 8 ∨ k = 9 ∨ k = 10 := by omega
          rcases this with rfl | rfl | rfl <;> rfl
        rw [ek]
        unfold F33_j3
        simp only [Bool.and_self, Bool.not_true, cond_false]
        by_cases hx : x > cnt
        · rw [decide_eq_true hx]; exact ⟨_, rfl, rfl⟩
        rw [decide_eq_false hx]
        obtain ⟨i, rfl⟩ : ∃ i : Nat, x = (i : Int) := ⟨x.toNat, by omega⟩
        rw [inb_true (show (0 : Int) ≤ i by omega) (show (i : Int) < (16 : Nat) by omega)]
        have hp := hP i (by omega)
        simp only [Int.toNat_natCast, cond_false, cond_true]
        have e0 : R.getD i ((0 : Int), (0 : Int)) = R.getD i pz := rfl
        rw [e0]
        generalize R.getD i pz = p at *
        obtain ⟨s, c⟩ := p
        simp only at hp ⊢
        obtain ⟨b1, b2, b3, b4⟩ := sBits s hp.1
        obtain ⟨d1, d2, d3⟩ := cBits n c hp.2
        have a1 := okS_cases hp.1
        have a2 := okC_cases hp.2
        have hk3 : k = 8 ∨ k = 9 ∨ k = 10 := by omega
        have j4 : ∀ m, F33_j4 n cnt R (0, m) = some (cnt, m, [], 0) := fun m => rfl
        have j8 : ∀ m, F33_j4 n cnt R (8, m) = some (cnt, R, [], 8) := fun m => rfl
        rcases hk3 with rfl | rfl | rfl
        · rw [s73 n s (by omega) (by omega), s73 n c (by omega) (by omega)]
          simp only [Option.bind_some]
          rw [decide_eq_true (show (tb s).length + (tb c).length ≤ 9223372036854775807 by rw [tb_len, tb_len]; omega)]
          exact ⟨_, rfl, rfl⟩
        · show ∃ r, (bif v == 8 then _ else bif v == 4 then bif bitsI .and .i64 s 1 != 0 then _ else F33_j4 n cnt R (8, R) else F33_j4 n cnt R (8, R)) = some r ∧ (F94 n s c true v).bind _ = some r
          unfold F94
          simp only [cond_true]
          rw [b1, b2]
          by_cases v8 : v = 8
          · rw [show (v == 8) = true by simpa using v8]; exact ⟨_, rfl, rfl⟩
          rw [show (v == 8) = false by simpa using v8]
          by_cases v4 : v = 4
          · rw [show (v == 4) = true by simpa using v4]
            by_cases hs : s > 256
            · rw [decide_eq_true hs, b3 hs]; exact ⟨_, rfl, rfl⟩
            · rw [decide_eq_false hs]; exact ⟨_, rfl, rfl⟩
          · rw [show (v == 4) = false by simpa using v4]; exact ⟨_, rfl, rfl⟩
        · show ∃ r, (bif v == 1 then _ else bif v == 8 then _ else bif v == 16 then _ else bif v == 17 then _ else bif v == 20 then _ else F33_j4 n cnt R (8, R)) = some r ∧ (F94 n s c false v).bind _ = some r
          unfold F94
          simp only [cond_false, Bool.not_false, cond_true]
          rw [b4, d1, d2, d3]
          by_cases v8 : v = 8
          · subst v8; exact ⟨_, rfl, rfl⟩
          by_cases v1 : v = 1
          · subst v1
            cases s == 259 <;> exact ⟨_, rfl, rfl⟩
          by_cases v16 : v = 16
          · subst v16; exact ⟨_, rfl, rfl⟩
          by_cases v17 : v = 17
          · subst v17; exact ⟨_, rfl, rfl⟩
          by_cases v20 : v = 20
          · subst v20; exact ⟨_, rfl, rfl⟩
          rw [show (v == 8) = false by simpa using v8, show (v == 1) = false by simpa using v1, show (v == 16) = false by simpa using v16, show (v == 17) = false by simpa using v17, show (v == 20) = false by simpa using v20]
          exact ⟨_, rfl, rfl⟩
      · have e1 : (!(decide (8 ≤ k) && decide (k ≤ 10))) = true := by
          rw [Bool.not_eq_true', Bool.and_eq_false_iff, decide_eq_false_iff_not, decide_eq_false_iff_not]; omega
        rw [e1, show (k != 8) = true by rw [bne_iff_ne]; omega, show (k != 9) = true by rw [bne_iff_ne]; omega, show (k != 10) = true by rw [bne_iff_ne]; omega]
        exact ⟨_, rfl, rfl⟩
    · rw [show (er != 0) = true by simpa using her]; exact ⟨_, rfl, rfl⟩
  · rw [show (e != 0) = true by simpa using he]; exact ⟨_, rfl, rfl⟩
end Go.Proofs.Ytmcjcioifgaihaa
