/- The law SlotsDo, in plain Lean (the law). -/
import Derived.Test.YtkhfbleldchnpaaSDo3
namespace Go.Proofs.Ytkhfbleldchnpaa
open Go Go.RowKit
open Classical
set_option linter.unusedVariables false

theorem c22 (n : Nat) (b : Slots) (K S E A : Int) (s : Slot) (code : Int) (slot : Nat) (hs : slot < 9) (h : F65 n b K S E A = some (s.1, s.2.1, s.2.2.1, s.2.2.2, code, (slot : Int))) : F22 n b K S E A = some (if code = 1 ∧ 0 < slot then b.set slot s else b, code, (slot : Int)) := by
  unfold F22
  rw [h]
  simp only [Option.bind_some, Int.toNat_natCast]
  by_cases q : code = 1
  · rw [show (code == 1) = true by simpa using q]
    by_cases q2 : 0 < slot
    · rw [decide_eq_true (show (slot : Int) > 0 by omega), inb_true (show (0 : Int) ≤ slot by omega) (show (slot : Int) < (9 : Nat) by omega), if_pos ⟨q, q2⟩]; rfl
    · rw [decide_eq_false (show ¬ (slot : Int) > 0 by omega), if_neg (fun h => q2 h.2)]; rfl
  · rw [show (code == 1) = false by simpa using q, if_neg (fun h => q h.1)]; rfl
def Same (x y : Option (Slots × Int × Int)) : Prop := ∃ bx b' c m, x = some (bx, c, m) ∧ y = some (b', c, m) ∧ BB bx b' = true
theorem same_b (n : Nat) (b : Slots) (K S E A : Int) (s : Slot) (code : Int) (slot : Nat) (hs : slot < 9) (hc : code = 1 → slot = 0) (x : Option (Slots × Int × Int)) (hx : x = some (b, code, (slot : Int))) (h : F65 n b K S E A = some (s.1, s.2.1, s.2.2.1, s.2.2.2, code, (slot : Int))) : Same x (F22 n b K S E A) := by
  refine ⟨b, _, code, (slot : Int), hx, c22 n b K S E A s code slot hs h, ?_⟩
  rw [if_neg (fun h => by have := hc h.1; omega)]
  exact bb_refl b
theorem same_s (n : Nat) (b : Slots) (hl : b.length = 9) (K S E A : Int) (s t : Slot) (slot : Nat) (hs : slot < 9) (h0 : 0 < slot) (he : eqS t s = true) (x : Option (Slots × Int × Int)) (hx : x = some (b.set slot t, 1, (slot : Int))) (h : F65 n b K S E A = some (s.1, s.2.1, s.2.2.1, s.2.2.2, 1, (slot : Int))) : Same x (F22 n b K S E A) := by
  refine ⟨_, _, 1, (slot : Int), hx, c22 n b K S E A s 1 slot hs h, ?_⟩
  rw [if_pos ⟨rfl, h0⟩]
  exact bb_set b slot t s (by omega) he
def no4 : Slot := (0, 0, List.replicate 32 (0 : Int), List.replicate 32 (0 : Int))
/-- an endpoint's command -/
theorem endD (n : Nat) (hn : 300 < n) (b : Slots) (hl : b.length = 9) (c : Nat) (hc0 : 0 < c) (hc : c < 9) (K E A : Int) (hK : K = 6 ∨ K = 7 ∨ K = 8 ∨ K = 9) (h1 : (sl b c).1 ≠ 0) (l1 : (sl b c).2.2.1.length = 32) (he : ∀ k, k < 32 → 0 ≤ en (sl b c) k ∧ en (sl b c) k ≤ 3)
    (h65 : F65 n b K (c : Int) E A = (F88 n (sl b c).1 (sl b c).2.1 (sl b c).2.2.1 (sl b c).2.2.2 K (c : Int) E A).bind fun y => some (y.1, y.2.1, y.2.2.1, y.2.2.2.1, y.2.2.2.2, (c : Int))) : Same (F21_j50 n b K (c : Int) E A false) (F22 n b K (c : Int) E A) := by
  unfold F21_j50
  simp only [cond_false, Int.toNat_natCast]
  rw [inb_true (show (0 : Int) ≤ c by omega) (show (c : Int) < (9 : Nat) by omega), show (((b.getD c (0, (0, ((List.replicate 32 (0 : Int)), (List.replicate 32 (0 : Int)))))).1) == 0) = false from (show ((sl b c).1 == 0) = false by simpa using h1), show (K == 3) = false by rw [beq_eq_false_iff_ne]; omega, show (K == 4) = false by rw [beq_eq_false_iff_ne]; omega, show (K == 5) = false by rw [beq_eq_false_iff_ne]; omega]
  simp only [cond_false, cond_true, j71]
  unfold F88 at h65
  rw [b16] at h65
  simp only [Option.bind_some] at h65
  by_cases e1 : E < 1
  · rw [decide_eq_false (show ¬ (1 ≤ E ∧ E ≤ 31) by omega)] at h65
    rw [decide_eq_true e1]
    exact same_b n b K c E A (sl b c) 5 c hc (fun h => by omega) _ rfl h65
  by_cases e2 : E > 31
  · rw [decide_eq_false (show ¬ (1 ≤ E ∧ E ≤ 31) by omega)] at h65
    rw [decide_eq_false e1, decide_eq_true e2]
    exact same_b n b K c E A (sl b c) 5 c hc (fun h => by omega) _ rfl h65
  obtain ⟨E, rfl⟩ : ∃ m : Nat, E = (m : Int) := ⟨E.toNat, by omega⟩
  rw [decide_eq_true (show (1 ≤ (E : Int) ∧ (E : Int) ≤ 31) by omega), inb_true (show (0 : Int) ≤ E by omega) (show (E : Int) < (32 : Nat) by omega)] at h65
  rw [decide_eq_false e1, decide_eq_false e2, inb_true (show (0 : Int) ≤ E by omega) (show (E : Int) < (32 : Nat) by omega)]
  have hh := he E (by omega)
  simp only [Bool.not_true, cond_false, cond_true, Int.toNat_natCast, F88_j14, F88_j15, F88_j19, F88_j20, F88_j13, F88_j18] at h65
  simp only [cond_true, Int.toNat_natCast, F21_j89, F21_j90, F21_j91, F21_j92, j71]
  have g0 : (sl b c).2.2.1.getD E 0 = en (sl b c) E := rfl
  have g0' : (b.getD c (0, (0, ((List.replicate 32 (0 : Int)), (List.replicate 32 (0 : Int)))))).2.2.1.getD E 0 = en (sl b c) E := rfl
  have idE : ∀ v, en (sl b c) E = v → ∀ k, k < 32 → en (sl b c) k = ((sl b c).2.2.1.set E v).getD k 0 := fun v hv k hk => by
    rw [gset _ E k v (by omega)]
    by_cases q : E = k
    · subst q; rw [if_pos rfl, hv]
    · rw [if_neg q]; rfl
  rw [g0] at h65
  rw [g0']
  by_cases v0 : en (sl b c) E = 0
  · rw [v0] at h65 ⊢
    exact same_b n b K c E A (sl b c) 12 c hc (fun h => by omega) _ rfl h65
  rw [show (en (sl b c) E == 0) = false by simpa using v0] at h65 ⊢
  simp only [cond_false] at h65 ⊢
  have hv : en (sl b c) E = 1 ∨ en (sl b c) E = 2 ∨ en (sl b c) E = 3 := by omega
  rw [b16] at h65
  have bad : ∀ x, x = some (b, 19, (c : Int)) → F65 n b K (c : Int) E A = some ((sl b c).1, (sl b c).2.1, (sl b c).2.2.1, (sl b c).2.2.2, 19, (c : Int)) → Same x (F22 n b K (c : Int) E A) := fun x hx h => same_b n b K c E A (sl b c) 19 c hc (fun h => by omega) x hx h
  have put : ∀ v x, x = some (b.set c ((sl b c).1, (sl b c).2.1, (sl b c).2.2.1.set E v, (sl b c).2.2.2), 1, (c : Int)) → F65 n b K (c : Int) E A = some ((sl b c).1, (sl b c).2.1, (sl b c).2.2.1.set E v, (sl b c).2.2.2, 1, (c : Int)) → Same x (F22 n b K (c : Int) E A) := fun v x hx h => same_s n b hl K c E A ((sl b c).1, (sl b c).2.1, (sl b c).2.2.1.set E v, (sl b c).2.2.2) _ c hc hc0 (eqS_refl _) x hx h
  rcases hK with rfl | rfl | rfl | rfl
  · rcases hv with hv | hv | hv <;> rw [hv] at h65 ⊢
    · exact bad _ (by rfl) h65
    · exact put 3 _ (by rfl) h65
    · exact bad _ (by rfl) h65
  · rcases hv with hv | hv | hv <;> rw [hv] at h65 ⊢
    · exact put 3 _ (by rfl) h65
    · exact bad _ (by rfl) h65
    · exact bad _ (by rfl) h65
  · have a0 : A < 0 ∨ (¬ A < 0 ∧ A > 65535) ∨ (¬ A < 0 ∧ ¬ A > 65535) := by omega
    rcases a0 with a0 | ⟨a0, a1⟩ | ⟨a0, a1⟩
    · rw [decide_eq_false (show ¬ (0 ≤ A ∧ A ≤ 65535) by omega)] at h65
      rw [decide_eq_true a0]
      rcases hv with hv | hv | hv <;> rw [hv] at h65 ⊢ <;> exact same_b n b 8 c E A (sl b c) 17 c hc (fun h => by omega) _ (by rfl) h65
    · rw [decide_eq_false (show ¬ (0 ≤ A ∧ A ≤ 65535) by omega)] at h65
      rw [decide_eq_false a0, decide_eq_true a1]
      rcases hv with hv | hv | hv <;> rw [hv] at h65 ⊢ <;> exact same_b n b 8 c E A (sl b c) 17 c hc (fun h => by omega) _ (by rfl) h65
    · rw [decide_eq_true (show (0 ≤ A ∧ A ≤ 65535) by omega)] at h65
      rw [decide_eq_false a0, decide_eq_false a1]
      rcases hv with hv | hv | hv <;> rw [hv] at h65 ⊢
      · exact bad _ (by rfl) h65
      · exact bad _ (by rfl) h65
      · refine same_s n b hl 8 c E A ((sl b c).1, (sl b c).2.1, (sl b c).2.2.1.set E 3, (sl b c).2.2.2.set E A) ((sl b c).1, (sl b c).2.1, (sl b c).2.2.1, (sl b c).2.2.2.set E A) c hc hc0 ?_ _ (by rfl) h65
        rw [eqS_iff]
        exact ⟨rfl, rfl, idE 3 hv, fun _ _ => rfl⟩
  · rcases hv with hv | hv | hv <;> rw [hv] at h65 ⊢
    · exact put 1 _ (by rfl) h65
    · exact bad _ (by rfl) h65
    · exact put 1 _ (by rfl) h65
theorem lens (b : Slots) (g0 : Sh.good (.st (.arr 9 (.st (.pair (.int .i64) (.pair (.int .i64) (.pair (.arr 32 (.int .i64)) (.arr 32 (.int .i64)))))))) b) (k : Nat) (hk : k < 9) : (sl b k).2.2.1.length = 32 ∧ (sl b k).2.2.2.length = 32 := by
  have hb : b.length = 9 := g0.1
  have hm : sl b k ∈ b := by
    unfold sl
    rw [List.getD_eq_getElem?_getD, List.getElem?_eq_getElem (by omega : k < b.length)]
    exact List.getElem_mem _
  have := g0.2 _ hm
  exact ⟨this.2.2.1.1, this.2.2.2.1⟩
theorem isZ (v : Int) (c : Int) (h : v ≠ c) : (v == c) = false := by simpa using h
theorem main (n : Nat) (hn : 300 < n) (b : Slots) (g0 : Sh.good (.st (.arr 9 (.st (.pair (.int .i64) (.pair (.int .i64) (.pair (.arr 32 (.int .i64)) (.arr 32 (.int .i64)))))))) b) (K S E A : Int) : Same (F21 n b K S E A) (F22 n b K S E A) := by
  have hl : b.length = 9 := g0.1
  have h65 := c65 n (by omega) b K S E A
  unfold F65_l2 at h65
  simp only [show (decide ((9 : Int) < 9)) = false from rfl, cond_false, b15 n (by omega) b hl, b16, Option.bind_some] at h65
  unfold F21
  rw [b66 n (by omega)]
  simp only [Option.bind_some]
  rcases (Classical.em (boardE b = 0)).symm with hE | hE
  · rw [show (boardE b != 0) = true by simpa using hE] at h65 ⊢
    exact same_b n b K S E A no4 0 0 (by omega) (fun h => by omega) _ rfl h65
  have hG : boardG b := by
    by_cases q : boardG b
    · exact q
    · unfold boardE at hE; rw [if_neg q] at hE; omega
  obtain ⟨z0, hS⟩ := hG
  obtain ⟨z1, z2, z3, z4⟩ := (eqS_zero _).1 z0
  rw [show (boardE b != 0) = false by simpa using hE] at h65 ⊢
  simp only [cond_false] at h65 ⊢
  by_cases k1 : K = 1
  · rw [show (K == 1) = true by simpa using k1] at h65 ⊢
    exact same_b n b K S E A no4 1 0 (by omega) (fun _ => rfl) _ rfl h65
  rw [isZ K 1 k1] at h65 ⊢
  simp only [cond_false] at h65 ⊢
  by_cases k2 : K = 2
  · rw [show (K == 2) = true by simpa using k2] at h65 ⊢
    obtain ⟨i, i1, i9, i0, iall⟩ := firstOff b
    have hlf : F86 n (onK b 9) = some (i : Int) := least n (onK b 9) i (by have := onK_len b 9; omega) (by have := onK_len b 9; omega) i1 (by omega) (by omega) (by
      rw [onK_mem]
      intro h
      exact h.2 (i0 h.1)) (fun a a1 a2 => by
      rw [onK_mem]
      exact ⟨by omega, iall a a1 a2⟩)
    rw [hlf] at h65
    simp only [cond_true, Option.bind_some] at h65 ⊢
    rw [enableD n (by omega) b i i1 i9 i0 iall]
    by_cases q : i < 9
    · rw [if_pos q]
      rw [decide_eq_true (show (i : Int) ≤ 8 by omega)] at h65
      refine same_s n b hl K S E A (1, 0, List.replicate 32 (0 : Int), List.replicate 32 (0 : Int)) (1, (sl b i).2) i q (by omega) ?_ _ rfl h65
      rw [eqS_iff]
      rcases (hS i i1 q).1 with ⟨_, r1, r2, r3⟩ | ⟨r, _⟩
      · refine ⟨rfl, r1, fun k hk => ?_, fun k hk => ?_⟩
        · show en (sl b i) k = _
          rw [r2 k hk]; exact (rep0 k).symm
        · show mk' (sl b i) k = _
          rw [r3 k hk]; exact (rep0 k).symm
      · have := i0 q; omega
    · rw [if_neg q]
      rw [decide_eq_false (show ¬ (i : Int) ≤ 8 by omega)] at h65
      exact same_b n b K S E A no4 9 0 (by omega) (fun h => by omega) _ rfl h65
  rw [isZ K 2 k2] at h65 ⊢
  simp only [cond_false] at h65 ⊢
  have jt : F21_j50 n b K S E A true = some (b, 5, 0) := rfl
  rcases (Classical.em (3 ≤ K ∧ K ≤ 9)).symm with kk | kk
  · rw [decide_eq_false kk] at h65
    have : F65 n b K S E A = some (no4.1, no4.2.1, no4.2.2.1, no4.2.2.2, 5, ((0 : Nat) : Int)) := h65
    refine same_b n b K S E A no4 5 0 (by omega) (fun h => by omega) _ ?_ this
    by_cases q : K < 1
    · rw [decide_eq_true q]; exact jt
    · rw [decide_eq_false q, decide_eq_true (show K > 9 by omega)]; exact jt
  rw [decide_eq_true kk] at h65
  rw [decide_eq_false (show ¬ K < 1 by omega), decide_eq_false (show ¬ K > 9 by omega)]
  simp only [Bool.not_true, cond_false] at h65 ⊢
  rcases (Classical.em (1 ≤ S ∧ S ≤ 8)).symm with ks | ks
  · rw [decide_eq_false ks] at h65
    have : F65 n b K S E A = some (no4.1, no4.2.1, no4.2.2.1, no4.2.2.2, 5, ((0 : Nat) : Int)) := h65
    refine same_b n b K S E A no4 5 0 (by omega) (fun h => by omega) _ ?_ this
    by_cases q : S < 1
    · rw [decide_eq_true q]; exact jt
    · rw [decide_eq_false q, decide_eq_true (show S > 8 by omega)]; exact jt
  rw [decide_eq_true ks] at h65
  rw [decide_eq_false (show ¬ S < 1 by omega), decide_eq_false (show ¬ S > 8 by omega)]
  obtain ⟨c, rfl⟩ : ∃ c : Nat, S = (c : Int) := ⟨S.toNat, by omega⟩
  have hc : c < 9 := by omega
  have hc0 : 0 < c := by omega
  rw [inb_true (show (0 : Int) ≤ c by omega) (show (c : Int) < (9 : Nat) by omega)] at h65
  simp only [Bool.not_true, cond_false, cond_true, Int.toNat_natCast] at h65 ⊢
  obtain ⟨l1, l2⟩ := lens b g0 c hc
  have e0 : (b.getD c (0, (0, ((List.replicate 32 (0 : Int)), (List.replicate 32 (0 : Int)))))) = sl b c := rfl
  rw [e0] at h65
  by_cases s0 : (sl b c).1 = 0
  · rw [show ((sl b c).1 == 0) = true by simpa using s0] at h65
    refine same_b n b K c E A (sl b c) 11 c hc (fun h => by omega) _ ?_ h65
    unfold F21_j50
    rw [inb_true (show (0 : Int) ≤ c by omega) (show (c : Int) < (9 : Nat) by omega)]
    simp only [cond_true, cond_false, Int.toNat_natCast]
    rw [e0, show ((sl b c).1 == 0) = true by simpa using s0, j71]; rfl
  have p50 : F21_j50 n b K (c : Int) E A false = (bif K == 3 then pick b 1 c (b.set c zeroS) else bif K == 4 then (bif (sl b c).1 != 1 then pick b 19 c b else loopF (F21_l79 n b (c : Int)) n (1, true)) else bif K == 5 then (bif decide (A < 0) then F21_j83 n b c A true else bif decide (A ≥ 4294967296) then F21_j83 n b c A true else F21_j83 n b c A (bitsI .and .i64 A 3 != 0)) else F21_j50 n b K (c : Int) E A false) := by
    rcases (Classical.em (K = 3 ∨ K = 4 ∨ K = 5)).symm with a3 | a3
    · rw [isZ K 3 (by omega), isZ K 4 (by omega), isZ K 5 (by omega)]; rfl
    conv => lhs; unfold F21_j50
    rw [inb_true (show (0 : Int) ≤ c by omega) (show (c : Int) < (9 : Nat) by omega)]
    simp only [cond_true, cond_false, Int.toNat_natCast]
    rw [e0, isZ _ 0 s0]
    rcases a3 with rfl | rfl | rfl
    · exact j71 n b c 1 _
    · simp only [j71]; rfl
    · rfl
  rw [isZ _ 0 s0] at h65
  simp only [cond_false] at h65
  have hsl := (hS c (by omega) hc).1
  by_cases k3 : K = 3
  · rw [show (K == 3) = true by simpa using k3] at h65 p50
    rw [p50]
    exact same_s n b hl K c E A zeroS zeroS c hc hc0 (eqS_refl _) _ rfl h65
  rw [isZ K 3 k3] at h65 p50
  by_cases k4 : K = 4
  · rw [show (K == 4) = true by simpa using k4] at h65 p50
    rw [p50]
    simp only [cond_true, cond_false] at h65 ⊢
    by_cases s1 : (sl b c).1 = 1
    · rw [show ((sl b c).1 != 1) = false by simpa using s1] at h65 ⊢
      have hall : ∀ k, k < 9 → ((sl b k).2.1 ≤ 127 ∧ ((sl b k).1 = 0 → (sl b k).2.1 = 0)) := fun k hk => by
        by_cases q : k = 0
        · subst q; omega
        · rcases (hS k (by omega) hk).1 with ⟨_, r1, _⟩ | ⟨r, r2, _⟩ <;> omega
      obtain ⟨L, L1, Lm, Lno, Lall⟩ := freeAddr b (fun k hk => (hall k hk).1)
      have hlf : F86 n (adK b 9) = some (L : Int) := least n (adK b 9) L (by have := adK_len b 9; omega) (by have := adK_len b 9; omega) L1 (by omega) (by omega) (by
        rw [adK_mem]
        rintro ⟨k, a1, _, a2⟩
        exact Lno k a1 a2) (fun a a1 a2 => by
        rw [adK_mem]
        obtain ⟨k, b1, b2⟩ := Lall a a1 a2
        exact ⟨k, b1, fun h => by have := (hall k b1).2 h; omega, b2⟩)
      rw [hlf] at h65
      simp only [cond_false]
      rw [addressD n hn b hl c hc L L1 Lm Lno Lall]
      exact same_s n b hl K c E A (2, (L : Int), (sl b c).2.2.1.set 1 1, (sl b c).2.2.2) _ c hc hc0 (eqS_refl _) _ rfl h65
    · rw [show ((sl b c).1 != 1) = true by simpa using s1] at h65 ⊢
      exact same_b n b K c E A (sl b c) 19 c hc (fun h => by omega) _ rfl h65
  rw [isZ K 4 k4] at h65 p50
  have hen : ∀ k, k < 32 → 0 ≤ en (sl b c) k ∧ en (sl b c) k ≤ 3 := fun k hk => by
    rcases hsl with ⟨_, _, r2, _⟩ | ⟨_, _, _, _, r2, _⟩
    · have := r2 k hk; omega
    · exact (r2 k hk).1
  rcases (Classical.em (K = 5)).symm with k5 | k5
  · rw [isZ K 5 k5] at h65
    exact endD n hn b hl c hc0 hc K E A (by omega) s0 l1 hen h65
  rw [show (K == 5) = true by simpa using k5] at h65 p50
  rw [p50]
  clear p50
  simp only [cond_true, cond_false] at h65 ⊢
  unfold F87 at h65
  rw [show (32 : Int) = ((32 : Nat) : Int) from rfl, two n (by omega) 32 (by omega), Option.bind_some, b16] at h65
  have e32 : IntKind.wrap .i64 (((2 ^ 32 : Nat) : Int) - 1) = 4294967295 := by decide
  rw [e32] at h65
  have bad : ∀ code : Int, code ≠ 1 → F65 n b K c E A = some ((sl b c).1, (sl b c).2.1, (sl b c).2.2.1, (sl b c).2.2.2, code, (c : Int)) → Same (some (b, code, (c : Int))) (F22 n b K c E A) := fun code hc1 h => same_b n b K c E A (sl b c) code c hc (fun h => absurd h hc1) _ rfl h
  have jt : F21_j83 n b (c : Int) A true = some (b, 17, (c : Int)) := j71 n b c 17 b
  by_cases a0 : A < 0
  · rw [decide_eq_true a0, jt]
    rw [decide_eq_false (show ¬ (0 ≤ A ∧ A ≤ 4294967295) by omega)] at h65
    exact bad 17 (by omega) h65
  by_cases a1 : A ≥ 4294967296
  · rw [decide_eq_false a0, decide_eq_true a1]
    rw [decide_eq_false (show ¬ (0 ≤ A ∧ A ≤ 4294967295) by omega)] at h65
    exact bad 17 (by omega) h65
  rw [decide_eq_false a0, decide_eq_false a1]
  rw [decide_eq_true (show 0 ≤ A ∧ A ≤ 4294967295 by omega)] at h65
  have em : bitsI .and .i64 A 3 = A % 4 := by
    obtain ⟨x, rfl⟩ : ∃ x : Nat, A = (x : Int) := ⟨A.toNat, by omega⟩
    have := bMask x 2 (by omega) (by omega)
    have e3 : ((2 ^ 2 - 1 : Nat) : Int) = 3 := rfl
    rw [e3] at this
    rw [this]; simp
  rw [em]
  rw [Option.bind_some, Int.tmod_eq_emod_of_nonneg (by omega)] at h65
  simp only [Bool.not_true, cond_false] at h65 ⊢
  rcases (Classical.em (A % 4 = 0)).symm with a4 | a4
  · rw [show (A % 4 != 0) = true by simpa using a4] at h65 ⊢
    exact bad 17 (by omega) h65
  rw [show (A % 4 != 0) = false by simpa using a4] at h65 ⊢
  unfold F21_j83
  simp only [cond_false, Int.toNat_natCast] at h65 ⊢
  rw [e0]
  by_cases s1 : (sl b c).1 = 1
  · rw [show ((sl b c).1 == 1) = true by simpa using s1] at h65 ⊢
    rw [cond_true, j71]
    exact bad 19 (by omega) h65
  rw [isZ _ 1 s1] at h65 ⊢
  simp only [cond_false] at h65 ⊢
  obtain ⟨r, hr, E1, M1, rfl, fE, fM⟩ := confP n hn b hl c hc l1 l2 A (by omega) (by omega)
  obtain ⟨r2, hr2, st, E2, M2, rfl, hst, gE, gM⟩ := confR n hn (sl b c) A (by omega) (by omega) (fun k hk => (hen k hk).1)
  have hr2' : loopF (F87_l2 n (sl b c).2.1 (sl b c).2.2.1 (sl b c).2.2.2 A) n (2, 2, (List.replicate 32 (0 : Int)).set 1 ((sl b c).2.2.1.getD 1 0), (List.replicate 32 (0 : Int)).set 1 ((sl b c).2.2.2.getD 1 0)) = some (st, (sl b c).2.1, E2, M2, 1) := hr2
  rw [hr2'] at h65
  rw [hr]
  refine same_s n b hl K c E A (st, (sl b c).2.1, E2, M2) _ c hc hc0 ?_ _ rfl h65
  rcases hsl with ⟨h, _⟩ | ⟨_, _, r0, r1, r2, _⟩
  · omega
  rw [eqS_iff]
  refine ⟨?_, rfl, fun k hk => ?_, fun k hk => ?_⟩
  · show (if A = 0 then (2 : Int) else 3) = st
    rw [hst]
    by_cases q : A = 0
    · rw [if_pos q, if_neg]
      rintro ⟨k, _, _, h⟩
      unfold bitD at h
      rw [q] at h
      simp at h
    · rw [if_neg q, if_pos]
      by_cases h : ∃ k, 2 ≤ k ∧ k < 32 ∧ bitD A k = true
      · exact h
      · refine absurd (noBits A (by omega) (by omega) a4 fun k h1 h2 => ?_) q
        cases hb : bitD A k
        · rfl
        · exact absurd ⟨k, h1, h2, hb⟩ h
  · show E1.getD k 0 = E2.getD k 0
    rw [fE k hk, gE k hk]
    by_cases q : k < 2
    · rw [if_pos q, if_pos q]
      by_cases q1 : k = 1
      · subst q1; rw [if_pos rfl]
      · obtain rfl : k = 0 := by omega
        rw [if_neg q1, r0]
    · rw [if_neg q, if_neg q]
  · show M1.getD k 0 = M2.getD k 0
    rw [fM k hk, gM k hk]
    by_cases q : k < 2
    · rw [if_pos q, if_pos q]
      by_cases q1 : k = 1
      · subst q1; rw [if_pos rfl]
      · obtain rfl : k = 0 := by omega
        rw [if_neg q1, (r2 0 hk).2.2 r0]
    · rw [if_neg q, if_neg q]
theorem doAll (b : Slots) (g0 : Sh.good (.st (.arr 9 (.st (.pair (.int .i64) (.pair (.int .i64) (.pair (.arr 32 (.int .i64)) (.arr 32 (.int .i64)))))))) b) (K S E A : Int) : F5 400 b K S E A = some true := by
  obtain ⟨x, y, c, m, h1, h2, h3⟩ := main 400 (by omega) b g0 K S E A
  unfold F5
  rw [h1, h2, b66 400 (by omega), b15 400 (by omega) b g0.1]
  simp only [Option.bind_some, BEq.rfl, cond_true]
  rw [show Sh.beq (.st (.arr 9 (.st (.pair (.int .i64) (.pair (.int .i64) (.pair (.arr 32 (.int .i64)) (.arr 32 (.int .i64)))))))) x y = true from h3]; rfl
theorem slotsDo_says (a0 : Sh.T ((.st (.arr 9 (.st (.pair (.int .i64) (.pair (.int .i64) (.pair (.arr 32 (.int .i64)) (.arr 32 (.int .i64)))))))))) (g0 : Sh.good ((.st (.arr 9 (.st (.pair (.int .i64) (.pair (.int .i64) (.pair (.arr 32 (.int .i64)) (.arr 32 (.int .i64))))))))) a0) (a1 : Sh.T ((.st (.pair (.int .i64) (.pair (.int .i64) (.pair (.int .i64) (.int .i64))))))) (g1 : Sh.good ((.st (.pair (.int .i64) (.pair (.int .i64) (.pair (.int .i64) (.int .i64)))))) a1) :
    ∃ n, F5 n a0 a1.1 a1.2.1 a1.2.2.1 a1.2.2.2 = some true := ⟨400, doAll a0 g0 a1.1 a1.2.1 a1.2.2.1 a1.2.2.2⟩
end Go.Proofs.Ytkhfbleldchnpaa
