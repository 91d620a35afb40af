/- The law RingPlays, in plain Lean (third part: the law). -/
import Derived.Test.YtkhfbleldchnpaaSPlays2
namespace Go.Proofs.Ytkhfbleldchnpaa
open Go Go.RowKit
open Classical
set_option linter.unusedVariables false

theorem fill_cell {P : Nat} (hP : 0 < P) {all : List Int} {c : Cells} (x : Nat) (hl : c.length = P + 1) (hc : ∀ p, p < P → CellOK P all x p (c.getD p zC)) (p : Nat) (hp : p < P) :
    CellOK P all (x + 1) p ((c.set (x % P) (all.getD x 0, bitK P x, false)).getD p zC) := by
  have hm := Nat.mod_lt x hP
  rw [cset c _ p _ (by omega)]
  by_cases q : x % P = p
  · rw [if_pos q]
    refine ⟨fun _ => ⟨x, by omega, by omega, q, rfl⟩, fun h => ?_⟩
    rw [Nat.mod_eq_of_lt (by omega)] at q
    omega
  · rw [if_neg q]
    refine ⟨fun h => ?_, fun h => (hc p hp).2 (by omega)⟩
    have hpm : p < x := by
      by_cases h2 : p = x
      · subst h2; exact absurd (Nat.mod_eq_of_lt hp) q
      · omega
    obtain ⟨k, a1, a2, a3, a4⟩ := (hc p hp).1 hpm
    refine ⟨k, by omega, ?_, a3, a4⟩
    by_cases h3 : x = k + P
    · rw [h3, Nat.add_mod_right] at q; exact absurd a3 q
    · omega
theorem repC (N k : Nat) : (List.replicate N zC).getD k zC = zC := by
  rw [List.getD_eq_getElem?_getD, List.getElem?_replicate]
  split <;> rfl
theorem docEnd (n : Nat) (hn : 1500 < n) (P : Nat) (hP : 2 ≤ P) (hP2 : P ≤ 63) (all : List Int) (c : Cells) (ha : all.length ≤ 1000) (h : RingSt P all c) (got seen : Nat) (hg : got ≤ all.length) (y z : Int × Int) :
    loopF (F43_l10 n ((P + 1 : Nat) : Int) (got : Int) (seen : Int) all y z) n (0, List.replicate (P + 1) zC) = some (y.1, y.2, z.1, z.2, ((seen % P : Nat) : Int), 0, c, all.take got) := by
  have eW : IntKind.wrap .i64 (((P + 1 : Nat) : Int) - 1) = (P : Int) := by rw [w64 (by omega) (by omega)]; omega
  refine loopF_eq (F43_l10 n ((P + 1 : Nat) : Int) (got : Int) (seen : Int) all y z) (fun _ => some (y.1, y.2, z.1, z.2, ((seen % P : Nat) : Int), 0, c, all.take got)) (fun d => ∃ x : Nat, d.1 = (x : Int) ∧ x ≤ all.length ∧ d.2.length = P + 1 ∧ (∀ p, p < P → CellOK P all x p (d.2.getD p zC)) ∧ d.2.getD P zC = zC) (fun d => all.length - d.1.toNat) ?_ n _ ⟨0, rfl, by omega, by simp, fun p hp => ⟨fun h => by omega, fun _ => repC _ _⟩, repC _ _⟩ (by simp; omega)
  rintro kk ⟨xx, m⟩ ⟨x, rfl, hx, hl, hc, hz⟩ ih
  simp only at hl hc hz
  have hm := Nat.mod_lt x (show 0 < P by omega)
  have e2 : (x : Int).tmod (P : Int) = ((x % P : Nat) : Int) := by rw [Int.tmod_eq_emod_of_nonneg (by omega)]; simp
  simp only [F43_l10, eW, f81 n P x (by omega) hP2 (by omega), Option.bind_some, e2, Int.toNat_natCast, hl]
  by_cases hxa : x < all.length
  · rw [decide_eq_true (show (x : Int) < ((all.length : Nat) : Int) by omega), inb_true (show (0 : Int) ≤ x by omega) (show (x : Int) < (all.length : Nat) by omega), inb_true (show (0 : Int) ≤ (x % P : Nat) by omega) (show ((x % P : Nat) : Int) < (P + 1 : Nat) by omega), w64 (n := (x : Int) + 1) (by omega) (by omega)]
    simp only [cond_true]
    refine ih _ ⟨x + 1, rfl, by omega, by simpa using hl, fun p hp => fill_cell (by omega) x hl hc p hp, ?_⟩ (by simp only [Int.toNat_natCast]; omega)
    show (m.set (x % P) _).getD P zC = zC
    rw [cset m _ P _ (by omega), if_neg (by omega), hz]
  · obtain rfl : x = all.length := by omega
    rw [decide_eq_false (by omega), inb_true (show (0 : Int) ≤ P by omega) (show (P : Int) < (P + 1 : Nat) by omega), show subB all.length none (some (got : Int)) = true by simp [subB]; omega]
    simp only [cond_false, cond_true]
    have eC : F82 n (all.take got) = some (all.take got) := by
      unfold F82
      rw [List.nil_append, decide_eq_true (by simp [List.length_take]; omega)]; rfl
    have h1 : all.length / P ≤ all.length := Nat.div_le_self _ _
    have e3 : (IntKind.wrap .i64 (((all.length : Nat) : Int).tdiv (P : Int))).tmod 2 = ((all.length / P % 2 : Nat) : Int) := by
      rw [Int.tdiv_eq_ediv_of_nonneg (by omega)]
      have e1 : ((all.length : Nat) : Int) / (P : Int) = ((all.length / P : Nat) : Int) := by simp
      rw [e1]
      generalize all.length / P = q at *
      rw [w64 (by omega) (by omega), Int.tmod_eq_emod_of_nonneg (by omega)]
      simp
    have e4 : (seen : Int).tmod (P : Int) = ((seen % P : Nat) : Int) := by rw [Int.tmod_eq_emod_of_nonneg (by omega)]; simp
    rw [eC, e3, e4]
    have : m.set P (0, ((all.length / P % 2 : Nat) : Int), true) = c := by
      refine ringSt_one (P := P) (all := all) ⟨by simpa using hl, fun p hp => ?_, ?_⟩ h
      · rw [cset m P p _ (by omega), if_neg (by omega)]; exact hc p hp
      · rw [cset m P P _ (by omega), if_pos rfl]
    simp only [Option.bind_some, this]
/-- the play, turn by turn -/
theorem lock (n : Nat) (hn : 1500 < n) (P : Nat) (hP : 2 ≤ P) (hP2 : P ≤ 63) (turns : List (Int × Int)) (ht : turns.length ≤ 1000) (c0 : Cells) (h0 : RingSt P [] c0) :
    ∃ r r', loopF (F42_l7 n turns) n (0, 0, 1, 0, 1, 0, c0, []) = some r ∧ loopF (F43_l9 n ((P + 1 : Nat) : Int) turns) n (0, 0, 0, []) = some r' ∧ (r = r' ∧ r.2.2.2.2.2.2.1.length ≤ 1000 ∧ r.2.2.2.2.2.2.2.length ≤ 1000) := by
  refine loopF_rel (F42_l7 n turns) (F43_l9 n ((P + 1 : Nat) : Int) turns)
    (fun d d' => ∃ (k got seen : Nat) (all : List Int) (c : Cells), d = ((k : Int), (markP P all.length).1, (markP P all.length).2, (markP P got).1, (markP P got).2, ((seen % P : Nat) : Int), c, all.take got) ∧ d' = ((got : Int), (seen : Int), (k : Int), all) ∧ k ≤ turns.length ∧ all.length ≤ k ∧ seen ≤ got ∧ got ≤ all.length ∧ all.length ≤ seen + (P - 1) ∧ RingSt P all c)
    (fun r r' => r = r' ∧ r.2.2.2.2.2.2.1.length ≤ 1000 ∧ r.2.2.2.2.2.2.2.length ≤ 1000) (fun d => turns.length - d.1.toNat) ?_ n n _ _
    ⟨0, 0, 0, [], c0, ?_, rfl, by omega, by simp, by omega, by omega, by simp, h0⟩ (by simp; omega) (by simp; omega)
  · rintro kk kk' d d' ⟨k, got, seen, all, c, rfl, rfl, hk, ha, h1, h2, h3, hr⟩ ih
    have eW : IntKind.wrap .i64 (((P + 1 : Nat) : Int) - 1) = (P : Int) := by rw [w64 (by omega) (by omega)]; omega
    simp only [F42_l7, F43_l9, Int.toNat_natCast, eW]
    by_cases hka : k < turns.length
    · rw [decide_eq_true (show (k : Int) < ((turns.length : Nat) : Int) by omega), inb_true (show (0 : Int) ≤ k by omega) (show (k : Int) < (turns.length : Nat) by omega), w64 (n := (k : Int) + 1) (by omega) (by omega)]
      simp -implicitDefEqProofs only [cond_true]
      generalize turns.getD k (0, 0) = t
      obtain ⟨t1, t2⟩ := t
      simp only
      by_cases k1 : t1 = 1
      · rw [show (t1 == 1) = true by simpa using k1, putP n (by omega) hP hP2 hr got seen h1 h2 h3 t2, w64 (n := ((all.length : Nat) : Int) - (seen : Int)) (by omega) (by omega), w64 (n := (P : Int) - 1) (by omega) (by omega)]
        simp -implicitDefEqProofs only [cond_true]
        by_cases q : all.length < seen + (P - 1)
        · rw [if_pos q, decide_eq_true (show ((all.length : Nat) : Int) - (seen : Int) < (P : Int) - 1 by omega), decide_eq_true (show all.length + [t2].length ≤ 17179869184 by simp; omega)]
          simp -implicitDefEqProofs only [Option.bind_some, BEq.rfl, cond_true]
          refine ih _ _ ⟨k + 1, got, seen, all ++ [t2], _, ?_, rfl, by omega, by simp; omega, h1, by simp; omega, by simp; omega, put_ring (by omega) t2 hr⟩ (by simp only [Int.toNat_natCast]; omega)
          rw [List.length_append, List.length_singleton, List.take_append_of_le_length h2]
          rfl
        · rw [if_neg q, decide_eq_false (show ¬ ((all.length : Nat) : Int) - (seen : Int) < (P : Int) - 1 by omega)]
          exact ih _ _ ⟨k + 1, got, seen, all, c, rfl, rfl, by omega, by omega, h1, h2, h3, hr⟩ (by simp only [Int.toNat_natCast]; omega)
      rw [show (t1 == 1) = false by simpa using k1]
      simp -implicitDefEqProofs only [cond_false]
      by_cases k2 : t1 = 2
      · rw [show (t1 == 2) = true by simpa using k2, getP n (by omega) hP hP2 hr got seen h1 h2 h3, w64 (n := (got : Int) + 1) (by omega) (by omega)]
        simp -implicitDefEqProofs only [cond_true]
        by_cases q : got < all.length
        · rw [if_pos q, if_neg (show ¬ ((all.length : Nat) : Int) < (got : Int) + 1 by omega)]
          simp -implicitDefEqProofs only [Option.bind_some, cond_true]
          rw [decide_eq_true (show (all.take got).length + [all.getD got 0].length ≤ 17179869184 by simp [List.length_take]; omega)]
          simp -implicitDefEqProofs only [cond_true, F42_j8]
          rw [w64 (n := (k : Int) + 1) (by omega) (by omega)]
          refine ih _ _ ⟨k + 1, got + 1, seen, all, c, ?_, rfl, by omega, by omega, by omega, by omega, h3, hr⟩ (by simp only [Int.toNat_natCast]; omega)
          have : all.take (got + 1) = all.take got ++ [all.getD got 0] := by
            rw [List.take_add_one, List.getD_eq_getElem?_getD, List.getElem?_eq_getElem q]; rfl
          rw [this]; rfl
        · obtain rfl : got = all.length := by omega
          rw [if_neg q, if_pos (show ((all.length : Nat) : Int) < ((all.length : Nat) : Int) + 1 by omega)]
          simp -implicitDefEqProofs only [Option.bind_some, cond_false, F42_j8]
          rw [w64 (n := (k : Int) + 1) (by omega) (by omega)]
          exact ih _ _ ⟨k + 1, all.length, seen, all, c, rfl, rfl, by omega, by omega, h1, h2, h3, hr⟩ (by simp only [Int.toNat_natCast]; omega)
      rw [show (t1 == 2) = false by simpa using k2]
      simp -implicitDefEqProofs only [cond_false]
      by_cases k3 : t1 = 3
      · rw [show (t1 == 3) = true by simpa using k3, learnP n (by omega) hP hP2 hr got seen]
        simp -implicitDefEqProofs only [cond_true, Option.bind_some]
        exact ih _ _ ⟨k + 1, got, got, all, c, rfl, rfl, by omega, by omega, by omega, h2, by omega, hr⟩ (by simp only [Int.toNat_natCast]; omega)
      rw [show (t1 == 3) = false by simpa using k3]
      exact ⟨_, _, rfl, rfl, rfl, by simp, by simp⟩
    · rw [decide_eq_false (show ¬ (k : Int) < ((turns.length : Nat) : Int) by omega), decide_eq_true (show 0 ≤ ((P + 1 : Nat) : Int) ∧ ((P + 1 : Nat) : Int) ≤ 17179869184 by omega), f81 n P all.length (by omega) hP2 (by omega), f81 n P got (by omega) hP2 (by omega), show ((P : Int) != 0) = true by rw [bne_iff_ne]; omega]
      simp -implicitDefEqProofs only [cond_true, cond_false, Option.bind_some]
      refine ⟨_, _, rfl, docEnd n hn P hP hP2 all c (by omega) hr got seen h2 _ _, rfl, ?_, ?_⟩
      · have := hr.1
        show c.length ≤ 1000
        omega
      · show (all.take got).length ≤ 1000
        rw [List.length_take]; omega
  · show _ = (((0 : Nat) : Int), ((0 % P : Nat) : Int), bitK P 0, ((0 % P : Nat) : Int), bitK P 0, ((0 % P : Nat) : Int), c0, ([] : List Int))
    have : bitK P 0 = 1 := by unfold bitK; rw [Nat.zero_div]; rfl
    rw [this, Nat.zero_mod]; rfl
theorem g45 (n : Nat) (a : List Int) (ha : a.length ≤ 1000) (hn : 1001 < n) : F45 n a a = some true := by
  unfold F45
  simp only [bne_self_eq_false, cond_false]
  refine loopF_eq (F45_l2 n a a) (fun _ => some true) (fun x => ∃ k : Nat, x = (k : Int) ∧ k ≤ a.length) (fun x => a.length - x.toNat) ?_ n 0 ⟨0, rfl, by omega⟩ (by simp; omega)
  rintro kk x ⟨k, rfl, hk⟩ ih
  simp only [F45_l2, Int.toNat_natCast, bne_self_eq_false, cond_false]
  by_cases hka : k < a.length
  · rw [decide_eq_true (show (k : Int) < (a.length : Int) by omega), inb_true (show (0 : Int) ≤ k by omega) (show (k : Int) < a.length by omega), w64 (n := (k : Int) + 1) (by omega) (by omega)]
    simp only [cond_true]
    exact ih ((k : Int) + 1) ⟨k + 1, by omega, by omega⟩ (by simp only [Int.toNat_natCast]; omega)
  · rw [decide_eq_false (show ¬ (k : Int) < (a.length : Int) by omega)]; rfl
/-- a new ring -/
theorem newP (n P : Nat) (hP : 2 ≤ P) (hP2 : P ≤ 63) : ∃ c, F44 n ((P + 1 : Nat) : Int) = some (0, 1, 0, 1, 0, 0, c) ∧ RingSt P [] c := by
  unfold F44
  have eW : IntKind.wrap .i64 (((P + 1 : Nat) : Int) - 1) = (P : Int) := by rw [w64 (by omega) (by omega)]; omega
  rw [decide_eq_false (show ¬ ((P + 1 : Nat) : Int) < 3 by omega), decide_eq_false (show ¬ ((P + 1 : Nat) : Int) > 64 by omega), decide_eq_true (show 0 ≤ ((P + 1 : Nat) : Int) ∧ ((P + 1 : Nat) : Int) ≤ 17179869184 by omega), eW, Int.toNat_natCast, List.length_replicate, inb_true (show (0 : Int) ≤ P by omega) (show (P : Int) < (P + 1 : Nat) by omega), Int.toNat_natCast]
  refine ⟨_, rfl, by simp, fun p hp => ⟨fun h => absurd h (by simp), fun _ => ?_⟩, ?_⟩
  · rw [cset _ P p _ (by simp), if_neg (by omega)]; exact repC _ _
  · rw [cset _ P P _ (by simp), if_pos rfl, repC, List.length_nil, Nat.zero_div]; rfl
theorem playsN (n : Nat) (hN : 1500 < n) (cells : Int) (turns : List (Int × Int)) : F11 n cells turns = some true := by
  have fin : ∀ (r : Int × Int × Int × Int × Int × Int × Cells × List Int) (s : Int × Int × Int × Int × Int × Int × Cells) (t : Int × Int × Int × Int × Int × Int × Cells × List Int), F42 n cells turns = some r → F43 n cells turns = some r → F44 n cells = some s → F43 n cells [] = some t → r.2.2.2.2.2.2.1.length ≤ 1000 → r.2.2.2.2.2.2.2.length ≤ 1000 → s.2.2.2.2.2.2.length ≤ 1000 → t = (s.1, s.2.1, s.2.2.1, s.2.2.2.1, s.2.2.2.2.1, s.2.2.2.2.2.1, s.2.2.2.2.2.2, t.2.2.2.2.2.2.2) → F11 n cells turns = some true := by
    intro r s t e1 e2 e3 e4 l1 l2 l3 et
    unfold F11
    rw [e1, e2, e3, e4]
    simp -implicitDefEqProofs only [Option.bind_some]
    rw [g38 n _ l1 (by omega)]
    simp -implicitDefEqProofs only [Option.bind_some, cond_true]
    rw [g45 n _ l2 (by omega)]
    simp -implicitDefEqProofs only [Option.bind_some, cond_true, BEq.rfl]
    rw [et]
    simp only
    rw [g38 n _ l3 (by omega)]
    simp -implicitDefEqProofs only [Option.bind_some, cond_true, BEq.rfl]
  by_cases hc : 3 ≤ cells ∧ cells ≤ 64
  · obtain ⟨P, rfl⟩ : ∃ P : Nat, cells = ((P + 1 : Nat) : Int) := ⟨cells.toNat - 1, by omega⟩
    obtain ⟨c, hn, hc0⟩ := newP n P (by omega) (by omega)
    have p43 : ∀ ts : List (Int × Int), F43 n ((P + 1 : Nat) : Int) ts = (bif decide (((ts.length : Nat) : Int) > 1000) then some (0, 0, 0, 0, 0, 2, [], []) else loopF (F43_l9 n ((P + 1 : Nat) : Int) ts) n (0, 0, 0, [])) := fun ts => by
      unfold F43
      rw [g19, decide_eq_true hc]; rfl
    have p42 : F42 n ((P + 1 : Nat) : Int) turns = (bif decide (((turns.length : Nat) : Int) > 1000) then some (0, 0, 0, 0, 0, 2, [], []) else loopF (F42_l7 n turns) n (0, 0, 1, 0, 1, 0, c, [])) := by
      unfold F42
      rw [hn]; rfl
    obtain ⟨r0, r0', a1, a2, rfl, a3, a4⟩ := lock n (by omega) P (by omega) (by omega) [] (by simp) c hc0
    have hr0 : loopF (F42_l7 n []) n (0, 0, 1, 0, 1, 0, c, []) = some (0, 1, 0, 1, 0, 0, c, []) := by
      obtain ⟨m, rfl⟩ : ∃ m, n = m + 1 := ⟨n - 1, by omega⟩
      rfl
    rw [hr0] at a1
    obtain rfl := Option.some.inj a1
    have d0 : F43 n ((P + 1 : Nat) : Int) [] = some (0, 1, 0, 1, 0, 0, c, []) := by
      rw [p43]; exact a2
    have hl : c.length ≤ 1000 := by have := hc0.1; omega
    by_cases ht : turns.length ≤ 1000
    · obtain ⟨r, r', b1, b2, rfl, b3, b4⟩ := lock n (by omega) P (by omega) (by omega) turns ht c hc0
      refine fin r _ _ ?_ ?_ hn d0 b3 b4 hl rfl
      · rw [p42, decide_eq_false (by omega)]; exact b1
      · rw [p43, decide_eq_false (by omega)]; exact b2
    · refine fin (0, 0, 0, 0, 0, 2, [], []) _ _ ?_ ?_ hn d0 (by simp) (by simp) hl rfl
      · rw [p42, decide_eq_true (by omega)]; rfl
      · rw [p43, decide_eq_true (by omega)]; rfl
  · have p43 : ∀ ts : List (Int × Int), F43 n cells ts = some (0, 0, 0, 0, 0, 1, [], []) := fun ts => by
      unfold F43
      rw [g19, decide_eq_false hc]; rfl
    have p44 : F44 n cells = some (0, 0, 0, 0, 0, 1, []) := by
      unfold F44
      by_cases h : cells < 3
      · rw [decide_eq_true h]; rfl
      · rw [decide_eq_false h, decide_eq_true (show cells > 64 by omega)]; rfl
    have p42 : F42 n cells turns = some (0, 0, 0, 0, 0, 1, [], []) := by
      unfold F42
      rw [p44]; rfl
    exact fin _ _ _ p42 (p43 turns) p44 (p43 []) (by simp) (by simp) (by simp) rfl
theorem plays (cells : Int) (turns : List (Int × Int)) : F11 2000 cells turns = some true := playsN 2000 (by omega) cells turns
theorem ringPlays_says (a0 : Sh.T ((.int .i64))) (g0 : Sh.good ((.int .i64)) a0) (a1 : Sh.T ((.sl (.st (.pair (.int .i64) (.int .u64)))))) (g1 : Sh.good ((.sl (.st (.pair (.int .i64) (.int .u64))))) a1) :
    ∃ n, F11 n a0 a1 = some true := ⟨2000, plays a0 a1⟩
end Go.Proofs.Ytkhfbleldchnpaa
