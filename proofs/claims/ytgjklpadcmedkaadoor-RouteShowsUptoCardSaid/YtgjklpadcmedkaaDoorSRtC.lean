/- RouteShows: texts to paths, and the law, in plain Lean. -/
import Derived.Test.YtgjklpadcmedkaaDoorSRtB
namespace Go.Proofs.YtgjklpadcmedkaaDoor
open Go Go.RowKit
set_option linter.unusedVariables false

theorem split_pcs : ∀ (n : Nat) (s : Tx), s.length ≤ n → Lib.split s [46] = pcs s
  | n, s, h => by
    rcases cut46 s with hs | ⟨a, b, rfl, hs⟩
    · rw [pcs_none s hs]
      unfold Lib.split
      rw [Lib.count_miss (ix_none s hs)]; rfl
    · cases n with
      | zero => simp at h
      | succ n =>
        have ih := split_pcs n b (by simp at h; omega)
        have hi := ix_some a b hs
        have hd : (a ++ 46 :: b).drop (a.length + ([46] : Tx).length) = b := by
          rw [show a.length + ([46] : Tx).length = a.length + 1 from rfl, ← List.drop_drop, List.drop_left]; rfl
        rw [pcs_some a b hs, ← ih]
        unfold Lib.split
        rw [Lib.count_hit (by decide) hi, hd, Nat.add_comm 1, Lib.splitK, hi, if_neg (by simp), Int.toNat_natCast, Nat.add_zero, hd, List.take_left]
/-- what Read answers -/
def rdV (s : Tx) : List Int × Int := match ints (pcs s) with
  | none => ([], 4)
  | some l => if pathE l = 0 ∧ jo l = s then (l, 0) else ([], 4)
theorem read_plain (n : Nat) (s : Tx) (hn : 10 < n) (hs : s.length ≤ 1099511627776) : F6 n s = some (rdV s) := by
  unfold F6
  have hc : readC n s = true := by
    unfold readC
    cases ints (pcs s) with
    | none => simpa using hs
    | some l =>
      dsimp only
      rw [show_plain n l hn]
      simpa using hs
  rw [decide_eq_true ⟨hs, hc⟩]
  simp only [cond_true]
  unfold readV rdV
  cases ints (pcs s) with
  | none => rfl
  | some l =>
    dsimp only
    rw [show_plain n l hn]
    dsimp only
    unfold showV
    by_cases h : pathE l = 0
    · rw [if_pos h]
      dsimp only
      by_cases hj : jo l = s
      · rw [if_pos ⟨h, hj⟩, hj]; simp
      · rw [if_neg (fun hh => hj hh.2), show (jo l == s) = false by simpa using hj]; simp
    · rw [if_neg h, if_neg (fun hh => h hh.1)]
      dsimp only
      rw [show (pathE l == 0) = false by simpa using h]; simp
/-- the numbers from v on whose text is p -/
def selF : Nat → Int → Tx → List Int
  | 0, _, _ => []
  | k + 1, v, p => (if tx v = p then [v] else []) ++ selF k (v + 1) p
theorem selF_len : ∀ (k : Nat) (v : Int) (p : Tx), (selF k v p).length ≤ k
  | 0, _, _ => by simp [selF]
  | k + 1, v, p => by
    unfold selF
    have := selF_len k (v + 1) p
    rw [List.length_append]
    split <;> simp <;> omega
theorem l8 (n : Nat) (K : (Int × (List Int)) → Option (Int × (List Int))) (y : List Tx) (x : Int) : ∀ (k : Nat) (v : Int) (f : Nat) (m : List Int), v + k = 16 → 1 ≤ v → k < f → m.length + k ≤ 1000000 →
    loopF (F7_l8 n K y x) f (v, m) = K (IntKind.wrap .i64 (x + 1), m ++ selF k v (y.getD x.toNat []))
  | k, v, 0, m, h1, h2, h3, h4 => by omega
  | 0, v, f + 1, m, h1, h2, h3, h4 => by
    show F7_l8 n K y x _ (v, m) = _
    simp only [F7_l8]
    rw [decide_eq_false (show ¬ v ≤ 15 by omega)]
    simp [selF]
  | k + 1, v, f + 1, m, h1, h2, h3, h4 => by
    show F7_l8 n K y x _ (v, m) = _
    simp only [F7_l8]
    rw [decide_eq_true (show v ≤ 15 by omega), f13 n v h2 (by omega), w64 (n := v + 1) (by omega) (by omega)]
    simp only [cond_true, Option.bind_some]
    by_cases ht : tx v = y.getD x.toNat []
    · rw [show (tx v == y.getD x.toNat []) = true by simpa using ht, decide_eq_true (show m.length + [v].length ≤ 17592186044416 by simp; omega)]
      simp only [cond_true]
      rw [l8 n K y x k (v + 1) f (m ++ [v]) (by omega) (by omega) (by omega) (by simp; omega), selF, if_pos ht, List.append_assoc]
    · rw [show (tx v == y.getD x.toNat []) = false by simpa using ht]
      simp only [cond_false]
      rw [l8 n K y x k (v + 1) f m (by omega) (by omega) (by omega) (by omega), selF, if_neg ht]; rfl
def sel1 (p : Tx) : List Int := selF 15 1 p
/-- what TextPath answers -/
def tpV (s : Tx) : Int × List Int := if 20 < s.length then (4, []) else if pathE ((pcs s).flatMap sel1) = 0 ∧ jo ((pcs s).flatMap sel1) = s then (0, (pcs s).flatMap sel1) else (4, [])
theorem flat_len : ∀ l : List Tx, (l.flatMap sel1).length ≤ 15 * l.length
  | [] => by simp
  | p :: l => by
    have h1 := selF_len 15 1 p
    have h2 := flat_len l
    rw [List.flatMap_cons, List.length_append, List.length_cons]
    unfold sel1 at *
    omega
theorem flat_snoc (l : List Tx) (k : Nat) (h : k < l.length) : (l.take (k + 1)).flatMap sel1 = (l.take k).flatMap sel1 ++ sel1 (l.getD k []) := by
  rw [List.take_add_one, List.getElem?_eq_getElem h, List.flatMap_append, List.getD_eq_getElem?_getD, List.getElem?_eq_getElem h]; simp
theorem text_path (n : Nat) (s : Tx) (hn : 30 < n) : F7 n s = some (tpV s) := by
  unfold F7 tpV
  by_cases h20 : 20 < s.length
  · rw [if_pos h20, decide_eq_true (show ((s.length : Nat) : Int) > 20 by omega)]; rfl
  rw [if_neg h20, decide_eq_false (show ¬ ((s.length : Nat) : Int) > 20 by omega)]
  have hsp : F16 n s [46] = some (pcs s) := by
    unfold F16
    rw [decide_eq_true (show s.length < 4294967281 ∧ 1 ≤ ([46] : Tx).length by simp; omega)]
    simp only [cond_true]
    rw [split_pcs _ s (Nat.le_refl _)]
  simp only [cond_false]
  rw [hsp]
  simp only [Option.bind_some]
  have hp := pcs_len s
  generalize pcs s = y at hp ⊢
  obtain ⟨r, e, hr⟩ := loopF_post (F7_l7 n s y) (fun d => ∃ k : Nat, d.1 = (k : Int) ∧ k ≤ y.length ∧ d.2 = (y.take k).flatMap sel1) (fun _ r => r = if pathE (y.flatMap sel1) = 0 ∧ jo (y.flatMap sel1) = s then (0, y.flatMap sel1) else (4, [])) (fun d => y.length - d.1.toNat) (by
    rintro kk ⟨x, m⟩ ⟨k, e, hkl, hm⟩ ih
    simp only at e hm
    subst e hm
    simp only [F7_l7]
    by_cases hka : k < y.length
    · rw [decide_eq_true (show (k : Int) < (y.length : Int) by omega), inb_true (show (0 : Int) ≤ k by omega) (show (k : Int) < y.length by omega)]
      simp only [cond_true]
      have hfl := flat_len (y.take k)
      have htl : (y.take k).length ≤ 21 := by rw [List.length_take]; omega
      rw [l8 n kk y k 15 1 n _ (by omega) (by omega) (by omega) (by omega), w64 (n := (k : Int) + 1) (by omega) (by omega), Int.toNat_natCast]
      exact ih ((k : Int) + 1, _) ⟨k + 1, by simp, by omega, by rw [flat_snoc y k hka]; rfl⟩ (by simp only [Int.toNat_natCast]; omega)
    · rw [decide_eq_false (show ¬ (k : Int) < (y.length : Int) by omega)]
      simp only [cond_false]
      rw [List.take_of_length_le (by omega), text_plain n _ (by omega)]
      simp only [Option.bind_some]
      refine ⟨_, ?_, rfl⟩
      generalize y.flatMap sel1 = l
      unfold showV
      by_cases h : pathE l = 0
      · rw [if_pos h]
        by_cases hj : jo l = s
        · rw [if_pos ⟨h, hj⟩, hj]; simp
        · rw [if_neg (fun hh => hj hh.2), show (jo l == s) = false by simpa using hj]; simp
      · rw [if_neg h, if_neg (fun hh => h hh.1)]
        dsimp only
        rw [show (pathE l != 0) = true by simpa using h]; simp) n (0, []) ⟨0, rfl, by omega, by simp⟩ (by simp; omega)
  rw [e, hr]
theorem sel_tx (p : Int) (h1 : 1 ≤ p) (h2 : p ≤ 15) : sel1 (tx p) = [p] := by
  rcases fifteen h1 h2 with rfl | rfl | rfl | rfl | rfl | rfl | rfl | rfl | rfl | rfl | rfl | rfl | rfl | rfl | rfl <;> rfl
theorem sel_map : ∀ l : List Int, (∀ p ∈ l, 1 ≤ p ∧ p ≤ 15) → (l.map tx).flatMap sel1 = l
  | [], _ => rfl
  | p :: l, h => by
    have hp := h p (by simp)
    rw [List.map_cons, List.flatMap_cons, sel_tx p hp.1 hp.2, sel_map l fun q hq => h q (List.mem_cons_of_mem _ hq)]; rfl
/-- both say the same -/
theorem same (s : Tx) : (tpV s).2 = (rdV s).1 ∧ (tpV s).1 = (rdV s).2 ∧ (rdV s).1.length ≤ 6 := by
  by_cases h : ∃ l, pathE l = 0 ∧ jo l = s
  · obtain ⟨l, hl, rfl⟩ := h
    have hm := okP_mem (path0 hl).2.2
    have e1 : rdV (jo l) = (l, 0) := by
      unfold rdV
      rw [pcs_jo hl, ints_map l hm]
      dsimp only
      rw [if_pos ⟨hl, rfl⟩]
    have e2 : tpV (jo l) = (0, l) := by
      unfold tpV
      rw [if_neg (by have := jo_len hl; omega), pcs_jo hl, sel_map l hm, if_pos ⟨hl, rfl⟩]
    rw [e1, e2]
    exact ⟨rfl, rfl, (path0 hl).2.1⟩
  · have e1 : rdV s = ([], 4) := by
      unfold rdV
      cases ints (pcs s) with
      | none => rfl
      | some l => exact if_neg fun hh => h ⟨l, hh⟩
    have e2 : tpV s = (4, []) := by
      unfold tpV
      split
      · rfl
      · exact if_neg fun hh => h ⟨_, hh⟩
    rw [e1, e2]
    exact ⟨rfl, rfl, by simp⟩
theorem routeShows_says (path : List Int) (g0 : Sh.good (.sl (.int .i64)) path) (u0 : Sh.bulk (.sl (.int .i64)) path ≤ 1048576) (s : List UInt8) (g1 : Sh.good .str s) (u1 : Sh.bulk .str s ≤ 1048576) : ∃ n, F3 n path s = some true := by
  refine ⟨2000, ?_⟩
  have hs : s.length ≤ 1048576 := by
    have : s.length + 1 ≤ 1048576 := u1
    omega
  obtain ⟨h1, h2, h3⟩ := same s
  unfold F3
  rw [show_plain _ path (by omega), text_plain _ path (by omega), read_plain _ s (by omega) (by omega), text_path _ s (by omega)]
  simp only [Option.bind_some, BEq.rfl, cond_true]
  rw [h1, rf25 _ _ _ (by omega) (by omega), decide_eq_true rfl]
  simp [h2]
end Go.Proofs.YtgjklpadcmedkaaDoor
