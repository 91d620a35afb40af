/- The law ReportItems, in plain Lean (the law). -/
import Derived.Test.YtgcdohclbkmmdaaSItems4
namespace Go.Proofs.Ytgcdohclbkmmdaa
open Go Go.RowKit
set_option linter.unusedVariables false

theorem oneByte (n : Nat) (hn : 10 < n) (c : Int) (h0 : 0 ≤ c) (h1 : c ≤ 255) : F71 n [c] = some (strOf [c], true) := by
  obtain ⟨m, rfl⟩ : ∃ m, n = m + 2 := ⟨n - 2, by omega⟩
  have e : F71 (m + 2) [c] = ((F16 (m + 2) c 0 255).bind fun y => bif !y then some ([], false) else some (strOf [IntKind.wrap .u8 c], true)) := rfl
  rw [e, betwR, decide_eq_true ⟨h0, h1⟩, u8w, Int.emod_eq_of_lt h0 (by omega)]; rfl
def y4 (v : Int) : List UInt8 := [fb v 0, fb v 1, fb v 2, fb v 3]
def nb (j : Nat) : Nat := [0, 1, 2, 4].getD j 0
theorem step20 (n : Nat) (hn : 200 < n) (K : (List UInt8) × Int → Option ((List UInt8) × Int)) (l : List (Int × Int)) (vout : List UInt8) (hv : vout.length ≤ 5000) (x : Nat) (hx : x < 300) (j : Nat) (hj : j < 4) (hk : 0 ≤ (l.getD x (0, 0)).1 ∧ (l.getD x (0, 0)).1 ≤ 63) (kk : Int → Option ((List UInt8) × Int)) :
    F44_l20 n K l vout (x : Int) (y4 (l.getD x (0, 0)).2) kk (j : Int) = bif sgn ((y4 (l.getD x (0, 0)).2).take (nb j)) == (l.getD x (0, 0)).2 then K (vout ++ (strOf [4 * (l.getD x (0, 0)).1 + (j : Int)] ++ (y4 (l.getD x (0, 0)).2).take (nb j)), ((x + 1 : Nat) : Int)) else kk ((j + 1 : Nat) : Int) := by
  have hnb : nb j ≤ 4 ∧ ([0, 1, 2, 4] : List Int).getD j 0 = (nb j : Int) := by
    have : j = 0 ∨ j = 1 ∨ j = 2 ∨ j = 3 := by omega
    rcases this with rfl | rfl | rfl | rfl <;> exact ⟨by decide, rfl⟩
  have hy : (y4 (l.getD x (0, 0)).2).length = 4 := rfl
  simp only [F44_l20, Int.toNat_natCast, hnb.2]
  rw [decide_eq_true (show (j : Int) < (([0, 1, 2, 4] : List Int).length : Nat) by simp; omega), inb_true (show (0 : Int) ≤ j by omega) (show (j : Int) < (([0, 1, 2, 4] : List Int).length : Nat) by simp; omega), show subB (y4 (l.getD x (0, 0)).2).length none (some (nb j : Int)) = true by rw [hy]; simp [subB]; omega, signNum n (by omega) _ (by rw [List.length_take, hy]; omega)]
  simp only [cond_true, Option.bind_some]
  cases sgn ((y4 (l.getD x (0, 0)).2).take (nb j)) == (l.getD x (0, 0)).2
  · simp only [cond_false]
    rw [w64 (n := (j : Int) + 1) (by omega) (by omega)]; rfl
  · simp only [cond_true]
    rw [w64 (n := 4 * (l.getD x (0, 0)).1) (by omega) (by omega), w64 (n := 4 * (l.getD x (0, 0)).1 + (j : Int)) (by omega) (by omega), oneByte n (by omega) _ (by omega) (by omega), w64 (n := (x : Int) + 1) (by omega) (by omega)]
    simp only [Option.bind_some]
    have lt : ((y4 (l.getD x (0, 0)).2).take (nb j)).length ≤ 4 := by rw [List.length_take, hy]; omega
    have ls : (strOf [4 * (l.getD x (0, 0)).1 + (j : Int)]).length = 1 := rfl
    rw [decide_eq_true (show (strOf [4 * (l.getD x (0, 0)).1 + (j : Int)]).length + ((y4 (l.getD x (0, 0)).2).take (nb j)).length ≤ 9223372036854775807 by omega), decide_eq_true (show vout.length + (strOf [4 * (l.getD x (0, 0)).1 + (j : Int)] ++ (y4 (l.getD x (0, 0)).2).take (nb j)).length ≤ 9223372036854775807 by rw [List.length_append]; omega)]
    rfl
theorem sgn0 : sgn [] = 0 := rfl
theorem text20 (n : Nat) (hn : 200 < n) (K : (List UInt8) × Int → Option ((List UInt8) × Int)) (l : List (Int × Int)) (vout : List UInt8) (hv : vout.length ≤ 5000) (x : Nat) (hx : x < 300) (hg : itG (l.getD x (0, 0))) :
    loopF (F44_l20 n K l vout (x : Int) (y4 (l.getD x (0, 0)).2)) n 0 = K (vout ++ strOf (itB (l.getD x (0, 0))), ((x + 1 : Nat) : Int)) := by
  have st := fun j hj kk => step20 n hn K l vout hv x hx j hj hg.1 kk
  generalize hb : F44_l20 n K l vout (x : Int) (y4 (l.getD x (0, 0)).2) = body at *
  obtain ⟨m, rfl⟩ : ∃ m, n = m + 4 := ⟨n - 4, by omega⟩
  obtain ⟨g1, g2, g3⟩ := hg
  generalize hit : l.getD x (0, 0) = it at *
  obtain ⟨k, v⟩ := it
  simp only at g1 g2 g3 st ⊢
  have s0 := st 0 (by omega) (loopF body (m + 3))
  have s1 := st 1 (by omega) (loopF body (m + 2))
  have s2 := st 2 (by omega) (loopF body (m + 1))
  have s3 := st 3 (by omega) (loopF body m)
  have t0 : sgn ((y4 v).take (nb 0)) = 0 := rfl
  have t1 : (sgn ((y4 v).take (nb 1)) == v) = decide (-128 ≤ v ∧ v < 128) := tell1 v g2 g3
  have t2 : (sgn ((y4 v).take (nb 2)) == v) = decide (-32768 ≤ v ∧ v < 32768) := tell2 v g2 g3
  have t3 : (sgn ((y4 v).take (nb 3)) == v) = true := by
    rw [beq_iff_eq]; exact tell4 v g2 g3
  rw [t0] at s0
  rw [t1] at s1
  rw [t2] at s2
  rw [t3] at s3
  show body (loopF body (m + 3)) ((0 : Nat) : Int) = _
  rw [s0]
  by_cases q0 : v = 0
  · rw [show ((0 : Int) == v) = true by rw [beq_iff_eq]; exact q0.symm]
    have e1 : szC v = 0 := by unfold szC; rw [if_pos q0]
    have e2 : szN v = 0 := by unfold szN; rw [e1]; rfl
    show K _ = _
    congr 2
    unfold itB
    rw [e1, e2]; rfl
  rw [show ((0 : Int) == v) = false by rw [beq_eq_false_iff_ne]; exact fun h => q0 h.symm]
  show body (loopF body (m + 2)) ((1 : Nat) : Int) = _
  rw [s1]
  by_cases q1 : -128 ≤ v ∧ v < 128
  · rw [decide_eq_true q1]
    have e1 : szC v = 1 := by unfold szC; rw [if_neg q0, if_pos q1]
    have e2 : szN v = 1 := by unfold szN; rw [e1]; rfl
    show K _ = _
    congr 2
    unfold itB
    rw [e1, e2]; rfl
  rw [decide_eq_false q1]
  show body (loopF body (m + 1)) ((2 : Nat) : Int) = _
  rw [s2]
  by_cases q2 : -32768 ≤ v ∧ v < 32768
  · rw [decide_eq_true q2]
    have e1 : szC v = 2 := by unfold szC; rw [if_neg q0, if_neg q1, if_pos q2]
    have e2 : szN v = 2 := by unfold szN; rw [e1]; rfl
    show K _ = _
    congr 2
    unfold itB
    rw [e1, e2]; rfl
  rw [decide_eq_false q2]
  show body (loopF body m) ((3 : Nat) : Int) = _
  rw [s3]
  have e1 : szC v = 3 := by unfold szC; rw [if_neg q0, if_neg q1, if_neg q2]
  have e2 : szN v = 4 := by unfold szN; rw [e1]; rfl
  show K _ = _
  congr 2
  unfold itB
  rw [e1, e2]; rfl
theorem docText (n : Nat) (hn : 1000 < n) (l : List (Int × Int)) (hl : l.length ≤ 200) (hg : ∀ x, x < l.length → itG (l.getD x (0, 0))) : loopF (F44_l19 n l) n ([], 0) = some (writeV l) := by
  refine loopF_eq (F44_l19 n l) (fun _ => some (writeV l)) (fun d => ∃ x : Nat, d = (strOf (flatI (l.take x)), (x : Int)) ∧ x ≤ l.length) (fun d => l.length - d.2.toNat) ?_ n _ ⟨0, rfl, by omega⟩ (by simp; omega)
  rintro kk d ⟨x, rfl, hx⟩ ih
  simp only [F44_l19, Int.toNat_natCast]
  have hfl := flat_len (l.take x)
  rw [List.length_take, Nat.min_eq_left hx] at hfl
  have hsl : ∀ m : List Int, (strOf m).length = m.length := fun m => by simp [strOf]
  by_cases h : x < l.length
  · have t32 := two' n (by omega) 32 (by omega)
    rw [show ((32 : Nat) : Int) = 32 from rfl, show ((2 ^ 32 : Nat) : Int) = 4294967296 by decide] at t32
    have hgx := hg x h
    rw [decide_eq_true (show (x : Int) < ((l.length : Nat) : Int) by omega), inb_true (show (0 : Int) ≤ x by omega) (show (x : Int) < (l.length : Nat) by omega), t32]
    simp only [cond_true, Option.bind_some]
    rw [show ((4294967296 : Int) != 0) = true by decide, four n _ hgx.2.1 hgx.2.2]
    simp only [cond_true, Option.bind_some]
    have := text20 n (by omega) kk l (strOf (flatI (l.take x))) (by rw [hsl]; omega) x (by omega) hgx
    refine Eq.trans this ?_
    refine ih _ ⟨x + 1, ?_, by omega⟩ (by simp only [Int.toNat_natCast]; omega)
    rw [flat_take l x h, strOf_app]
  · obtain rfl : x = l.length := by omega
    rw [decide_eq_false (show ¬ ((l.length : Nat) : Int) < ((l.length : Nat) : Int) by omega), List.take_length, hsl]
    simp only [cond_false]
    unfold writeV
    rw [if_pos hg]
    by_cases q : (flatI l).length > 512
    · rw [if_pos q, decide_eq_true (show (((flatI l).length : Nat) : Int) > 512 by omega)]; rfl
    · rw [if_neg q, decide_eq_false (show ¬ (((flatI l).length : Nat) : Int) > 512 by omega)]; rfl
theorem docWrite (n : Nat) (hn : 1000 < n) (l : List (Int × Int)) (hl : l.length ≤ 200) : loopF (F44_l16 n l) n 0 = some (writeV l) := by
  refine loopF_eq (F44_l16 n l) (fun _ => some (writeV l)) (fun d => ∃ x : Nat, d = (x : Int) ∧ x ≤ l.length ∧ ∀ j, j < x → itG (l.getD j (0, 0))) (fun d => l.length - d.toNat) ?_ n _ ⟨0, rfl, by omega, fun j hj => by omega⟩ (by simp; omega)
  rintro kk d ⟨x, rfl, hx, hall⟩ ih
  simp only [F44_l16, Int.toNat_natCast]
  by_cases h : x < l.length
  · have t31 := two' n (by omega) 31 (by omega)
    rw [show ((31 : Nat) : Int) = 31 from rfl, show ((2 ^ 31 : Nat) : Int) = 2147483648 by decide] at t31
    have no : ¬ itG (l.getD x (0, 0)) → some (([] : List UInt8), (1 : Int)) = some (writeV l) := fun hg => by
      unfold writeV
      rw [if_neg (fun hh => hg (hh x h))]
    rw [decide_eq_true (show (x : Int) < ((l.length : Nat) : Int) by omega), inb_true (show (0 : Int) ≤ x by omega) (show (x : Int) < (l.length : Nat) by omega), betwR, t31, w64 (n := (x : Int) + 1) (by omega) (by omega)]
    simp only [cond_true, Option.bind_some, betwR]
    rw [w64 (n := 0 - 2147483648) (by omega) (by omega), w64 (n := 2147483648 - 1) (by omega) (by omega)]
    by_cases q1 : 0 ≤ (l.getD x (0, 0)).1 ∧ (l.getD x (0, 0)).1 ≤ 63
    · rw [decide_eq_true q1]
      by_cases q2 : 0 - 2147483648 ≤ (l.getD x (0, 0)).2 ∧ (l.getD x (0, 0)).2 ≤ 2147483648 - 1
      · rw [decide_eq_true q2]
        simp only [Bool.not_true, cond_false]
        refine ih _ ⟨x + 1, by omega, by omega, fun j hj => ?_⟩ (by omega)
        rcases Nat.lt_succ_iff_lt_or_eq.1 hj with h2 | h2
        · exact hall j h2
        · subst h2; unfold itG; omega
      · rw [decide_eq_false q2]; exact no (fun hh => by unfold itG at hh; omega)
    · rw [decide_eq_false q1]; exact no (fun hh => by unfold itG at hh; omega)
  · obtain rfl : x = l.length := by omega
    rw [decide_eq_false (show ¬ ((l.length : Nat) : Int) < ((l.length : Nat) : Int) by omega)]
    exact docText n hn l hl hall
theorem eq45 (n : Nat) (a : List (Int × Int)) (ha : a.length ≤ 1000) (hn : 1001 < n) : F45 n a a = some true := by
  unfold F45
  simp only [bne_self_eq_false, cond_false]
  refine loopF_eq (F45_l2 n a a) (fun _ => some true) (fun x => ∃ k : Nat, x = (k : Int) ∧ k ≤ a.length) (fun x => a.length - x.toNat) ?_ n 0 ⟨0, rfl, by omega⟩ (by simp; omega)
  rintro kk x ⟨k, rfl, hk⟩ ih
  simp only [F45_l2, Int.toNat_natCast, Sh.beq_self, Bool.not_true, cond_false]
  by_cases hka : k < a.length
  · rw [decide_eq_true (show (k : Int) < (a.length : Int) by omega), inb_true (show (0 : Int) ≤ k by omega) (show (k : Int) < a.length by omega), w64 (n := (k : Int) + 1) (by omega) (by omega)]
    simp only [cond_true]
    exact ih ((k : Int) + 1) ⟨k + 1, by omega, by omega⟩ (by simp only [Int.toNat_natCast]; omega)
  · rw [decide_eq_false (show ¬ (k : Int) < (a.length : Int) by omega)]; rfl
theorem itemsN (n : Nat) (hn : 1500 < n) (s : List UInt8) (l : List (Int × Int)) : F9 n s l = some true := by
  obtain ⟨r, h1, h2, h3⟩ := readItems n (by omega) s
  have w : ∃ t, F43 n l = some t ∧ F44 n l = some t := by
    unfold F43 F44
    by_cases hl : 200 < l.length
    · rw [decide_eq_true (show ((l.length : Nat) : Int) > 200 by omega)]
      exact ⟨_, rfl, rfl⟩
    · rw [decide_eq_false (show ¬ ((l.length : Nat) : Int) > 200 by omega)]
      exact ⟨_, writeP n (by omega) l (by omega), docWrite n (by omega) l (by omega)⟩
  obtain ⟨t, h4, h5⟩ := w
  unfold F9
  rw [h1, h2, h4, h5]
  simp -implicitDefEqProofs only [Option.bind_some]
  rw [eq45 n r.2 h3 (by omega)]
  simp -implicitDefEqProofs only [Option.bind_some, cond_true, BEq.rfl]
theorem items (s : List UInt8) (l : List (Int × Int)) : F9 2000 s l = some true := itemsN 2000 (by omega) s l
theorem reportItems_says (a0 : Sh.T (.str)) (g0 : Sh.good (.str) a0) (a1 : Sh.T ((.sl (.st (.pair (.int .i64) (.int .i64)))))) (g1 : Sh.good ((.sl (.st (.pair (.int .i64) (.int .i64))))) a1) :
    ∃ n, F9 n a0 a1 = some true := ⟨2000, items a0 a1⟩
end Go.Proofs.Ytgcdohclbkmmdaa
