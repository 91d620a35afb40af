/- RouteShows: the texts of paths, in plain Lean. -/
import Derived.Test.YtgjklpadcmedkaaDoorSRtA
namespace Go.Proofs.YtgjklpadcmedkaaDoor
open Go Go.RowKit
set_option linter.unusedVariables false

/-- a port's text -/
def tx (p : Int) : Tx := if 9 < p then [49, UInt8.ofNat (48 + (p - 10).toNat)] else [UInt8.ofNat (48 + p.toNat)]
theorem fifteen {p : Int} (h1 : 1 ≤ p) (h2 : p ≤ 15) : p = 1 ∨ p = 2 ∨ p = 3 ∨ p = 4 ∨ p = 5 ∨ p = 6 ∨ p = 7 ∨ p = 8 ∨ p = 9 ∨ p = 10 ∨ p = 11 ∨ p = 12 ∨ p = 13 ∨ p = 14 ∨ p = 15 := by omega
theorem f13 (n : Nat) (p : Int) (h1 : 1 ≤ p) (h2 : p ≤ 15) : F13 n p = some (tx p) := by
  rcases fifteen h1 h2 with rfl | rfl | rfl | rfl | rfl | rfl | rfl | rfl | rfl | rfl | rfl | rfl | rfl | rfl | rfl <;> rfl
theorem dec_tx (p : Int) (h1 : 1 ≤ p) (h2 : p ≤ 15) : Lib.decDigits p.toNat = tx p := by
  rcases fifteen h1 h2 with rfl | rfl | rfl | rfl | rfl | rfl | rfl | rfl | rfl | rfl | rfl | rfl | rfl | rfl | rfl <;> (simp [Lib.decDigits, tx]; try decide)
theorem f10 (n : Nat) (p : Int) (h1 : 1 ≤ p) (h2 : p ≤ 15) : F10 n p = some (tx p) := by
  unfold F10
  rw [decide_eq_true (show 0 ≤ p ∧ p < 100 by omega), dec_tx p h1 h2]; rfl
theorem tx_len (p : Int) : (tx p).length ≤ 2 := by
  unfold tx; split <;> simp
theorem tx_dot (p : Int) (h1 : 1 ≤ p) (h2 : p ≤ 15) : ∀ x ∈ tx p, x ≠ 46 := by
  rcases fifteen h1 h2 with rfl | rfl | rfl | rfl | rfl | rfl | rfl | rfl | rfl | rfl | rfl | rfl | rfl | rfl | rfl <;> decide
theorem tx_int (p : Int) (h1 : 1 ≤ p) (h2 : p ≤ 15) : atoi1 (tx p) = some p := by
  rcases fifteen h1 h2 with rfl | rfl | rfl | rfl | rfl | rfl | rfl | rfl | rfl | rfl | rfl | rfl | rfl | rfl | rfl <;> rfl
/-- a path's text -/
def jo (l : List Int) : Tx := [46].intercalate (l.map tx)
theorem inter_len : ∀ (m : List Tx), (∀ x ∈ m, x.length ≤ 2) → ([46].intercalate m).length ≤ 3 * m.length
  | [], _ => by simp [List.intercalate]
  | [x], h => by
    have := h x (by simp)
    simp [List.intercalate, List.intersperse]; omega
  | x :: y :: l, h => by
    have e : [46].intercalate (x :: y :: l) = x ++ 46 :: [46].intercalate (y :: l) := by simp [List.intercalate, List.intersperse]
    have h1 := h x (by simp)
    have h2 := inter_len (y :: l) fun z hz => h z (List.mem_cons_of_mem _ hz)
    rw [e]
    simp only [List.length_append, List.length_cons] at h2 ⊢
    omega
theorem okP_mem {l : List Int} (h : okP l) : ∀ p ∈ l, 1 ≤ p ∧ p ≤ 15 := by
  intro p hp
  obtain ⟨i, hi, rfl⟩ := List.getElem_of_mem hp
  have := h i hi
  rwa [List.getD_eq_getElem?_getD, List.getElem?_eq_getElem hi] at this
theorem jo_len {l : List Int} (h : pathE l = 0) : (jo l).length ≤ 18 := by
  obtain ⟨_, h6, _⟩ := path0 h
  have := inter_len (l.map tx) (by
    intro x hx
    obtain ⟨p, _, rfl⟩ := List.mem_map.1 hx
    exact tx_len p)
  unfold jo
  rw [List.length_map] at this
  omega
theorem pcs_jo {l : List Int} (h : pathE l = 0) : pcs (jo l) = l.map tx := by
  obtain ⟨h0, _, hk⟩ := path0 h
  refine pcs_of_join _ (fun e => h0 (by simpa using congrArg List.length e)) ?_
  intro p hp x hx
  obtain ⟨q, hq, rfl⟩ := List.mem_map.1 hp
  have := okP_mem hk q hq
  exact tx_dot q this.1 this.2 x hx
theorem ints_map : ∀ l : List Int, (∀ p ∈ l, 1 ≤ p ∧ p ≤ 15) → ints (l.map tx) = some l
  | [], _ => rfl
  | p :: l, h => by
    have hp := h p (by simp)
    rw [List.map_cons, ints, tx_int p hp.1 hp.2, ints_map l fun q hq => h q (List.mem_cons_of_mem _ hq)]; rfl
/-- what Show and PathText answer -/
def showV (l : List Int) : Tx × Int := if pathE l = 0 then (jo l, 0) else ([], pathE l)
theorem f11 (n : Nat) (l : List Int) (h : pathE l = 0) : F11 n (l.map tx) [46] = some (jo l) := by
  have h1 := jo_len h
  have h2 := (path0 h).2.1
  unfold F11
  rw [decide_eq_true]
  · rfl
  · refine ⟨?_, by rw [List.length_map]; omega⟩
    show (jo l).length ≤ _
    omega
theorem take_snoc (l : List Int) (k : Nat) (h : k < l.length) : (l.take (k + 1)).map tx = (l.take k).map tx ++ [tx (l.getD k 0)] := by
  rw [List.take_add_one, List.getElem?_eq_getElem h, List.map_append, List.getD_eq_getElem?_getD, List.getElem?_eq_getElem h]; rfl
theorem show_plain (n : Nat) (l : List Int) (hn : 10 < n) : F4 n l = some (showV l) := by
  unfold F4 showV
  rw [rp35 n l hn]
  simp only [Option.bind_some]
  by_cases h : pathE l = 0
  · rw [if_pos h, h]
    simp only [bne_self_eq_false, cond_false]
    obtain ⟨h0, h6, hk⟩ := path0 h
    obtain ⟨r, e, hr⟩ := loopF_post (F4_l2 n l) (fun d => ∃ k : Nat, d.1 = (k : Int) ∧ k ≤ l.length ∧ d.2 = (l.take k).map tx) (fun _ r => r = (jo l, 0)) (fun d => l.length - d.1.toNat) (by
      rintro kk ⟨x, m⟩ ⟨k, e, hkl, hm⟩ ih
      simp only at e hm
      subst e hm
      simp only [F4_l2, Int.toNat_natCast]
      by_cases hka : k < l.length
      · have hp := hk k hka
        rw [decide_eq_true (show (k : Int) < (l.length : Int) by omega), inb_true (show (0 : Int) ≤ k by omega) (show (k : Int) < l.length by omega), f10 n _ hp.1 hp.2, w64 (n := (k : Int) + 1) (by omega) (by omega)]
        simp only [cond_true, Option.bind_some]
        rw [decide_eq_true (by simp; omega)]
        simp only [cond_true]
        exact ih ((k : Int) + 1, _) ⟨k + 1, by simp, by omega, by rw [take_snoc l k hka]⟩ (by simp only [Int.toNat_natCast]; omega)
      · rw [decide_eq_false (show ¬ (k : Int) < (l.length : Int) by omega)]
        simp only [cond_false]
        rw [List.take_of_length_le (by omega), f11 n l h]
        exact ⟨_, rfl, rfl⟩) n (0, []) ⟨0, rfl, by omega, by simp⟩ (by simp; omega)
    rw [e, hr]
  · rw [if_neg h, show (pathE l != 0) = true by simpa using h]; rfl
theorem text_plain (n : Nat) (l : List Int) (hn : 10 < n) : F5 n l = some (showV l) := by
  unfold F5 showV
  rw [rp36 n l hn]
  simp only [Option.bind_some]
  by_cases h : pathE l = 0
  · rw [if_pos h, h]
    simp only [bne_self_eq_false, cond_false]
    obtain ⟨h0, h6, hk⟩ := path0 h
    obtain ⟨r, e, hr⟩ := loopF_post (F5_l2 n l) (fun d => ∃ k : Nat, d.1 = (k : Int) ∧ k ≤ l.length ∧ d.2 = (l.take k).map tx) (fun _ r => r = (jo l, 0)) (fun d => l.length - d.1.toNat) (by
      rintro kk ⟨x, m⟩ ⟨k, e, hkl, hm⟩ ih
      simp only at e hm
      subst e hm
      simp only [F5_l2, Int.toNat_natCast]
      by_cases hka : k < l.length
      · have hp := hk k hka
        rw [decide_eq_true (show (k : Int) < (l.length : Int) by omega), inb_true (show (0 : Int) ≤ k by omega) (show (k : Int) < l.length by omega), f13 n _ hp.1 hp.2, w64 (n := (k : Int) + 1) (by omega) (by omega)]
        simp only [cond_true, Option.bind_some]
        rw [decide_eq_true (by simp; omega)]
        simp only [cond_true]
        exact ih ((k : Int) + 1, _) ⟨k + 1, by simp, by omega, by rw [take_snoc l k hka]⟩ (by simp only [Int.toNat_natCast]; omega)
      · rw [decide_eq_false (show ¬ (k : Int) < (l.length : Int) by omega)]
        simp only [cond_false]
        rw [List.take_of_length_le (by omega), f11 n l h]
        exact ⟨_, rfl, rfl⟩) n (0, []) ⟨0, rfl, by omega, by simp⟩ (by simp; omega)
    rw [e, hr]
  · rw [if_neg h, show (pathE l != 0) = true by simpa using h]; rfl
end Go.Proofs.YtgjklpadcmedkaaDoor
