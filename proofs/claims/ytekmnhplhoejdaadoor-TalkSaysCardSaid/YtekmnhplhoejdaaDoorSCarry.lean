/- The law StrikeCarries, in plain Lean. -/
import Derived.Test.YtekmnhplhoejdaaDoorSPiecesK
namespace Go.Proofs.YtekmnhplhoejdaaDoor.Ca
open Go Go.RowKit
open Classical
set_option linter.unusedVariables false

theorem ps_take {size : Nat} (h : 1 ≤ size) : ∀ (k m : Nat) (t : Tx), t.length ≤ m → ((ps size t).take k).flatten = t.take (k * size)
  | 0, m, t, _ => by simp
  | k + 1, m, t, hm => by
    by_cases hs : size ≤ t.length
    · rw [ps_big h hs, List.take_succ_cons, List.flatten_cons, ps_take h k m (t.drop size) (by rw [List.length_drop]; omega), Nat.add_mul, Nat.one_mul, Nat.add_comm (k * size) size, List.take_add]
    · have hk : size ≤ (k + 1) * size := Nat.le_mul_of_pos_left _ (by omega)
      rw [ps_small (by omega), List.take_succ_cons, List.take_nil]
      simp only [List.flatten_cons, List.flatten_nil, List.append_nil]
      rw [List.take_of_length_le (by omega)]
theorem betC (n : Nat) (v lo hi : Int) : F27 n v lo hi = some (decide (lo ≤ v ∧ v ≤ hi)) := by
  unfold F27
  by_cases h : lo ≤ v
  · rw [decide_eq_true h]
    simp only [cond_true, Option.some.injEq]
    rw [Bool.eq_iff_iff, decide_eq_true_iff, decide_eq_true_iff]
    exact ⟨fun e => ⟨h, e⟩, fun e => e.2⟩
  · rw [decide_eq_false h, decide_eq_false (show ¬ (lo ≤ v ∧ v ≤ hi) from fun hh => h hh.1)]; rfl
theorem cloneC (n : Nat) (l : List Tx) (hl : l.length ≤ 1000) : F61 n l = some l := by
  unfold F61
  rw [List.nil_append, decide_eq_true (show ([] : List Tx).length + l.length ≤ 8796093022208 by simp; omega)]; rfl
def par (k : Nat) : Int := ((k % 2 : Nat) : Int)
theorem par_step (k : Nat) : IntKind.wrap .i64 (1 - par k) = par (k + 1) := by
  unfold par
  rw [w64 (by omega) (by omega)]; omega
theorem par_eq (a b : Nat) (h : a ≤ b) (h2 : b ≤ a + 1) : (par a == par b) = decide (b = a) := by
  unfold par
  rw [Bool.eq_iff_iff, beq_iff_eq, decide_eq_true_iff]
  omega
/-- one step of the pipe -/
theorem stepC (n : Nat) (l : List Tx) (hl : l.length ≤ 200) (told got : Nat) (h1 : told ≤ got) (h2 : got ≤ told + 1) (ht : told < l.length) (hg : got ≤ l.length) (f : Int) (hf : 1 ≤ f ∧ f ≤ 5) :
    F34 n (par told) (par got) (l.drop told) (l.take got) f = some (par (if f = 1 then told + 1 else told), par (if f = 1 ∨ f = 3 then told + 1 else got), 0, l.drop (if f = 1 then told + 1 else told), l.take (if f = 1 ∨ f = 3 then told + 1 else got)) := by
  have b01 : ∀ k, F65 n (par k) = some true := fun k => by
    unfold F65 par
    have : k % 2 = 0 ∨ k % 2 = 1 := by omega
    rcases this with h | h <;> rw [h] <;> rfl
  have bf : F66 n f = some true := by
    unfold F66
    rw [decide_eq_true (show f ≥ 1 from hf.1), decide_eq_true hf.2]; rfl
  have ld : (l.drop told).length = l.length - told := List.length_drop
  have lt : (l.take got).length = got := by rw [List.length_take]; omega
  unfold F34
  rw [b01, b01, bf]
  simp only [Option.bind_some, Bool.not_true, cond_false]
  unfold F34_j4
  rw [cloneC n _ (by omega), cloneC n _ (by omega), decide_eq_false (show ¬ (((l.drop told).length : Nat) : Int) > 200 by omega), decide_eq_false (show ¬ (((l.take got).length : Nat) : Int) > 200 by omega)]
  simp only [Option.bind_some, cond_false]
  rw [show ((((l.drop told).length : Nat) : Int) == 0) = false by rw [beq_eq_false_iff_ne]; omega]
  simp only [cond_false]
  by_cases hq : f = 1 ∨ f = 3
  · have ej : (bif f != 1 then F34_j5 n (par told) (par got) f (l.drop told) (l.take got) (f != 3) else F34_j5 n (par told) (par got) f (l.drop told) (l.take got) false) = F34_j5 n (par told) (par got) f (l.drop told) (l.take got) false := by
      rcases hq with rfl | rfl <;> rfl
    rw [ej]
    unfold F34_j5
    simp only [cond_false]
    have hd : l.drop told = l.getD told [] :: l.drop (told + 1) := by
      rw [List.drop_eq_getElem_cons ht, List.getD_eq_getElem?_getD, List.getElem?_eq_getElem ht]; rfl
    have h0 : (l.drop told).getD 0 [] = l.getD told [] := by rw [hd]; rfl
    have hb : (bif par told == par got then (bif inb 0 (l.drop told).length then (bif (decide ((l.take got).length + ([((l.drop told).getD 0 ([] : Tx))]).length ≤ 8796093022208)) then (F34_j6 n (par told) f (l.drop told) ((IntKind.wrap .i64 (1 - par got)), (l.take got ++ [((l.drop told).getD 0 ([] : Tx))]))) else none) else none) else (F34_j6 n (par told) f (l.drop told) (par got, l.take got))) = F34_j6 n (par told) f (l.drop told) (par (told + 1), l.take (told + 1)) := by
      rw [par_eq told got h1 h2]
      by_cases e : got = told
      · subst e
        rw [decide_eq_true rfl, inb_true (by omega) (by omega), decide_eq_true (by simp; omega), par_step, h0]
        simp only [cond_true]
        have : l.take (got + 1) = l.take got ++ [l.getD got []] := by
          rw [List.take_add_one, List.getD_eq_getElem?_getD, List.getElem?_eq_getElem ht]; rfl
        rw [this]
      · obtain rfl : got = told + 1 := by omega
        rw [decide_eq_false e]; rfl
    refine Eq.trans hb ?_
    unfold F34_j6
    rw [if_pos hq]
    by_cases e1 : f = 1
    · rw [show (f == 1) = true by simpa using e1, if_pos e1, show subB (l.drop told).length (some 1) none = true by simp [subB]; omega, cloneC n _ (by rw [List.length_drop]; omega), par_step, List.drop_drop]
      rfl
    · rw [show (f == 1) = false by simpa using e1, if_neg e1]; rfl
  · have ej : (bif f != 1 then F34_j5 n (par told) (par got) f (l.drop told) (l.take got) (f != 3) else F34_j5 n (par told) (par got) f (l.drop told) (l.take got) false) = F34_j5 n (par told) (par got) f (l.drop told) (l.take got) true := by
      rw [show (f != 1) = true by rw [bne_iff_ne]; exact fun h => hq (.inl h), show (f != 3) = true by rw [bne_iff_ne]; exact fun h => hq (.inr h)]; rfl
    rw [ej, if_neg (fun h => hq (.inl h)), if_neg hq]; rfl
/-- what was carried -/
def endR (t : Tx) (size told got : Nat) (code used : Int) : Int × Tx × Int × Int × Int := (code, t.take (got * size), ((min (told * size) t.length : Nat) : Int), used, 0)
theorem progEnd (n : Nat) (hn : 5000 < n) (t : Tx) (ht : t.length ≤ 4096) (size : Nat) (h1 : 1 ≤ size) (h2 : size ≤ 64) (hl : (ps size t).length ≤ 200) (told got : Nat) (ho : told ≤ (ps size t).length) (s w code used : Int) :
    F28_j33 n (0, ps size t) (s, w, (ps size t).drop told, (ps size t).take got, code, used) = some (endR t size told got code used) := by
  have hg := good_ps h1 t.length t (Nat.le_refl _)
  have hflat := ps_take h1 got t.length t (Nat.le_refl _)
  have htf := ps_take h1 told t.length t (Nat.le_refl _)
  have ht1 : tot ((ps size t).take got) ≤ 4096 := by
    rw [← flat_len, hflat, List.length_take]; omega
  have htold : tot ((ps size t).take told) = min (told * size) t.length := by rw [← flat_len, htf, List.length_take]
  unfold F28_j33
  have ed : IntKind.wrap .i64 ((((ps size t).length : Nat) : Int) - ((((ps size t).drop told).length : Nat) : Int)) = (told : Int) := by
    rw [List.length_drop, w64 (by omega) (by omega)]; omega
  simp only [ed]
  rw [t110 n _ ht1 (by rw [List.length_take]; omega), hflat, show subB (ps size t).length none (some (told : Int)) = true by simp [subB]; omega]
  simp only [Option.bind_some, cond_true]
  have lt : ((ps size t).take told).length = told := by rw [List.length_take]; omega
  refine loopF_eq (F28_l34 n (0, ps size t) ((ps size t).drop told) code used (t.take (got * size))) (fun _ => some (endR t size told got code used)) (fun d => ∃ x : Nat, d = ((x : Int), ((tot ((ps size t).take x) : Nat) : Int)) ∧ x ≤ told) (fun d => told - d.1.toNat) ?_ n _ ⟨0, rfl, by omega⟩ (by simp; omega)
  rintro kk d ⟨x, rfl, hx⟩ ih
  simp only [F28_l34, ed, Int.toNat_natCast, lt]
  by_cases hxa : x < told
  · have e3 : ((ps size t).take told).getD x [] = (ps size t).getD x [] := by
      rw [List.getD_eq_getElem?_getD, List.getElem?_take_of_lt hxa, ← List.getD_eq_getElem?_getD]
    have e4 := len_tot (ps size t) x
    rw [if_pos (by omega)] at e4
    have e5 := tot_take_le (ps size t) (x + 1)
    have e6 : tot (ps size t) ≤ 4096 := by rw [← flat_len, hg.2]; omega
    rw [decide_eq_true (show (x : Int) < (told : Int) by omega), inb_true (show (0 : Int) ≤ x by omega) (show (x : Int) < (told : Nat) by omega), w64 (n := (x : Int) + 1) (by omega) (by omega), e3, w64 (by omega) (by omega)]
    simp only [cond_true]
    refine ih _ ⟨x + 1, ?_, by omega⟩ (by simp only [Int.toNat_natCast]; omega)
    rw [e4]; simp
  · obtain rfl : x = told := by omega
    rw [decide_eq_false (by omega), htold]; rfl
theorem docEnd' (n : Nat) (t : Tx) (ht : t.length ≤ 4096) (size : Nat) (h2 : size ≤ 64) (told got : Nat) (ho : told ≤ 201) (hg : got ≤ 201) (code used : Int) :
    F36_j82 n t (size : Int) ((told : Int), (got : Int), code, used) = some (endR t size told got code used) := by
  have m1 : got * size ≤ 201 * 64 := Nat.mul_le_mul hg h2
  have m2 : told * size ≤ 201 * 64 := Nat.mul_le_mul ho h2
  have e1 : IntKind.wrap .i64 ((got : Int) * (size : Int)) = ((got * size : Nat) : Int) := by
    have : (got : Int) * (size : Int) = ((got * size : Nat) : Int) := by simp
    rw [this, w64 (by omega) (by omega)]
  have e2 : IntKind.wrap .i64 ((told : Int) * (size : Int)) = ((told * size : Nat) : Int) := by
    have : (told : Int) * (size : Int) = ((told * size : Nat) : Int) := by simp
    rw [this, w64 (by omega) (by omega)]
  have e3 : ∀ a : Nat, (if ((a : Nat) : Int) < ((t.length : Nat) : Int) then ((a : Nat) : Int) else ((t.length : Nat) : Int)) = ((min a t.length : Nat) : Int) := fun a => by
    by_cases q : a < t.length
    · rw [if_pos (by omega), Nat.min_eq_left (by omega)]
    · rw [if_neg (by omega), Nat.min_eq_right (by omega)]
  unfold F36_j82
  simp only [e1, e2, e3, Int.toNat_natCast]
  rw [show subB t.length none (some ((min (got * size) t.length : Nat) : Int)) = true by simp [subB]; omega]
  have e4 : t.take (min (got * size) t.length) = t.take (got * size) := by
    by_cases q : got * size ≤ t.length
    · rw [Nat.min_eq_left q]
    · rw [Nat.min_eq_right (by omega), List.take_length, List.take_of_length_le (by omega)]
  rw [e4]; rfl
end Go.Proofs.YtekmnhplhoejdaaDoor.Ca
