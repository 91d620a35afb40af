/- The law RingPlays, in plain Lean. -/
import Derived.Test.YtkhfbleldchnpaaFw
import Derived.Test.YtkhfbleldchnpaaAm26
namespace Go.Proofs.Ytkhfbleldchnpaa
open Go Go.RowKit
open Classical
set_option linter.unusedVariables false

abbrev Cells := List (Int × Int × Bool)
def cw (c : Cells) (i : Nat) : Int := (c.getD i (0, (0, false))).1
def cb (c : Cells) (i : Nat) : Int := (c.getD i (0, (0, false))).2.1
def cl (c : Cells) (i : Nat) : Bool := (c.getD i (0, (0, false))).2.2
def bit01 (x : Int) : Prop := x = 0 ∨ x = 1
def cellG (c : Cells) (i : Nat) : Prop := cl c i = decide (i + 1 = c.length) ∧ bit01 (cb c i)
def atG (c : Cells) (k : Int) : Prop := 0 ≤ k ∧ k < (c.length : Int) - 1
def goodR (c : Cells) (pa pb ga gb se : Int) : Prop := (∀ i, i < c.length → cellG c i) ∧ bit01 pb ∧ bit01 gb ∧ cw c (c.length - 1) = 0 ∧ atG c pa ∧ atG c ga ∧ atG c se
noncomputable def ringE (c : Cells) (pa pb ga gb se : Int) : Int := if ¬ (3 ≤ c.length ∧ c.length ≤ 64) then 1 else if goodR c pa pb ga gb se then 0 else 4
theorem g78 (n : Nat) (b : Int) : F78 n b = some (decide (bit01 b)) := by
  unfold F78
  by_cases h : b = 0
  · rw [show (b == 0) = true by simpa using h, decide_eq_true (show bit01 b from .inl h)]; rfl
  · rw [show (b == 0) = false by simpa using h]
    by_cases h1 : b = 1
    · rw [show (b == 1) = true by simpa using h1, decide_eq_true (show bit01 b from .inr h1)]; rfl
    · rw [show (b == 1) = false by simpa using h1, decide_eq_false (show ¬ bit01 b from fun hh => hh.elim h h1)]; rfl
theorem g79 (n : Nat) (c : Cells) (k : Int) (h : 3 ≤ c.length) (h2 : c.length ≤ 64) : F79 n k ((c.length : Nat) : Int) = some (decide (atG c k)) := by
  unfold F79
  rw [w64 (by omega) (by omega)]
  by_cases h1 : 0 ≤ k
  · rw [decide_eq_true (show k ≥ 0 from h1)]
    simp only [cond_true, Option.some.injEq]
    rw [Bool.eq_iff_iff, decide_eq_true_iff, decide_eq_true_iff]
    exact ⟨fun e => ⟨h1, e⟩, fun e => e.2⟩
  · rw [decide_eq_false (show ¬ k ≥ 0 from h1), decide_eq_false (show ¬ atG c k from fun hh => h1 hh.1)]; rfl
theorem g19 (n : Nat) (v lo hi : Int) : F19 n v lo hi = some (decide (lo ≤ v ∧ v ≤ hi)) := by
  unfold F19
  by_cases h : lo ≤ v
  · rw [decide_eq_true h]
    simp only [cond_true, Option.some.injEq]
    rw [Bool.eq_iff_iff, decide_eq_true_iff, decide_eq_true_iff]
    exact ⟨fun e => ⟨h, e⟩, fun e => e.2⟩
  · rw [decide_eq_false h, decide_eq_false (show ¬ (lo ≤ v ∧ v ≤ hi) from fun hh => h hh.1)]; rfl
section
variable {c : Cells} {pa pb ga gb se : Int}
theorem g36 (n : Nat) (hn : 100 < n) : F36 n c pa pb ga gb se = some (ringE c pa pb ga gb se) := by
  unfold F36 ringE
  by_cases h3 : c.length < 3
  · rw [decide_eq_true (show ((c.length : Nat) : Int) < 3 by omega), if_pos (by omega)]; rfl
  rw [decide_eq_false (show ¬ ((c.length : Nat) : Int) < 3 by omega)]
  by_cases h64 : 64 < c.length
  · rw [decide_eq_true (show ((c.length : Nat) : Int) > 64 by omega), if_pos (by omega)]; rfl
  rw [decide_eq_false (show ¬ ((c.length : Nat) : Int) > 64 by omega), if_neg (by omega)]
  simp only [cond_false]
  refine loopF_eq (F36_l2 n c pa pb ga gb se) (fun _ => some (if goodR c pa pb ga gb se then 0 else 4)) (fun x => ∃ k : Nat, x = (k : Int) ∧ k ≤ c.length ∧ ∀ i, i < k → cellG c i) (fun x => c.length - x.toNat) ?_ n 0 ⟨0, rfl, by omega, fun j hj => by omega⟩ (by simp; omega)
  rintro kk x ⟨k, rfl, hk, hall⟩ ih
  have no : ¬ goodR c pa pb ga gb se → some (4 : Int) = some (if goodR c pa pb ga gb se then 0 else 4) := fun h => by rw [if_neg h]
  simp only [F36_l2, Int.toNat_natCast, g78, g79 n c _ (by omega) (by omega), Option.bind_some]
  by_cases hka : k < c.length
  · rw [decide_eq_true (show (k : Int) < (c.length : Int) by omega), inb_true (show (0 : Int) ≤ k by omega) (show (k : Int) < c.length by omega), w64 (n := ((c.length : Nat) : Int) - 1) (by omega) (by omega), w64 (n := (k : Int) + 1) (by omega) (by omega)]
    simp only [cond_true]
    show (bif !(cl c k == ((k : Int) == ((c.length : Nat) : Int) - 1)) then some 4 else bif !decide (bit01 (cb c k)) then some 4 else kk ((k : Int) + 1)) = _
    have e : ((k : Int) == ((c.length : Nat) : Int) - 1) = decide (k + 1 = c.length) := by
      rw [Bool.eq_iff_iff, beq_iff_eq, decide_eq_true_iff]; omega
    rw [e]
    by_cases g1 : cl c k = decide (k + 1 = c.length)
    · rw [show (cl c k == decide (k + 1 = c.length)) = true by simpa using g1]
      by_cases g2 : bit01 (cb c k)
      · rw [decide_eq_true g2]
        simp only [Bool.not_true, cond_false]
        exact ih _ ⟨k + 1, by omega, by omega, fun j hj => by
          rcases Nat.lt_succ_iff_lt_or_eq.1 hj with h | h
          · exact hall j h
          · subst h; exact ⟨g1, g2⟩⟩ (by simp only [Int.toNat_natCast]; omega)
      · rw [decide_eq_false g2]; exact no (fun h => g2 (h.1 k hka).2)
    · rw [show (cl c k == decide (k + 1 = c.length)) = false by simpa using g1]; exact no (fun h => g1 (h.1 k hka).1)
  · rw [decide_eq_false (show ¬ (k : Int) < (c.length : Int) by omega), w64 (n := ((c.length : Nat) : Int) - 1) (by omega) (by omega), inb_true (show (0 : Int) ≤ ((c.length : Nat) : Int) - 1 by omega) (show ((c.length : Nat) : Int) - 1 < c.length by omega)]
    simp only [cond_false, cond_true]
    rw [show (((c.length : Nat) : Int) - 1).toNat = c.length - 1 by omega]
    show (bif !decide (bit01 pb) then some 4 else bif !decide (bit01 gb) then some 4 else bif cw c (c.length - 1) != 0 then some 4 else bif !decide (atG c pa) then some 4 else bif !decide (atG c ga) then some 4 else bif !decide (atG c se) then some 4 else some 0) = _
    by_cases q1 : bit01 pb
    · rw [decide_eq_true q1]
      by_cases q2 : bit01 gb
      · rw [decide_eq_true q2]
        by_cases q3 : cw c (c.length - 1) = 0
        · rw [q3]
          by_cases q4 : atG c pa
          · rw [decide_eq_true q4]
            by_cases q5 : atG c ga
            · rw [decide_eq_true q5]
              by_cases q6 : atG c se
              · rw [decide_eq_true q6, if_pos ⟨fun i hi => hall i (by omega), q1, q2, q3, q4, q5, q6⟩]; rfl
              · rw [decide_eq_false q6]; exact no (fun h => q6 h.2.2.2.2.2.2)
            · rw [decide_eq_false q5]; exact no (fun h => q5 h.2.2.2.2.2.1)
          · rw [decide_eq_false q4]; exact no (fun h => q4 h.2.2.2.2.1)
        · rw [show (cw c (c.length - 1) != 0) = true by simpa using q3]; exact no (fun h => q3 h.2.2.2.1)
      · rw [decide_eq_false q2]; exact no (fun h => q2 h.2.2.1)
    · rw [decide_eq_false q1]; exact no (fun h => q1 h.2.1)
theorem g80 (n : Nat) (a : Cells) (ha : a.length ≤ 1000) (hn : 1001 < n) : F80 n a a = some true := by
  unfold F80
  simp only [bne_self_eq_false, cond_false]
  refine loopF_eq (F80_l2 n a a) (fun _ => some true) (fun x => ∃ k : Nat, x = (k : Int) ∧ k ≤ a.length) (fun x => a.length - x.toNat) ?_ n 0 ⟨0, rfl, by omega⟩ (by simp; omega)
  rintro kk x ⟨k, rfl, hk⟩ ih
  simp only [F80_l2, Int.toNat_natCast, Sh.beq_self, Bool.not_true, cond_false]
  by_cases hka : k < a.length
  · rw [decide_eq_true (show (k : Int) < (a.length : Int) by omega), inb_true (show (0 : Int) ≤ k by omega) (show (k : Int) < a.length by omega), w64 (n := (k : Int) + 1) (by omega) (by omega)]
    simp only [cond_true]
    exact ih ((k : Int) + 1) ⟨k + 1, by omega, by omega⟩ (by simp only [Int.toNat_natCast]; omega)
  · rw [decide_eq_false (show ¬ (k : Int) < (a.length : Int) by omega)]; rfl
theorem g38 (n : Nat) (a : Cells) (ha : a.length ≤ 1000) (hn : 1001 < n) (x1 x2 x3 x4 x5 : Int) : F38 n a x1 x2 x3 x4 x5 a x1 x2 x3 x4 x5 = some true := by
  unfold F38
  simp only [Sh.beq_self, BEq.rfl, cond_true]
  rw [g80 n a ha hn]; rfl
theorem ring0 (h : ringE c pa pb ga gb se = 0) : (3 ≤ c.length ∧ c.length ≤ 64) ∧ goodR c pa pb ga gb se := by
  unfold ringE at h
  by_cases h1 : 3 ≤ c.length ∧ c.length ≤ 64
  · rw [if_neg (fun hh => hh h1)] at h
    by_cases h2 : goodR c pa pb ga gb se
    · exact ⟨h1, h2⟩
    · rw [if_neg h2] at h; omega
  · rw [if_pos h1] at h; omega
end

/-- numbers in a ring of places -/
theorem div_step (m P : Nat) (hP : 0 < P) : (m % P + 1 < P → (m + 1) % P = m % P + 1 ∧ (m + 1) / P = m / P) ∧ (m % P + 1 = P → (m + 1) % P = 0 ∧ (m + 1) / P = m / P + 1) := by
  have e := Nat.div_add_mod m P
  have hr := Nat.mod_lt m hP
  constructor
  · intro h
    have e1 : m + 1 = P * (m / P) + (m % P + 1) := by omega
    generalize m / P = q at *
    generalize m % P = r at *
    rw [e1, Nat.mul_add_mod, Nat.mul_add_div hP, Nat.mod_eq_of_lt h, Nat.div_eq_of_lt h]
    exact ⟨rfl, rfl⟩
  · intro h
    have e1 : m + 1 = P * (m / P + 1) := by rw [Nat.mul_add]; omega
    generalize m / P = q at *
    rw [e1, Nat.mul_mod_right, Nat.mul_div_cancel_left _ hP]
    exact ⟨rfl, rfl⟩
theorem same_res (a b P : Nat) (h : a % P = b % P) (h1 : a < b + P) (h2 : b < a + P) : a = b := by
  have ea := Nat.div_add_mod a P
  have eb := Nat.div_add_mod b P
  have t : ∀ x y : Nat, x < y → P * x + P ≤ P * y := fun x y hxy => by
    have := Nat.mul_le_mul_left P (show x + 1 ≤ y from hxy)
    rwa [Nat.mul_add, Nat.mul_one] at this
  rcases Nat.lt_trichotomy (a / P) (b / P) with q | q | q
  · have := t _ _ q; omega
  · rw [q] at ea; omega
  · have := t _ _ q; omega
theorem mod_shift (a b P : Nat) (hP : 0 < P) (h : a % P = b % P) (hab : a < b) : a + P ≤ b := by
  by_cases q : b < a + P
  · have := same_res a b P h (by omega) q; omega
  · omega
abbrev zC : Int × Int × Bool := (0, (0, false))
def bitK (P k : Nat) : Int := (((k / P + 1) % 2 : Nat) : Int)
def CellOK (P : Nat) (all : List Int) (m p : Nat) (x : Int × Int × Bool) : Prop := (p < m → ∃ k, k < m ∧ m ≤ k + P ∧ k % P = p ∧ x = (all.getD k 0, bitK P k, false)) ∧ (m ≤ p → x = zC)
def RingSt (P : Nat) (all : List Int) (c : Cells) : Prop := c.length = P + 1 ∧ (∀ p, p < P → CellOK P all all.length p (c.getD p zC)) ∧ c.getD P zC = (0, ((all.length / P % 2 : Nat) : Int), true)
theorem bitK01 (P k : Nat) : bit01 (bitK P k) := by
  unfold bit01 bitK
  have : (k / P + 1) % 2 < 2 := Nat.mod_lt _ (by omega)
  omega
theorem cellOK_one {P : Nat} {all : List Int} {m p : Nat} {x y : Int × Int × Bool} (hx : CellOK P all m p x) (hy : CellOK P all m p y) : x = y := by
  by_cases h : p < m
  · obtain ⟨k, a1, a2, a3, rfl⟩ := hx.1 h
    obtain ⟨j, b1, b2, b3, rfl⟩ := hy.1 h
    obtain rfl := same_res k j P (by omega) (by omega) (by omega)
    rfl
  · rw [hx.2 (by omega), hy.2 (by omega)]
theorem ringSt_one {P : Nat} {all : List Int} {c d : Cells} (hc : RingSt P all c) (hd : RingSt P all d) : c = d := by
  refine List.ext_getElem (by rw [hc.1, hd.1]) fun i h1 h2 => ?_
  have e1 : c[i] = c.getD i zC := by rw [List.getD_eq_getElem?_getD, List.getElem?_eq_getElem h1]; rfl
  have e2 : d[i] = d.getD i zC := by rw [List.getD_eq_getElem?_getD, List.getElem?_eq_getElem h2]; rfl
  rw [e1, e2]
  have := hc.1
  by_cases h : i < P
  · exact cellOK_one (hc.2.1 i h) (hd.2.1 i h)
  · obtain rfl : i = P := by omega
    rw [hc.2.2, hd.2.2]
theorem cset (c : Cells) (i j : Nat) (v : Int × Int × Bool) (hi : i < c.length) : (c.set i v).getD j zC = if i = j then v else c.getD j zC := by
  rw [List.getD_eq_getElem?_getD, List.getElem?_set]
  by_cases h : i = j
  · subst h; simp [hi]
  · simp [h, List.getD_eq_getElem?_getD]
theorem app_old (all : List Int) (w : Int) (k : Nat) (h : k < all.length) : (all ++ [w]).getD k 0 = all.getD k 0 := by
  rw [List.getD_eq_getElem?_getD, List.getElem?_append_left h, List.getD_eq_getElem?_getD]
theorem app_new (all : List Int) (w : Int) : (all ++ [w]).getD all.length 0 = w := by
  rw [List.getD_eq_getElem?_getD, List.getElem?_append_right (Nat.le_refl _)]; simp
theorem put_cell {P : Nat} (hP : 0 < P) {all : List Int} {c : Cells} (w : Int) (hl : c.length = P + 1) (hc : ∀ p, p < P → CellOK P all all.length p (c.getD p zC)) (p : Nat) (hp : p < P) :
    CellOK P (all ++ [w]) (all.length + 1) p ((c.set (all.length % P) (w, bitK P all.length, false)).getD p zC) := by
  have hm := Nat.mod_lt all.length hP
  rw [cset c _ p _ (by omega)]
  by_cases q : all.length % P = p
  · rw [if_pos q]
    refine ⟨fun _ => ⟨all.length, by omega, by omega, q, by rw [app_new]⟩, fun h => ?_⟩
    rw [Nat.mod_eq_of_lt (by omega)] at q
    omega
  · rw [if_neg q]
    refine ⟨fun h => ?_, fun h => (hc p hp).2 (by omega)⟩
    have hpm : p < all.length := by
      by_cases h2 : p = all.length
      · subst h2; exact absurd (Nat.mod_eq_of_lt hp) q
      · omega
    obtain ⟨k, a1, a2, a3, a4⟩ := (hc p hp).1 hpm
    refine ⟨k, by omega, ?_, a3, by rw [app_old all w k a1]; exact a4⟩
    by_cases h3 : all.length = k + P
    · rw [h3, Nat.add_mod_right] at q; exact absurd a3 q
    · omega
/-- the ring behind a word -/
theorem put_ring {P : Nat} (hP : 0 < P) {all : List Int} {c : Cells} (w : Int) (h : RingSt P all c) :
    RingSt P (all ++ [w]) (if all.length % P + 1 = P then (c.set (all.length % P) (w, bitK P all.length, false)).set P (0, bitK P all.length, true) else c.set (all.length % P) (w, bitK P all.length, false)) := by
  obtain ⟨hl, hc, hp⟩ := h
  have hm := Nat.mod_lt all.length hP
  have el : (all ++ [w]).length = all.length + 1 := by simp
  obtain ⟨d1, d2⟩ := div_step all.length P hP
  by_cases q : all.length % P + 1 = P
  · rw [if_pos q]
    refine ⟨by simpa using hl, fun p hp' => ?_, ?_⟩
    · rw [el, cset _ P p _ (by simp; omega), if_neg (by omega)]
      exact put_cell hP w hl hc p hp'
    · rw [el, cset _ P P _ (by simp; omega), if_pos rfl, (d2 q).2]; rfl
  · rw [if_neg q]
    refine ⟨by simpa using hl, fun p hp' => ?_, ?_⟩
    · rw [el]; exact put_cell hP w hl hc p hp'
    · rw [el, cset _ _ P _ (by omega), if_neg (by omega), hp, (d1 (by omega)).2]
def markP (P k : Nat) : Int × Int := (((k % P : Nat) : Int), bitK P k)
theorem good_ring {P : Nat} (hP : 2 ≤ P) (hP2 : P ≤ 63) {all : List Int} {c : Cells} (h : RingSt P all c) (a b s : Nat) : ringE c (markP P a).1 (markP P a).2 (markP P b).1 (markP P b).2 ((s % P : Nat) : Int) = 0 := by
  obtain ⟨hl, hc, hp⟩ := h
  have at' : ∀ k : Nat, atG c ((k % P : Nat) : Int) := fun k => by
    have := Nat.mod_lt k (show 0 < P by omega)
    unfold atG; omega
  unfold ringE
  rw [if_neg (by omega), if_pos]
  refine ⟨fun i hi => ?_, bitK01 P a, bitK01 P b, ?_, at' a, at' b, at' s⟩
  · unfold cellG cl cb
    by_cases q : i < P
    · rw [decide_eq_false (by omega)]
      by_cases q2 : i < all.length
      · obtain ⟨k, _, _, _, e⟩ := (hc i q).1 q2
        have e' : c.getD i (0, (0, false)) = _ := e
        rw [e']; exact ⟨rfl, bitK01 P k⟩
      · have e' : c.getD i (0, (0, false)) = _ := (hc i q).2 (by omega)
        rw [e']; exact ⟨rfl, .inl rfl⟩
    · obtain rfl : i = P := by omega
      have e' : c.getD i (0, (0, false)) = _ := hp
      rw [e', decide_eq_true (by omega)]
      refine ⟨rfl, ?_⟩
      unfold bit01
      show ((all.length / i % 2 : Nat) : Int) = 0 ∨ ((all.length / i % 2 : Nat) : Int) = 1
      have : all.length / i % 2 < 2 := Nat.mod_lt _ (by omega)
      omega
  · unfold cw
    rw [show c.length - 1 = P by omega]
    have e' : c.getD P (0, (0, false)) = _ := hp
    rw [e']
theorem adv (n : Nat) (P m : Nat) (hP : 2 ≤ P) (hP2 : P ≤ 63) : F76 n (markP P m).1 (markP P m).2 ((P + 1 : Nat) : Int) = some (markP P (m + 1)) := by
  unfold F76 markP
  have hm := Nat.mod_lt m (show 0 < P by omega)
  have h01 := bitK01 P m
  obtain ⟨d1, d2⟩ := div_step m P (by omega)
  rw [w64 (n := ((P + 1 : Nat) : Int) - 1) (by omega) (by omega)]
  simp only
  rw [w64 (n := ((m % P : Nat) : Int) + 1) (by omega) (by omega)]
  by_cases q : m % P + 1 = P
  · obtain ⟨e1, e2⟩ := d2 q
    rw [show (((m % P : Nat) : Int) + 1 == ((P + 1 : Nat) : Int) - 1) = true by rw [beq_iff_eq]; omega, e1]
    simp only [cond_true]
    have : IntKind.wrap .i64 (1 - bitK P m) = bitK P (m + 1) := by
      unfold bit01 at h01
      rw [w64 (by omega) (by omega)]
      unfold bitK at *
      rw [e2]; omega
    rw [this]; rfl
  · obtain ⟨e1, e2⟩ := d1 (by omega)
    rw [show (((m % P : Nat) : Int) + 1 == ((P + 1 : Nat) : Int) - 1) = false by rw [beq_eq_false_iff_ne]; omega, e1]
    simp only [cond_false]
    have : bitK P (m + 1) = bitK P m := by unfold bitK; rw [e2]
    rw [this]; rfl
end Go.Proofs.Ytkhfbleldchnpaa
