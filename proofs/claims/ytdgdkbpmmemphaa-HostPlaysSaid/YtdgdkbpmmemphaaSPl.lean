import Derived.Test.YtdgdkbpmmemphaaFhp
import Derived.Test.YtdgdkbpmmemphaaAm26
/- The law RingPlays, in plain Lean. -/
namespace Go.Proofs.Ytdgdkbpmmemphaa.Rp
open Go Go.RowKit
open Classical
set_option linter.unusedVariables false

abbrev Cells := List (Int × Int × Bool)
def cw (c : Cells) (i : Nat) : Int := (c.getD i (0, (0, false))).1
def cb (c : Cells) (i : Nat) : Int := (c.getD i (0, (0, false))).2.1
def cl (c : Cells) (i : Nat) : Bool := (c.getD i (0, (0, false))).2.2
def bit01 (x : Int) : Prop := x = 0 ∨ x = 1
def cellG (c : Cells) (i : Nat) : Prop := cl c i = decide (i + 1 = c.length) ∧ bit01 (cb c i)
def atG (c : Cells) (k : Int) : Prop := 0 ≤ k ∧ k < (c.length : Int) - 1
def goodR (c : Cells) (pa pb ga gb se : Int) : Prop := (∀ i, i < c.length → cellG c i) ∧ bit01 pb ∧ bit01 gb ∧ cw c (c.length - 1) = 0 ∧ atG c pa ∧ atG c ga ∧ atG c se
noncomputable def ringE (c : Cells) (pa pb ga gb se : Int) : Int := if ¬ (3 ≤ c.length ∧ c.length ≤ 64) then 1 else if goodR c pa pb ga gb se then 0 else 4
theorem g78 (n : Nat) (b : Int) : F103 n b = some (decide (bit01 b)) := by
  unfold F103
  by_cases h : b = 0
  · rw [show (b == 0) = true by simpa using h, decide_eq_true (show bit01 b from .inl h)]; rfl
  · rw [show (b == 0) = false by simpa using h]
    by_cases h1 : b = 1
    · rw [show (b == 1) = true by simpa using h1, decide_eq_true (show bit01 b from .inr h1)]; rfl
    · rw [show (b == 1) = false by simpa using h1, decide_eq_false (show ¬ bit01 b from fun hh => hh.elim h h1)]; rfl
theorem g79 (n : Nat) (c : Cells) (k : Int) (h : 3 ≤ c.length) (h2 : c.length ≤ 64) : F104 n k ((c.length : Nat) : Int) = some (decide (atG c k)) := by
  unfold F104
  rw [w64 (by omega) (by omega)]
  by_cases h1 : 0 ≤ k
  · rw [decide_eq_true (show k ≥ 0 from h1)]
    simp only [cond_true, Option.some.injEq]
    rw [Bool.eq_iff_iff, decide_eq_true_iff, decide_eq_true_iff]
    exact ⟨fun e => ⟨h1, e⟩, fun e => e.2⟩
  · rw [decide_eq_false (show ¬ k ≥ 0 from h1), decide_eq_false (show ¬ atG c k from fun hh => h1 hh.1)]; rfl
section
variable {c : Cells} {pa pb ga gb se : Int}
theorem g36 (n : Nat) (hn : 100 < n) : F77 n c pa pb ga gb se = some (ringE c pa pb ga gb se) := by
  unfold F77 ringE
  by_cases h3 : c.length < 3
  · rw [decide_eq_true (show ((c.length : Nat) : Int) < 3 by omega), if_pos (by omega)]; rfl
  rw [decide_eq_false (show ¬ ((c.length : Nat) : Int) < 3 by omega)]
  by_cases h64 : 64 < c.length
  · rw [decide_eq_true (show ((c.length : Nat) : Int) > 64 by omega), if_pos (by omega)]; rfl
  rw [decide_eq_false (show ¬ ((c.length : Nat) : Int) > 64 by omega), if_neg (by omega)]
  simp only [cond_false]
  refine loopF_eq (F77_l2 n c pa pb ga gb se) (fun _ => some (if goodR c pa pb ga gb se then 0 else 4)) (fun x => ∃ k : Nat, x = (k : Int) ∧ k ≤ c.length ∧ ∀ i, i < k → cellG c i) (fun x => c.length - x.toNat) ?_ n 0 ⟨0, rfl, by omega, fun j hj => by omega⟩ (by simp; omega)
  rintro kk x ⟨k, rfl, hk, hall⟩ ih
  have no : ¬ goodR c pa pb ga gb se → some (4 : Int) = some (if goodR c pa pb ga gb se then 0 else 4) := fun h => by rw [if_neg h]
  simp only [F77_l2, Int.toNat_natCast, g78, g79 n c _ (by omega) (by omega), Option.bind_some]
  by_cases hka : k < c.length
  · rw [decide_eq_true (show (k : Int) < (c.length : Int) by omega), inb_true (show (0 : Int) ≤ k by omega) (show (k : Int) < c.length by omega), w64 (n := ((c.length : Nat) : Int) - 1) (by omega) (by omega), w64 (n := (k : Int) + 1) (by omega) (by omega)]
    simp only [cond_true]
    show (bif !(cl c k == ((k : Int) == ((c.length : Nat) : Int) - 1)) then some 4 else bif !decide (bit01 (cb c k)) then some 4 else kk ((k : Int) + 1)) = _
    have e : ((k : Int) == ((c.length : Nat) : Int) - 1) = decide (k + 1 = c.length) := by
      rw [Bool.eq_iff_iff, beq_iff_eq, decide_eq_true_iff]; omega
    rw [e]
    by_cases g1 : cl c k = decide (k + 1 = c.length)
    · rw [show (cl c k == decide (k + 1 = c.length)) = true by simpa using g1]
      by_cases g2 : bit01 (cb c k)
      · rw [decide_eq_true g2]
        simp only [Bool.not_true, cond_false]
        exact ih _ ⟨k + 1, by omega, by omega, fun j hj => by
          rcases Nat.lt_succ_iff_lt_or_eq.1 hj with h | h
          · exact hall j h
          · subst h; exact ⟨g1, g2⟩⟩ (by simp only [Int.toNat_natCast]; omega)
      · rw [decide_eq_false g2]; exact no (fun h => g2 (h.1 k hka).2)
    · rw [show (cl c k == decide (k + 1 = c.length)) = false by simpa using g1]; exact no (fun h => g1 (h.1 k hka).1)
  · rw [decide_eq_false (show ¬ (k : Int) < (c.length : Int) by omega), w64 (n := ((c.length : Nat) : Int) - 1) (by omega) (by omega), inb_true (show (0 : Int) ≤ ((c.length : Nat) : Int) - 1 by omega) (show ((c.length : Nat) : Int) - 1 < c.length by omega)]
    simp only [cond_false, cond_true]
    rw [show (((c.length : Nat) : Int) - 1).toNat = c.length - 1 by omega]
    show (bif !decide (bit01 pb) then some 4 else bif !decide (bit01 gb) then some 4 else bif cw c (c.length - 1) != 0 then some 4 else bif !decide (atG c pa) then some 4 else bif !decide (atG c ga) then some 4 else bif !decide (atG c se) then some 4 else some 0) = _
    by_cases q1 : bit01 pb
    · rw [decide_eq_true q1]
      by_cases q2 : bit01 gb
      · rw [decide_eq_true q2]
        by_cases q3 : cw c (c.length - 1) = 0
        · rw [q3]
          by_cases q4 : atG c pa
          · rw [decide_eq_true q4]
            by_cases q5 : atG c ga
            · rw [decide_eq_true q5]
              by_cases q6 : atG c se
              · rw [decide_eq_true q6, if_pos ⟨fun i hi => hall i (by omega), q1, q2, q3, q4, q5, q6⟩]; rfl
              · rw [decide_eq_false q6]; exact no (fun h => q6 h.2.2.2.2.2.2)
            · rw [decide_eq_false q5]; exact no (fun h => q5 h.2.2.2.2.2.1)
          · rw [decide_eq_false q4]; exact no (fun h => q4 h.2.2.2.2.1)
        · rw [show (cw c (c.length - 1) != 0) = true by simpa using q3]; exact no (fun h => q3 h.2.2.2.1)
      · rw [decide_eq_false q2]; exact no (fun h => q2 h.2.2.1)
    · rw [decide_eq_false q1]; exact no (fun h => q1 h.2.1)
theorem ring0 (h : ringE c pa pb ga gb se = 0) : (3 ≤ c.length ∧ c.length ≤ 64) ∧ goodR c pa pb ga gb se := by
  unfold ringE at h
  by_cases h1 : 3 ≤ c.length ∧ c.length ≤ 64
  · rw [if_neg (fun hh => hh h1)] at h
    by_cases h2 : goodR c pa pb ga gb se
    · exact ⟨h1, h2⟩
    · rw [if_neg h2] at h; omega
  · rw [if_pos h1] at h; omega
end

/-- numbers in a ring of places -/
theorem div_step (m P : Nat) (hP : 0 < P) : (m % P + 1 < P → (m + 1) % P = m % P + 1 ∧ (m + 1) / P = m / P) ∧ (m % P + 1 = P → (m + 1) % P = 0 ∧ (m + 1) / P = m / P + 1) := by
  have e := Nat.div_add_mod m P
  have hr := Nat.mod_lt m hP
  constructor
  · intro h
    have e1 : m + 1 = P * (m / P) + (m % P + 1) := by omega
    generalize m / P = q at *
    generalize m % P = r at *
    rw [e1, Nat.mul_add_mod, Nat.mul_add_div hP, Nat.mod_eq_of_lt h, Nat.div_eq_of_lt h]
    exact ⟨rfl, rfl⟩
  · intro h
    have e1 : m + 1 = P * (m / P + 1) := by rw [Nat.mul_add]; omega
    generalize m / P = q at *
    rw [e1, Nat.mul_mod_right, Nat.mul_div_cancel_left _ hP]
    exact ⟨rfl, rfl⟩
theorem same_res (a b P : Nat) (h : a % P = b % P) (h1 : a < b + P) (h2 : b < a + P) : a = b := by
  have ea := Nat.div_add_mod a P
  have eb := Nat.div_add_mod b P
  have t : ∀ x y : Nat, x < y → P * x + P ≤ P * y := fun x y hxy => by
    have := Nat.mul_le_mul_left P (show x + 1 ≤ y from hxy)
    rwa [Nat.mul_add, Nat.mul_one] at this
  rcases Nat.lt_trichotomy (a / P) (b / P) with q | q | q
  · have := t _ _ q; omega
  · rw [q] at ea; omega
  · have := t _ _ q; omega
theorem mod_shift (a b P : Nat) (hP : 0 < P) (h : a % P = b % P) (hab : a < b) : a + P ≤ b := by
  by_cases q : b < a + P
  · have := same_res a b P h (by omega) q; omega
  · omega
abbrev zC : Int × Int × Bool := (0, (0, false))
def bitK (P k : Nat) : Int := (((k / P + 1) % 2 : Nat) : Int)
def CellOK (P : Nat) (all : List Int) (m p : Nat) (x : Int × Int × Bool) : Prop := (p < m → ∃ k, k < m ∧ m ≤ k + P ∧ k % P = p ∧ x = (all.getD k 0, bitK P k, false)) ∧ (m ≤ p → x = zC)
def RingSt (P : Nat) (all : List Int) (c : Cells) : Prop := c.length = P + 1 ∧ (∀ p, p < P → CellOK P all all.length p (c.getD p zC)) ∧ c.getD P zC = (0, ((all.length / P % 2 : Nat) : Int), true)
theorem bitK01 (P k : Nat) : bit01 (bitK P k) := by
  unfold bit01 bitK
  have : (k / P + 1) % 2 < 2 := Nat.mod_lt _ (by omega)
  omega
theorem cellOK_one {P : Nat} {all : List Int} {m p : Nat} {x y : Int × Int × Bool} (hx : CellOK P all m p x) (hy : CellOK P all m p y) : x = y := by
  by_cases h : p < m
  · obtain ⟨k, a1, a2, a3, rfl⟩ := hx.1 h
    obtain ⟨j, b1, b2, b3, rfl⟩ := hy.1 h
    obtain rfl := same_res k j P (by omega) (by omega) (by omega)
    rfl
  · rw [hx.2 (by omega), hy.2 (by omega)]
theorem ringSt_one {P : Nat} {all : List Int} {c d : Cells} (hc : RingSt P all c) (hd : RingSt P all d) : c = d := by
  refine List.ext_getElem (by rw [hc.1, hd.1]) fun i h1 h2 => ?_
  have e1 : c[i] = c.getD i zC := by rw [List.getD_eq_getElem?_getD, List.getElem?_eq_getElem h1]; rfl
  have e2 : d[i] = d.getD i zC := by rw [List.getD_eq_getElem?_getD, List.getElem?_eq_getElem h2]; rfl
  rw [e1, e2]
  have := hc.1
  by_cases h : i < P
  · exact cellOK_one (hc.2.1 i h) (hd.2.1 i h)
  · obtain rfl : i = P := by omega
    rw [hc.2.2, hd.2.2]
theorem cset (c : Cells) (i j : Nat) (v : Int × Int × Bool) (hi : i < c.length) : (c.set i v).getD j zC = if i = j then v else c.getD j zC := by
  rw [List.getD_eq_getElem?_getD, List.getElem?_set]
  by_cases h : i = j
  · subst h; simp [hi]
  · simp [h, List.getD_eq_getElem?_getD]
theorem app_old (all : List Int) (w : Int) (k : Nat) (h : k < all.length) : (all ++ [w]).getD k 0 = all.getD k 0 := by
  rw [List.getD_eq_getElem?_getD, List.getElem?_append_left h, List.getD_eq_getElem?_getD]
theorem app_new (all : List Int) (w : Int) : (all ++ [w]).getD all.length 0 = w := by
  rw [List.getD_eq_getElem?_getD, List.getElem?_append_right (Nat.le_refl _)]; simp
theorem put_cell {P : Nat} (hP : 0 < P) {all : List Int} {c : Cells} (w : Int) (hl : c.length = P + 1) (hc : ∀ p, p < P → CellOK P all all.length p (c.getD p zC)) (p : Nat) (hp : p < P) :
    CellOK P (all ++ [w]) (all.length + 1) p ((c.set (all.length % P) (w, bitK P all.length, false)).getD p zC) := by
  have hm := Nat.mod_lt all.length hP
  rw [cset c _ p _ (by omega)]
  by_cases q : all.length % P = p
  · rw [if_pos q]
    refine ⟨fun _ => ⟨all.length, by omega, by omega, q, by rw [app_new]⟩, fun h => ?_⟩
    rw [Nat.mod_eq_of_lt (by omega)] at q
    omega
  · rw [if_neg q]
    refine ⟨fun h => ?_, fun h => (hc p hp).2 (by omega)⟩
    have hpm : p < all.length := by
      by_cases h2 : p = all.length
      · subst h2; exact absurd (Nat.mod_eq_of_lt hp) q
      · omega
    obtain ⟨k, a1, a2, a3, a4⟩ := (hc p hp).1 hpm
    refine ⟨k, by omega, ?_, a3, by rw [app_old all w k a1]; exact a4⟩
    by_cases h3 : all.length = k + P
    · rw [h3, Nat.add_mod_right] at q; exact absurd a3 q
    · omega
/-- the ring behind a word -/
theorem put_ring {P : Nat} (hP : 0 < P) {all : List Int} {c : Cells} (w : Int) (h : RingSt P all c) :
    RingSt P (all ++ [w]) (if all.length % P + 1 = P then (c.set (all.length % P) (w, bitK P all.length, false)).set P (0, bitK P all.length, true) else c.set (all.length % P) (w, bitK P all.length, false)) := by
  obtain ⟨hl, hc, hp⟩ := h
  have hm := Nat.mod_lt all.length hP
  have el : (all ++ [w]).length = all.length + 1 := by simp
  obtain ⟨d1, d2⟩ := div_step all.length P hP
  by_cases q : all.length % P + 1 = P
  · rw [if_pos q]
    refine ⟨by simpa using hl, fun p hp' => ?_, ?_⟩
    · rw [el, cset _ P p _ (by simp; omega), if_neg (by omega)]
      exact put_cell hP w hl hc p hp'
    · rw [el, cset _ P P _ (by simp; omega), if_pos rfl, (d2 q).2]; rfl
  · rw [if_neg q]
    refine ⟨by simpa using hl, fun p hp' => ?_, ?_⟩
    · rw [el]; exact put_cell hP w hl hc p hp'
    · rw [el, cset _ _ P _ (by omega), if_neg (by omega), hp, (d1 (by omega)).2]
def markP (P k : Nat) : Int × Int := (((k % P : Nat) : Int), bitK P k)
theorem good_ring {P : Nat} (hP : 2 ≤ P) (hP2 : P ≤ 63) {all : List Int} {c : Cells} (h : RingSt P all c) (a b s : Nat) : ringE c (markP P a).1 (markP P a).2 (markP P b).1 (markP P b).2 ((s % P : Nat) : Int) = 0 := by
  obtain ⟨hl, hc, hp⟩ := h
  have at' : ∀ k : Nat, atG c ((k % P : Nat) : Int) := fun k => by
    have := Nat.mod_lt k (show 0 < P by omega)
    unfold atG; omega
  unfold ringE
  rw [if_neg (by omega), if_pos]
  refine ⟨fun i hi => ?_, bitK01 P a, bitK01 P b, ?_, at' a, at' b, at' s⟩
  · unfold cellG cl cb
    by_cases q : i < P
    · rw [decide_eq_false (by omega)]
      by_cases q2 : i < all.length
      · obtain ⟨k, _, _, _, e⟩ := (hc i q).1 q2
        have e' : c.getD i (0, (0, false)) = _ := e
        rw [e']; exact ⟨rfl, bitK01 P k⟩
      · have e' : c.getD i (0, (0, false)) = _ := (hc i q).2 (by omega)
        rw [e']; exact ⟨rfl, .inl rfl⟩
    · obtain rfl : i = P := by omega
      have e' : c.getD i (0, (0, false)) = _ := hp
      rw [e', decide_eq_true (by omega)]
      refine ⟨rfl, ?_⟩
      unfold bit01
      show ((all.length / i % 2 : Nat) : Int) = 0 ∨ ((all.length / i % 2 : Nat) : Int) = 1
      have : all.length / i % 2 < 2 := Nat.mod_lt _ (by omega)
      omega
  · unfold cw
    rw [show c.length - 1 = P by omega]
    have e' : c.getD P (0, (0, false)) = _ := hp
    rw [e']
theorem adv (n : Nat) (P m : Nat) (hP : 2 ≤ P) (hP2 : P ≤ 63) : F79 n (markP P m).1 (markP P m).2 ((P + 1 : Nat) : Int) = some (markP P (m + 1)) := by
  unfold F79 markP
  have hm := Nat.mod_lt m (show 0 < P by omega)
  have h01 := bitK01 P m
  obtain ⟨d1, d2⟩ := div_step m P (by omega)
  rw [w64 (n := ((P + 1 : Nat) : Int) - 1) (by omega) (by omega)]
  simp only
  rw [w64 (n := ((m % P : Nat) : Int) + 1) (by omega) (by omega)]
  by_cases q : m % P + 1 = P
  · obtain ⟨e1, e2⟩ := d2 q
    rw [show (((m % P : Nat) : Int) + 1 == ((P + 1 : Nat) : Int) - 1) = true by rw [beq_iff_eq]; omega, e1]
    simp only [cond_true]
    have : IntKind.wrap .i64 (1 - bitK P m) = bitK P (m + 1) := by
      unfold bit01 at h01
      rw [w64 (by omega) (by omega)]
      unfold bitK at *
      rw [e2]; omega
    rw [this]; rfl
  · obtain ⟨e1, e2⟩ := d1 (by omega)
    rw [show (((m % P : Nat) : Int) + 1 == ((P + 1 : Nat) : Int) - 1) = false by rw [beq_eq_false_iff_ne]; omega, e1]
    simp only [cond_false]
    have : bitK P (m + 1) = bitK P m := by unfold bitK; rw [e2]
    rw [this]; rfl
end Go.Proofs.Ytdgdkbpmmemphaa.Rp

/- The law RingPlays, in plain Lean (second part). -/
namespace Go.Proofs.Ytdgdkbpmmemphaa.Rp
open Go Go.RowKit
open Classical
set_option linter.unusedVariables false

theorem cpy (n : Nat) (c : Cells) (hl : c.length ≤ 1000) (a b d e f : Int) : F80 n c a b d e f = some (a, b, d, e, f, c) := by
  unfold F80 F105
  rw [List.nil_append, decide_eq_true (show ([] : Cells).length + c.length ≤ 5864062014805 by simp; omega)]; rfl
section
variable {P : Nat} {all : List Int} {c : Cells}
theorem putP (n : Nat) (hn : 100 < n) (hP : 2 ≤ P) (hP2 : P ≤ 63) (h : RingSt P all c) (got seen : Nat) (h1 : seen ≤ got) (h2 : got ≤ all.length) (h3 : all.length ≤ seen + (P - 1)) (w : Int) :
    F48 n c (markP P all.length).1 (markP P all.length).2 (markP P got).1 (markP P got).2 ((seen % P : Nat) : Int) w =
      if all.length < seen + (P - 1) then some ((markP P (all.length + 1)).1, (markP P (all.length + 1)).2, (markP P got).1, (markP P got).2, ((seen % P : Nat) : Int), 0, (if all.length % P + 1 = P then (c.set (all.length % P) (w, bitK P all.length, false)).set P (0, bitK P all.length, true) else c.set (all.length % P) (w, bitK P all.length, false)))
      else some (0, 0, 0, 0, 0, 11, []) := by
  have hl := h.1
  have hm := Nat.mod_lt all.length (show 0 < P by omega)
  unfold F48
  rw [g36 n hn, good_ring hP hP2 h, hl, adv n P all.length hP hP2, cpy n c (by omega)]
  simp only [Option.bind_some, bne_self_eq_false, cond_false]
  have full : (all.length + 1) % P = seen % P ↔ all.length = seen + (P - 1) := by
    constructor
    · intro e
      have := mod_shift seen (all.length + 1) P (by omega) e.symm (by omega)
      omega
    · intro e
      rw [e, show seen + (P - 1) + 1 = seen + P by omega, Nat.add_mod_right]
  by_cases q : all.length < seen + (P - 1)
  · rw [if_pos q]
    have e1 : ((markP P (all.length + 1)).1 == ((seen % P : Nat) : Int)) = false := by
      rw [beq_eq_false_iff_ne]
      show ((((all.length + 1) % P : Nat)) : Int) ≠ _
      intro e
      have := full.1 (by omega)
      omega
    rw [e1]
    have e2 : (markP P all.length).1 = ((all.length % P : Nat) : Int) := rfl
    have e3 : (markP P all.length).2 = bitK P all.length := rfl
    have eP : ∀ v, (c.set (all.length % P) v).getD (all.length % P) (0, (0, false)) = v := fun v => by
      have := cset c (all.length % P) (all.length % P) v (by omega)
      rwa [if_pos rfl] at this
    have eL : ∀ v, (c.set (all.length % P) v).getD P (0, (0, false)) = (0, ((all.length / P % 2 : Nat) : Int), true) := fun v => by
      have := cset c (all.length % P) P v (by omega)
      rw [if_neg (by omega), h.2.2] at this
      exact this
    have eO : (c.getD (all.length % P) (0, (0, false))).2.2 = false := by
      by_cases q2 : all.length % P < all.length
      · obtain ⟨k, _, _, _, e⟩ := (h.2.1 _ hm).1 q2
        have e' : c.getD (all.length % P) (0, (0, false)) = _ := e
        rw [e']
      · have e' : c.getD (all.length % P) (0, (0, false)) = _ := (h.2.1 _ hm).2 (by omega)
        rw [e']
    have eW : (IntKind.wrap .i64 (((P + 1 : Nat) : Int) - 1)).toNat = P := by rw [w64 (by omega) (by omega)]; omega
    have eV : IntKind.wrap .i64 (((P + 1 : Nat) : Int) - 2) = ((P - 1 : Nat) : Int) := by rw [w64 (by omega) (by omega)]; omega
    simp only [e2, e3, cond_false, Int.toNat_natCast, List.length_set, hl, eP, List.set_set, eO, eV]
    rw [inb_true (show (0 : Int) ≤ (all.length % P : Nat) by omega) (show ((all.length % P : Nat) : Int) < (P + 1 : Nat) by omega)]
    simp only [cond_true]
    by_cases q2 : all.length % P + 1 = P
    · rw [if_pos q2, show (((all.length % P : Nat) : Int) == ((P - 1 : Nat) : Int)) = true by rw [beq_iff_eq]; omega]
      have eW2 : IntKind.wrap .i64 (((P + 1 : Nat) : Int) - 1) = (P : Int) := by rw [w64 (by omega) (by omega)]; omega
      simp only [eW2, Int.toNat_natCast, eL, cond_true]
      rw [inb_true (show (0 : Int) ≤ P by omega) (show (P : Int) < (P + 1 : Nat) by omega)]
      rfl
    · rw [if_neg q2, show (((all.length % P : Nat) : Int) == ((P - 1 : Nat) : Int)) = false by rw [beq_eq_false_iff_ne]; omega]
      rfl
  · rw [if_neg q]
    have e1 : ((markP P (all.length + 1)).1 == ((seen % P : Nat) : Int)) = true := by
      rw [beq_iff_eq]
      show ((((all.length + 1) % P : Nat)) : Int) = _
      have := full.2 (by omega)
      omega
    rw [e1]; rfl
theorem getP (n : Nat) (hn : 100 < n) (hP : 2 ≤ P) (hP2 : P ≤ 63) (h : RingSt P all c) (got seen : Nat) (h1 : seen ≤ got) (h2 : got ≤ all.length) (h3 : all.length ≤ seen + (P - 1)) :
    F49 n c (markP P all.length).1 (markP P all.length).2 (markP P got).1 (markP P got).2 ((seen % P : Nat) : Int) =
      if got < all.length then some ((markP P all.length).1, (markP P all.length).2, (markP P (got + 1)).1, (markP P (got + 1)).2, ((seen % P : Nat) : Int), all.getD got 0, true, 0, c)
      else some ((markP P all.length).1, (markP P all.length).2, (markP P got).1, (markP P got).2, ((seen % P : Nat) : Int), 0, false, 0, c) := by
  have hl := h.1
  have hm := Nat.mod_lt got (show 0 < P by omega)
  unfold F49
  rw [g36 n hn, good_ring hP hP2 h, cpy n c (by omega)]
  simp only [Option.bind_some, bne_self_eq_false, cond_false]
  rw [hl, adv n P got hP hP2]
  have e2 : (markP P got).1 = ((got % P : Nat) : Int) := rfl
  have e3 : (markP P got).2 = bitK P got := rfl
  simp only [e2, e3, Int.toNat_natCast, Option.bind_some]
  rw [inb_true (show (0 : Int) ≤ (got % P : Nat) by omega) (show ((got % P : Nat) : Int) < (P + 1 : Nat) by omega)]
  simp only [cond_true]
  by_cases q : got < all.length
  · rw [if_pos q]
    obtain ⟨k, a1, a2, a3, e⟩ := (h.2.1 _ hm).1 (by
      by_cases q2 : got < P
      · rw [Nat.mod_eq_of_lt q2]; exact q
      · omega)
    obtain rfl : k = got := same_res k got P a3 (by omega) (by omega)
    have e' : c.getD (k % P) (0, (0, false)) = _ := e
    rw [e']
    simp only [bne_self_eq_false, cond_false]
  · rw [if_neg q]
    obtain rfl : got = all.length := by omega
    have nb : (c.getD (all.length % P) (0, (0, false))).2.1 ≠ bitK P all.length := by
      by_cases q2 : all.length % P < all.length
      · obtain ⟨k, a1, a2, a3, e⟩ := (h.2.1 _ hm).1 q2
        have e' : c.getD (all.length % P) (0, (0, false)) = _ := e
        rw [e']
        have hk : all.length = k + P := by
          have := mod_shift k all.length P (by omega) a3 a1
          omega
        show bitK P k ≠ bitK P all.length
        unfold bitK
        rw [hk, Nat.add_div_right _ (by omega)]
        omega
      · have e' : c.getD (all.length % P) (0, (0, false)) = _ := (h.2.1 _ hm).2 (by omega)
        rw [e']
        have : all.length < P := by
          have := Nat.mod_le all.length P
          omega
        show (0 : Int) ≠ bitK P all.length
        unfold bitK
        rw [Nat.div_eq_of_lt this]; decide
    rw [show ((c.getD (all.length % P) (0, (0, false))).2.1 != bitK P all.length) = true by rw [bne_iff_ne]; exact nb]
    rfl
theorem learnP (n : Nat) (hn : 100 < n) (hP : 2 ≤ P) (hP2 : P ≤ 63) (h : RingSt P all c) (got seen : Nat) :
    F52 n c (markP P all.length).1 (markP P all.length).2 (markP P got).1 (markP P got).2 ((seen % P : Nat) : Int) = some ((markP P all.length).1, (markP P all.length).2, (markP P got).1, (markP P got).2, ((got % P : Nat) : Int), 0, c) := by
  have hl := h.1
  unfold F52
  rw [g36 n hn, good_ring hP hP2 h, cpy n c (by omega)]
  rfl
end
theorem f81 (n P k : Nat) (hP : 0 < P) (hP2 : P ≤ 63) (hk : k ≤ 5000) : F27 n (k : Int) (P : Int) = some (markP P k) := by
  unfold F27 markP bitK
  have h1 : k / P ≤ k := Nat.div_le_self _ _
  rw [show ((P : Int) != 0) = true by rw [bne_iff_ne]; omega, Int.tmod_eq_emod_of_nonneg (by omega), Int.tdiv_eq_ediv_of_nonneg (by omega)]
  have e1 : (k : Int) / (P : Int) = ((k / P : Nat) : Int) := by simp
  rw [e1]
  generalize k / P = q at *
  rw [w64 (n := (q : Int)) (by omega) (by omega), w64 (by omega) (by omega), Int.tmod_eq_emod_of_nonneg (by omega)]
  have e2 : (k : Int) % (P : Int) = ((k % P : Nat) : Int) := by simp
  have e3 : ((q : Int) + 1) % 2 = (((q + 1) % 2 : Nat) : Int) := by simp
  rw [e2, e3]; rfl
end Go.Proofs.Ytdgdkbpmmemphaa.Rp

/- The law RingPlays, in plain Lean (third part: the law). -/
namespace Go.Proofs.Ytdgdkbpmmemphaa.Rp
open Go Go.RowKit
open Classical
set_option linter.unusedVariables false

theorem fill_cell {P : Nat} (hP : 0 < P) {all : List Int} {c : Cells} (x : Nat) (hl : c.length = P + 1) (hc : ∀ p, p < P → CellOK P all x p (c.getD p zC)) (p : Nat) (hp : p < P) :
    CellOK P all (x + 1) p ((c.set (x % P) (all.getD x 0, bitK P x, false)).getD p zC) := by
  have hm := Nat.mod_lt x hP
  rw [cset c _ p _ (by omega)]
  by_cases q : x % P = p
  · rw [if_pos q]
    refine ⟨fun _ => ⟨x, by omega, by omega, q, rfl⟩, fun h => ?_⟩
    rw [Nat.mod_eq_of_lt (by omega)] at q
    omega
  · rw [if_neg q]
    refine ⟨fun h => ?_, fun h => (hc p hp).2 (by omega)⟩
    have hpm : p < x := by
      by_cases h2 : p = x
      · subst h2; exact absurd (Nat.mod_eq_of_lt hp) q
      · omega
    obtain ⟨k, a1, a2, a3, a4⟩ := (hc p hp).1 hpm
    refine ⟨k, by omega, ?_, a3, a4⟩
    by_cases h3 : x = k + P
    · rw [h3, Nat.add_mod_right] at q; exact absurd a3 q
    · omega
theorem repC (N k : Nat) : (List.replicate N zC).getD k zC = zC := by
  rw [List.getD_eq_getElem?_getD, List.getElem?_replicate]
  split <;> rfl
theorem docEnd (n : Nat) (hn : 1500 < n) (P : Nat) (hP : 2 ≤ P) (hP2 : P ≤ 63) (all : List Int) (c : Cells) (ha : all.length ≤ 1000) (h : RingSt P all c) (got seen : Nat) (hg : got ≤ all.length) (y z : Int × Int) :
    loopF (F9_l10 n ((P + 1 : Nat) : Int) (got : Int) (seen : Int) all y z) n (0, List.replicate (P + 1) zC) = some (y.1, y.2, z.1, z.2, ((seen % P : Nat) : Int), 0, c, all.take got) := by
  have eW : IntKind.wrap .i64 (((P + 1 : Nat) : Int) - 1) = (P : Int) := by rw [w64 (by omega) (by omega)]; omega
  refine loopF_eq (F9_l10 n ((P + 1 : Nat) : Int) (got : Int) (seen : Int) all y z) (fun _ => some (y.1, y.2, z.1, z.2, ((seen % P : Nat) : Int), 0, c, all.take got)) (fun d => ∃ x : Nat, d.1 = (x : Int) ∧ x ≤ all.length ∧ d.2.length = P + 1 ∧ (∀ p, p < P → CellOK P all x p (d.2.getD p zC)) ∧ d.2.getD P zC = zC) (fun d => all.length - d.1.toNat) ?_ n _ ⟨0, rfl, by omega, by simp, fun p hp => ⟨fun h => by omega, fun _ => repC _ _⟩, repC _ _⟩ (by simp; omega)
  rintro kk ⟨xx, m⟩ ⟨x, rfl, hx, hl, hc, hz⟩ ih
  simp only at hl hc hz
  have hm := Nat.mod_lt x (show 0 < P by omega)
  have e2 : (x : Int).tmod (P : Int) = ((x % P : Nat) : Int) := by rw [Int.tmod_eq_emod_of_nonneg (by omega)]; simp
  simp only [F9_l10, eW, f81 n P x (by omega) hP2 (by omega), Option.bind_some, e2, Int.toNat_natCast, hl]
  by_cases hxa : x < all.length
  · rw [decide_eq_true (show (x : Int) < ((all.length : Nat) : Int) by omega), inb_true (show (0 : Int) ≤ x by omega) (show (x : Int) < (all.length : Nat) by omega), inb_true (show (0 : Int) ≤ (x % P : Nat) by omega) (show ((x % P : Nat) : Int) < (P + 1 : Nat) by omega), w64 (n := (x : Int) + 1) (by omega) (by omega)]
    simp only [cond_true]
    refine ih _ ⟨x + 1, rfl, by omega, by simpa using hl, fun p hp => fill_cell (by omega) x hl hc p hp, ?_⟩ (by simp only [Int.toNat_natCast]; omega)
    show (m.set (x % P) _).getD P zC = zC
    rw [cset m _ P _ (by omega), if_neg (by omega), hz]
  · obtain rfl : x = all.length := by omega
    rw [decide_eq_false (by omega), inb_true (show (0 : Int) ≤ P by omega) (show (P : Int) < (P + 1 : Nat) by omega), show subB all.length none (some (got : Int)) = true by simp [subB]; omega]
    simp only [cond_false, cond_true]
    have eC : F28 n (all.take got) = some (all.take got) := by
      unfold F28
      rw [List.nil_append, decide_eq_true (by simp [List.length_take]; omega)]; rfl
    have h1 : all.length / P ≤ all.length := Nat.div_le_self _ _
    have e3 : (IntKind.wrap .i64 (((all.length : Nat) : Int).tdiv (P : Int))).tmod 2 = ((all.length / P % 2 : Nat) : Int) := by
      rw [Int.tdiv_eq_ediv_of_nonneg (by omega)]
      have e1 : ((all.length : Nat) : Int) / (P : Int) = ((all.length / P : Nat) : Int) := by simp
      rw [e1]
      generalize all.length / P = q at *
      rw [w64 (by omega) (by omega), Int.tmod_eq_emod_of_nonneg (by omega)]
      simp
    have e4 : (seen : Int).tmod (P : Int) = ((seen % P : Nat) : Int) := by rw [Int.tmod_eq_emod_of_nonneg (by omega)]; simp
    rw [eC, e3, e4]
    have : m.set P (0, ((all.length / P % 2 : Nat) : Int), true) = c := by
      refine ringSt_one (P := P) (all := all) ⟨by simpa using hl, fun p hp => ?_, ?_⟩ h
      · rw [cset m P p _ (by omega), if_neg (by omega)]; exact hc p hp
      · rw [cset m P P _ (by omega), if_pos rfl]
    simp only [Option.bind_some, this]

end Go.Proofs.Ytdgdkbpmmemphaa.Rp
