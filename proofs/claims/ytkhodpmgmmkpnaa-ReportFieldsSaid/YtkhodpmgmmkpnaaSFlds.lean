/- The law ReportFields, in plain Lean. -/
import Derived.Test.YtkhodpmgmmkpnaaFrf
import Derived.Test.YtkhodpmgmmkpnaaAm26
namespace Go.Proofs.Ytkhodpmgmmkpnaa
open Go Go.RowKit
set_option linter.unusedVariables false

abbrev Fld := Int × Int × Int × Int × Int × Int × Bool
abbrev Stt := Int × Int × Int × Int × Int
def lst5 (t : Stt) : List Int := [t.1, t.2.1, t.2.2.1, t.2.2.2.1, t.2.2.2.2]
def sumB : List Fld → Int
  | [] => 0
  | f :: l => f.2.1 + sumB l
theorem sumB_app : ∀ a b : List Fld, sumB (a ++ b) = sumB a + sumB b
  | [], b => by simp [sumB]
  | f :: l, b => by simp only [List.cons_append, sumB, sumB_app l b]; omega
def posB (l : List Fld) : Prop := ∀ f ∈ l, 0 ≤ f.2.1
theorem sumB_pos : ∀ l : List Fld, posB l → 0 ≤ sumB l
  | [], _ => by simp [sumB]
  | f :: l, h => by
    have h1 := h f (by simp)
    have h2 := sumB_pos l fun x hx => h x (by simp [hx])
    simp only [sumB]; omega
theorem sumB_take (l : List Fld) (h : posB l) (k : Nat) : 0 ≤ sumB (l.take k) ∧ sumB (l.take k) ≤ sumB l := by
  have e : sumB l = sumB (l.take k) + sumB (l.drop k) := by rw [← sumB_app, List.take_append_drop]
  have h1 := sumB_pos (l.take k) fun x hx => h x (List.mem_of_mem_take hx)
  have h2 := sumB_pos (l.drop k) fun x hx => h x (List.mem_of_mem_drop hx)
  omega
abbrev zF : Fld := (0, (0, (0, (0, (0, (0, false))))))
theorem sumB_next (l : List Fld) (k : Nat) (hk : k < l.length) : sumB (l.take (k + 1)) = sumB (l.take k) + (l.getD k zF).2.1 := by
  rw [List.take_succ_eq_append_getElem hk, sumB_app, List.getD_eq_getElem?_getD, List.getElem?_eq_getElem hk]
  simp [sumB]
theorem bitsN (n : Nat) (l : List Fld) (hn : l.length < n) (hl : l.length ≤ 1000) (hp : posB l) (hs : sumB l ≤ 100000) : F17 n l = some (sumB l) := by
  unfold F17
  refine loopF_eq (F17_l2 n l) (fun _ => some (sumB l)) (fun d => ∃ k : Nat, k ≤ l.length ∧ d = (sumB (l.take k), (k : Int))) (fun d => l.length - d.2.toNat) ?_ n _ ⟨0, by omega, by simp [sumB]⟩ (by simp; omega)
  rintro kk d ⟨k, hk, rfl⟩ ih
  simp only [F17_l2, Int.toNat_natCast]
  by_cases hk2 : k < l.length
  · rw [decide_eq_true (show (k : Int) < (l.length : Int) by omega), inb_true (show (0 : Int) ≤ k by omega) (show (k : Int) < l.length by omega)]
    simp only [cond_true]
    have e := sumB_next l k hk2
    have b1 := sumB_take l hp k
    have b2 := sumB_take l hp (k + 1)
    have e' : sumB (l.take k) + (l.getD k (0, (0, (0, (0, (0, (0, false))))))).2.1 = sumB (l.take (k + 1)) := e.symm
    rw [e', w64 (by omega) (by omega), w64 (by omega) (by omega)]
    refine ih _ ⟨k + 1, by omega, by simp⟩ (by simp only; omega)
  · rw [decide_eq_false (show ¬ (k : Int) < (l.length : Int) by omega), show k = l.length by omega, List.take_length]; rfl
theorem bAnd1 (v : Int) : bitsI .and .i64 v 1 = v % 2 := by
  show IntKind.i64.wrap ((BitVec.ofInt 64 v &&& BitVec.ofInt 64 1).toNat : Int) = _
  have e : (BitVec.ofInt 64 v &&& BitVec.ofInt 64 1).toNat = (BitVec.ofInt 64 v).toNat % 2 := by
    rw [BitVec.toNat_and, show (BitVec.ofInt 64 1).toNat = 1 from rfl, Nat.and_one_is_mod]
  rw [e, BitVec.toNat_ofInt]
  have : ((2 ^ 64 : Nat) : Int) = 18446744073709551616 := rfl
  rw [this, w64 (by omega) (by omega)]
  omega
theorem odd_same (v : Int) : (bitsI .and .i64 v 1 == 1) = (v.tmod 2 != 0) := by
  rw [bAnd1, Bool.eq_iff_iff, beq_iff_eq, bne_iff_ne]
  have := Int.tmod_two_eq v
  have h2 : v % 2 = 0 ↔ v.tmod 2 = 0 := by
    rw [← Int.dvd_iff_emod_eq_zero, ← Int.dvd_iff_tmod_eq_zero]
  constructor
  · intro h h3; have := h2.2 h3; omega
  · intro h; have h3 : v % 2 ≠ 0 := fun h4 => h (h2.1 h4)
    omega
theorem f18 (n : Nat) (v lo hi : Int) : F18 n v lo hi = some (decide (lo ≤ v ∧ v ≤ hi)) := by
  unfold F18
  by_cases h : lo ≤ v
  · rw [decide_eq_true h]
    simp only [cond_true, Option.some.injEq]
    rw [Bool.eq_iff_iff, decide_eq_true_iff, decide_eq_true_iff]
    exact ⟨fun e => ⟨h, e⟩, fun e => e.2⟩
  · rw [decide_eq_false h, decide_eq_false (show ¬ (lo ≤ v ∧ v ≤ hi) from fun hh => h hh.1)]; rfl
def sOk (s : Stt) : Prop := 0 ≤ s.2.2.2.1 ∧ s.2.2.2.1 ≤ 32 ∧ 0 ≤ s.2.2.2.2 ∧ s.2.2.2.2 ≤ 256
def Inv (l : List (Int × Int)) (d : Int × Int × Int × Int × Int × Int × Int × Int × List Stt × List Int × List Fld) (d' : Int × Int × List Int × List (List Int) × List Int × List Fld) : Prop :=
  ∃ (k : Nat) (s0 s1 s2 s3 s4 deep bits : Int) (stk : List Stt) (us : List Int) (out : List Fld), d = ((k : Int), s0, s1, s2, s3, s4, deep, bits, stk, us, out) ∧
    d' = (deep, (k : Int), [s0, s1, s2, s3, s4], stk.map lst5, us, out) ∧ k ≤ l.length ∧ sOk (s0, s1, s2, s3, s4) ∧ (∀ t ∈ stk, sOk t) ∧ stk.length ≤ 4 ∧ us.length ≤ 256 ∧ out.length ≤ 256 ∧ 0 ≤ deep ∧ deep ≤ 8 ∧
    bits = sumB out ∧ posB out ∧ bits ≤ 512
section
variable {l : List (Int × Int)}
abbrev Res := Int × List Fld
/-- the fields of one item -/
theorem fieldsRel (n : Nat) (hn : 1000 < n) (Q : Res → Res → Prop) (K : Int × Int × Int × Int × Int × Int × Int × Int × List Stt × List Int × List Fld → Option Res) (K' : Int × Int × List Int × List (List Int) × List Int × List Fld → Option Res)
    (k : Nat) (s0 s1 s2 s3 s4 deep bits : Int) (stk : List Stt) (us : List Int) (out : List Fld) (hk : k < l.length) (hl : l.length ≤ 200) (hs : sOk (s0, s1, s2, s3, s4)) (hst : ∀ t ∈ stk, sOk t) (h4 : stk.length ≤ 4) (hu : us.length ≤ 256) (h0 : 0 ≤ deep) (h8 : deep ≤ 8)
    (hb : bits = sumB out) (hp : posB out) (h5 : bits ≤ 512) (hz : s3 ≠ 0) (hc : (out.length : Int) + s4 ≤ 256) (hm : bits + s4 * s3 ≤ 512)
    (ih : ∀ e e', Inv l e e' → l.length - e.1.toNat < l.length - k → ∃ r r', K e = some r ∧ K' e' = some r' ∧ Q r r') :
    ∃ r r', loopF (F6_l241 n K l (k : Int) s0 s1 s2 s3 s4 deep stk us) n (0, bits, out) = some r ∧ loopF (F7_l31 n K' l deep (k : Int) [s0, s1, s2, s3, s4] (stk.map lst5) us) n (0, out) = some r' ∧ Q r r' := by
  obtain ⟨z1, z2, z3, z4⟩ := hs
  simp only at z1 z2 z3 z4
  refine loopF_rel (F6_l241 n K l (k : Int) s0 s1 s2 s3 s4 deep stk us) (F7_l31 n K' l deep (k : Int) [s0, s1, s2, s3, s4] (stk.map lst5) us)
    (fun d d' => ∃ (j : Nat) (o : List Fld), d = ((j : Int), sumB o, o) ∧ d' = ((j : Int), o) ∧ (j : Int) ≤ s4 ∧ posB o ∧ o.length = out.length + j ∧ sumB o = bits + (j : Int) * s3) Q (fun d => s4.toNat - d.1.toNat) ?_ n n _ _ ⟨0, out, by simp [hb], rfl, by omega, hp, by omega, by simp [hb]⟩ (by simp; omega) (by simp; omega)
  rintro kk kk' d d' ⟨j, o, rfl, rfl, hj, hpo, hlo, hso⟩ ih2
  simp only [F6_l241, F7_l31, F6_j242, F7_j32]
  have hm2 : (j : Int) * s3 ≤ s4 * s3 := Int.mul_le_mul_of_nonneg_right hj z1
  have hm0 : 0 ≤ (j : Int) * s3 := Int.mul_nonneg (by omega) z1
  have hsp := sumB_pos out hp
  rw [show ([s0, s1, s2, s3, s4].getD 4 0) = s4 from rfl, show ([s0, s1, s2, s3, s4].getD 3 0) = s3 from rfl, show ([s0, s1, s2, s3, s4].getD 2 0) = s2 from rfl, show ([s0, s1, s2, s3, s4].getD 1 0) = s1 from rfl, show ([s0, s1, s2, s3, s4].getD 0 0) = s0 from rfl]
  rcases (Classical.em ((j : Int) < s4)).symm with q | q
  · rw [decide_eq_false q]
    simp only [cond_false, F6_j238, F6_j233, F6_j223, Int.reduceBNe]
    rw [w64 (n := (k : Int) + 1) (by omega) (by omega)]
    refine ih _ _ ⟨k + 1, s0, s1, s2, s3, s4, deep, sumB o, stk, [], o, by simp, by simp, by omega, ⟨z1, z2, z3, z4⟩, hst, h4, by simp, by omega, h0, h8, rfl, hpo, by omega⟩ (by simp only; omega)
  rw [decide_eq_true q, bitsN n o (by omega) (by omega) hpo (by omega)]
  have hm3 : (j : Int) * s3 + s3 ≤ s4 * s3 := by
    have := Int.mul_le_mul_of_nonneg_right (show (j : Int) + 1 ≤ s4 by omega) z1
    rw [Int.add_mul, Int.one_mul] at this
    exact this
  have fin : ∀ u : Int, ∃ r r', (bif decide (o.length + [(sumB o, s3, s0, u, s1, s2, bitsI BinOp.and IntKind.i64 (l.getD (k : Int).toNat (0, 0)).snd 1 == 1)].length ≤ 2513169434916) then kk (IntKind.wrap .i64 ((j : Int) + 1), IntKind.wrap .i64 (sumB o + s3), o ++ [(sumB o, s3, s0, u, s1, s2, bitsI BinOp.and IntKind.i64 (l.getD (k : Int).toNat (0, 0)).snd 1 == 1)]) else none) = some r ∧
      (bif decide (o.length + [(sumB o, s3, s0, u, s1, s2, (l.getD (k : Int).toNat (0, 0)).snd.tmod 2 != 0)].length ≤ 2513169434916) then kk' (IntKind.wrap .i64 ((j : Int) + 1), o ++ [(sumB o, s3, s0, u, s1, s2, (l.getD (k : Int).toNat (0, 0)).snd.tmod 2 != 0)]) else none) = some r' ∧ Q r r' := by
    intro u
    rw [odd_same]
    generalize ((l.getD (k : Int).toNat (0, 0)).snd.tmod 2 != 0) = pad
    rw [decide_eq_true (show o.length + [(sumB o, s3, s0, u, s1, s2, pad)].length ≤ 2513169434916 by simp; omega)]
    simp only [cond_true]
    have es : sumB (o ++ [(sumB o, s3, s0, u, s1, s2, pad)]) = sumB o + s3 := by rw [sumB_app]; simp [sumB]
    rw [w64 (n := (j : Int) + 1) (by omega) (by omega), w64 (n := sumB o + s3) (by omega) (by omega)]
    refine ih2 _ _ ⟨j + 1, o ++ [(sumB o, s3, s0, u, s1, s2, pad)], by rw [es]; simp, by simp, by omega, ?_, by simp; omega, ?_⟩ (by simp only; omega)
    · intro f hf
      rcases List.mem_append.1 hf with hf | hf
      · exact hpo f hf
      · simp only [List.mem_singleton] at hf; subst hf; exact z1
    · have em : ((j + 1 : Nat) : Int) * s3 = (j : Int) * s3 + s3 := by
        rw [Int.natCast_add, Int.add_mul]; simp
      rw [es, em]; omega
  simp only [Option.bind_some, cond_true]
  by_cases u0 : us.length = 0
  · rw [decide_eq_false (show ¬ ((us.length : Nat) : Int) > 0 by omega), decide_eq_false (show ¬ (j : Int) < ((us.length : Nat) : Int) by omega)]
    simp only [cond_false]
    exact fin 0
  rw [decide_eq_true (show ((us.length : Nat) : Int) > 0 by omega), w64 (n := ((us.length : Nat) : Int) - 1) (by omega) (by omega)]
  by_cases u1 : (j : Int) < ((us.length : Nat) : Int)
  · rw [decide_eq_true u1, if_neg (show ¬ ((us.length : Nat) : Int) - 1 < (j : Int) by omega), inb_true (show (0 : Int) ≤ j by omega) (show (j : Int) < us.length by omega)]
    simp only [cond_true]
    exact fin _
  · rw [decide_eq_false u1, if_pos (show ((us.length : Nat) : Int) - 1 < (j : Int) by omega), inb_true (show (0 : Int) ≤ ((us.length : Nat) : Int) - 1 by omega) (show ((us.length : Nat) : Int) - 1 < us.length by omega)]
    simp only [cond_true, cond_false]
    exact fin _
end
end Go.Proofs.Ytkhodpmgmmkpnaa
