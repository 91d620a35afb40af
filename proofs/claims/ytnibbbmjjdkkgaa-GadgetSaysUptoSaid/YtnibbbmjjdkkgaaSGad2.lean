/- GadgetSays, in plain Lean: endpoints, descriptors. -/
import Derived.Test.YtnibbbmjjdkkgaaSGad
namespace Go.Proofs.Ytnibbbmjjdkkgaa
open Go Go.RowKit
set_option linter.unusedVariables false

/-! endpoints -/
def hasD (E : List CEnd) (e : Int) : Bool := E.any fun d => endA d == e
def hasF (Fs : List CFace) (e : Int) : Bool := Fs.any fun f => hasD f.2.2.2.2.2 e
def okF (Fs : List CFace) : Prop := Fs.length ≤ 4 ∧ ∀ f ∈ Fs, f.2.2.2.2.2.length ≤ 4 ∧ ∀ d ∈ f.2.2.2.2.2, endOk d
theorem hasIn (n : Nat) (hn : 100 < n) (k22 : Int → Option Bool) (Fs : List CFace) (x : Nat) (E : List CEnd) (hE : (Fs.getD x ((0 : Int), ((0 : Int), ((0 : Int), ((0 : Int), (([] : List (List UInt8)), ([] : List (Int × Bool × Int × Int × Int)))))))).2.2.2.2.2 = E) (h4 : E.length ≤ 4) (hok : ∀ d ∈ E, endOk d) (e : Int) :
    loopF (F71_l25 n k22 Fs e (x : Int)) n 0 = bif hasD E e then some true else k22 (IntKind.i64.wrap ((x : Int) + 1)) := by
  refine (loopF_eq (F71_l25 n k22 Fs e (x : Int)) (fun j => bif hasD (E.drop j.toNat) e then some true else k22 (IntKind.i64.wrap ((x : Int) + 1))) (fun y => ∃ j : Nat, y = (j : Int) ∧ j ≤ E.length) (fun y => E.length - y.toNat) ?_ n 0 ⟨0, rfl, by omega⟩ (by simp; omega)).trans (by simp)
  rintro kk y ⟨j, rfl, hj⟩ ih
  simp only [F71_l25, F71_j26, Int.toNat_natCast, hE]
  by_cases hjl : j < E.length
  · have ek : ((j : Int) + 1).toNat = j + 1 := by omega
    have ih' := ih ((j : Int) + 1) ⟨j + 1, by omega, by omega⟩ (by simp only [Int.toNat_natCast, ek]; omega)
    rw [dropC E j ((0 : Int), (false, ((0 : Int), ((0 : Int), (0 : Int))))) hjl, decide_eq_true (show (j : Int) < (E.length : Int) by omega), inb_true (by omega) (by omega), w64 (n := (j : Int) + 1) (by omega) (by omega), ih', ek]
    have hd : endOk (E.getD j ((0 : Int), (false, ((0 : Int), ((0 : Int), (0 : Int)))))) := by
      rw [List.getD_eq_getElem?_getD, List.getElem?_eq_getElem hjl]; exact hok _ (List.getElem_mem hjl)
    generalize E.getD j ((0 : Int), (false, ((0 : Int), ((0 : Int), (0 : Int))))) = d at hd
    have hd1 := hd.1
    obtain ⟨a, b, c⟩ := d
    simp only [hasD, List.any_cons, endA] at hd1 ⊢
    cases b with
    | false => simp only [cond_true, cond_false, Bool.false_eq_true, if_false]; cases (a == e) <;> rfl
    | true => simp only [cond_true, if_true]; rw [w64 (n := a + 128) (by omega) (by omega)]; cases (a + 128 == e) <;> rfl
  · rw [decide_eq_false (by omega), List.drop_of_length_le (by omega)]; rfl
theorem okF_get {Fs : List CFace} (h : okF Fs) (j : Nat) (hj : j < Fs.length) : (Fs.getD j ((0 : Int), ((0 : Int), ((0 : Int), ((0 : Int), (([] : List (List UInt8)), ([] : List (Int × Bool × Int × Int × Int)))))))).2.2.2.2.2.length ≤ 4 ∧ ∀ d ∈ (Fs.getD j ((0 : Int), ((0 : Int), ((0 : Int), ((0 : Int), (([] : List (List UInt8)), ([] : List (Int × Bool × Int × Int × Int)))))))).2.2.2.2.2, endOk d := by
  rw [List.getD_eq_getElem?_getD, List.getElem?_eq_getElem hj]; exact h.2 _ (List.getElem_mem hj)
theorem hasL (n : Nat) (hn : 100 < n) (Fs : List CFace) (hF : okF Fs) (e : Int) : loopF (F71_l22 n Fs e) n 0 = some (hasF Fs e) := by
  have h4 := hF.1
  refine (loopF_eq (F71_l22 n Fs e) (fun j => some (hasF (Fs.drop j.toNat) e)) (fun y => ∃ j : Nat, y = (j : Int) ∧ j ≤ Fs.length) (fun y => Fs.length - y.toNat) ?_ n 0 ⟨0, rfl, by omega⟩ (by simp; omega)).trans (by simp)
  rintro kk y ⟨j, rfl, hj⟩ ih
  simp only [F71_l22, Int.toNat_natCast]
  by_cases hjl : j < Fs.length
  · have ek : ((j : Int) + 1).toNat = j + 1 := by omega
    have ih' := ih ((j : Int) + 1) ⟨j + 1, by omega, by omega⟩ (by simp only [Int.toNat_natCast, ek]; omega)
    have hg := okF_get hF j hjl
    rw [decide_eq_true (show (j : Int) < (Fs.length : Int) by omega), inb_true (by omega) (by omega), hasIn n hn kk Fs j _ rfl hg.1 hg.2 e, w64 (n := (j : Int) + 1) (by omega) (by omega), ih', ek, dropC Fs j ((0 : Int), ((0 : Int), ((0 : Int), ((0 : Int), (([] : List (List UInt8)), ([] : List (Int × Bool × Int × Int × Int))))))) hjl]
    simp only [cond_true, hasF, List.any_cons]
    cases hasD (Fs.getD j ((0 : Int), ((0 : Int), ((0 : Int), ((0 : Int), (([] : List (List UInt8)), ([] : List (Int × Bool × Int × Int × Int)))))))).2.2.2.2.2 e <;> rfl
  · rw [decide_eq_false (by omega), List.drop_of_length_le (by omega)]; rfl
/-- an endpoint's bit -/
def bitNo (e : Nat) : Nat := if 128 ≤ e then e - 112 else e
def bitV (e : Nat) : Int × Bool := (((2 ^ bitNo e : Nat) : Int), true)
theorem hitD {E : List CEnd} (hok : ∀ d ∈ E, endOk d) {e : Nat} (h : hasD E (e : Int) = true) : (1 ≤ e ∧ e ≤ 15) ∨ (129 ≤ e ∧ e ≤ 143) := by
  unfold hasD at h
  rw [List.any_eq_true] at h
  obtain ⟨d, h1, h2⟩ := h
  have hd := (hok d h1).1
  have h3 : endA d = (e : Int) := by simpa using h2
  unfold endA at h3
  split at h3 <;> omega
theorem hitF {Fs : List CFace} (hF : okF Fs) {e : Nat} (h : hasF Fs (e : Int) = true) : (1 ≤ e ∧ e ≤ 15) ∨ (129 ≤ e ∧ e ≤ 143) := by
  unfold hasF at h
  rw [List.any_eq_true] at h
  obtain ⟨f, h1, h2⟩ := h
  exact hitD (hF.2 f h1).2 h2
theorem bitIn (n : Nat) (hn : 100 < n) (k7 : Int → Option (Int × Bool)) (Fs : List CFace) (x : Nat) (E : List CEnd) (hE : (Fs.getD x ((0 : Int), ((0 : Int), ((0 : Int), ((0 : Int), (([] : List (List UInt8)), ([] : List (Int × Bool × Int × Int × Int)))))))).2.2.2.2.2 = E) (h4 : E.length ≤ 4) (hok : ∀ d ∈ E, endOk d) (e : Nat) :
    loopF (F43_l8 n k7 Fs (e : Int) (x : Int)) n 0 = bif hasD E (e : Int) then some (bitV e) else k7 (IntKind.i64.wrap ((x : Int) + 1)) := by
  refine (loopF_eq (F43_l8 n k7 Fs (e : Int) (x : Int)) (fun j => bif hasD (E.drop j.toNat) (e : Int) then some (bitV e) else k7 (IntKind.i64.wrap ((x : Int) + 1))) (fun y => ∃ j : Nat, y = (j : Int) ∧ j ≤ E.length) (fun y => E.length - y.toNat) ?_ n 0 ⟨0, rfl, by omega⟩ (by simp; omega)).trans (by simp)
  rintro kk y ⟨j, rfl, hj⟩ ih
  simp only [F43_l8, Int.toNat_natCast, hE]
  by_cases hjl : j < E.length
  · have ek : ((j : Int) + 1).toNat = j + 1 := by omega
    have ih' := ih ((j : Int) + 1) ⟨j + 1, by omega, by omega⟩ (by simp only [Int.toNat_natCast, ek]; omega)
    rw [dropC E j ((0 : Int), (false, ((0 : Int), ((0 : Int), (0 : Int))))) hjl, decide_eq_true (show (j : Int) < (E.length : Int) by omega), inb_true (by omega) (by omega), w64 (n := (j : Int) + 1) (by omega) (by omega), ih', ek]
    have hd : endOk (E.getD j ((0 : Int), (false, ((0 : Int), ((0 : Int), (0 : Int)))))) := by
      rw [List.getD_eq_getElem?_getD, List.getElem?_eq_getElem hjl]; exact hok _ (List.getElem_mem hjl)
    generalize E.getD j ((0 : Int), (false, ((0 : Int), ((0 : Int), (0 : Int))))) = d at hd
    have hd1 := hd.1
    obtain ⟨a, b, c⟩ := d
    simp only [hasD, List.any_cons, endA] at hd1 ⊢
    cases b with
    | false =>
      simp only [cond_true, cond_false, Bool.false_eq_true, if_false, Bool.not_false]
      by_cases he : a = (e : Int)
      · rw [beq_iff_eq.2 he]
        have h0 : bitNo e = e := by unfold bitNo; rw [if_neg (by omega)]
        rw [twoV n e (by omega) (by omega)]
        simp only [cond_true, Option.bind_some, Bool.true_or, bitV, h0]
      · rw [beq_eq_false_iff_ne.2 he]; rfl
    | true =>
      simp only [cond_true, cond_false, if_true, Bool.not_true]
      rw [w64 (n := a + 128) (by omega) (by omega)]
      by_cases he : a + 128 = (e : Int)
      · rw [beq_iff_eq.2 he]
        have h0 : bitNo e = e - 112 := by unfold bitNo; rw [if_pos (by omega)]
        have h1 : IntKind.i64.wrap ((e : Int) - 112) = ((e - 112 : Nat) : Int) := by rw [w64 (by omega) (by omega)]; omega
        rw [h1, twoV n (e - 112) (by omega) (by omega)]
        simp only [cond_true, Option.bind_some, Bool.true_or, bitV, h0]
      · rw [beq_eq_false_iff_ne.2 he]; rfl
  · rw [decide_eq_false (by omega), List.drop_of_length_le (by omega)]; rfl
theorem bitL (n : Nat) (hn : 100 < n) (Fs : List CFace) (hF : okF Fs) (e : Nat) : loopF (F43_l7 n Fs (e : Int)) n 0 = some (bif hasF Fs (e : Int) then bitV e else (0, false)) := by
  have h4 := hF.1
  refine (loopF_eq (F43_l7 n Fs (e : Int)) (fun j => some (bif hasF (Fs.drop j.toNat) (e : Int) then bitV e else (0, false))) (fun y => ∃ j : Nat, y = (j : Int) ∧ j ≤ Fs.length) (fun y => Fs.length - y.toNat) ?_ n 0 ⟨0, rfl, by omega⟩ (by simp; omega)).trans (by simp)
  rintro kk y ⟨j, rfl, hj⟩ ih
  simp only [F43_l7, Int.toNat_natCast]
  by_cases hjl : j < Fs.length
  · have ek : ((j : Int) + 1).toNat = j + 1 := by omega
    have ih' := ih ((j : Int) + 1) ⟨j + 1, by omega, by omega⟩ (by simp only [Int.toNat_natCast, ek]; omega)
    have hg := okF_get hF j hjl
    rw [decide_eq_true (show (j : Int) < (Fs.length : Int) by omega), inb_true (by omega) (by omega), bitIn n hn kk Fs j _ rfl hg.1 hg.2 e, w64 (n := (j : Int) + 1) (by omega) (by omega), ih', ek, dropC Fs j ((0 : Int), ((0 : Int), ((0 : Int), ((0 : Int), (([] : List (List UInt8)), ([] : List (Int × Bool × Int × Int × Int))))))) hjl]
    simp only [cond_true, hasF, List.any_cons]
    cases hasD (Fs.getD j ((0 : Int), ((0 : Int), ((0 : Int), ((0 : Int), (([] : List (List UInt8)), ([] : List (Int × Bool × Int × Int × Int)))))))).2.2.2.2.2 (e : Int) <;> rfl
  · rw [decide_eq_false (by omega), List.drop_of_length_le (by omega)]; rfl
def hasV (Fs : List CFace) (e : Nat) : Bool := e == 0 || (e == 128 || hasF Fs (e : Int))
theorem hitV {Fs : List CFace} (hF : okF Fs) {e : Nat} (h : hasV Fs e = true) : e ≤ 15 ∨ (128 ≤ e ∧ e ≤ 143) := by
  unfold hasV at h
  simp only [Bool.or_eq_true, beq_iff_eq] at h
  rcases h with h | h | h
  · omega
  · omega
  · rcases hitF hF h with h | h <;> omega
section
variable (u c s p m v r l k a z g cv cn ca cp : Int) (F : List CFace) (T : List Tx)
theorem hasP (n : Nat) (hn : 100 < n) (hF : okF F) (st ad ha : Int) (e : Nat) : F71 n u c s p m v r l k a z g cv cn ca cp F T st ad ha (e : Int) = some (hasV F e) := by
  unfold F71 hasV
  rw [hasL n hn F hF]
  by_cases h0 : e = 0
  · subst h0; rfl
  · rw [show ((e : Int) == 0) = false from beq_eq_false_iff_ne.2 (by omega), show (e == 0) = false from beq_eq_false_iff_ne.2 h0]
    by_cases h1 : e = 128
    · subst h1; rfl
    · rw [show ((e : Int) == 128) = false from beq_eq_false_iff_ne.2 (by omega), show (e == 128) = false from beq_eq_false_iff_ne.2 h1]; rfl
theorem hasR (n : Nat) (hn : 100 < n) (hF : okF F) (e : Nat) : F43 n u c s p m v r l k a z g cv cn ca cp F T (e : Int) = some (bif hasV F e then bitV e else (0, false)) := by
  unfold F43 hasV
  rw [bitL n hn F hF]
  by_cases h0 : e = 0
  · subst h0
    have e1 : IntKind.i64.wrap ((((0 : Nat) : Int)).tdiv 8) = ((0 : Nat) : Int) := by decide
    rw [e1, twoV n 0 (by omega) (by omega)]; rfl
  · rw [show ((e : Int) == 0) = false from beq_eq_false_iff_ne.2 (by omega), show (e == 0) = false from beq_eq_false_iff_ne.2 h0]
    by_cases h1 : e = 128
    · subst h1
      have e1 : IntKind.i64.wrap ((((128 : Nat) : Int)).tdiv 8) = ((16 : Nat) : Int) := by decide
      rw [e1, twoV n 16 (by omega) (by omega)]; rfl
    · rw [show ((e : Int) == 128) = false from beq_eq_false_iff_ne.2 (by omega), show (e == 128) = false from beq_eq_false_iff_ne.2 h1]; rfl
/-- the subject's bit of an endpoint -/
theorem bitP (e : Nat) (he : e ≤ 15 ∨ (128 ≤ e ∧ e ≤ 143)) : 0 ≤ IntKind.wrap .u64 (bitsI .and .i64 (e : Int) 15) ∧ (128 ≤ e → shlI .i64 (shlI .i64 1 (IntKind.wrap .u64 (bitsI .and .i64 (e : Int) 15))) 16 = ((2 ^ bitNo e : Nat) : Int)) ∧ (¬ 128 ≤ e → shlI .i64 1 (IntKind.wrap .u64 (bitsI .and .i64 (e : Int) 15)) = ((2 ^ bitNo e : Nat) : Int)) ∧ bitNo e < 32 := by
  have e1 : IntKind.wrap .u64 (bitsI .and .i64 (e : Int) 15) = ((e % 16 : Nat) : Int) := by
    have := bMask e 4 (by omega) (by omega)
    rw [show ((2 ^ 4 - 1 : Nat) : Int) = 15 from rfl] at this
    rw [this, u64w]; omega
  have hl : (2 : Nat) ^ (e % 16) < 2 ^ 16 := Nat.pow_lt_pow_right (by omega) (by omega)
  have e2 : shlI .i64 1 ((e % 16 : Nat) : Int) = ((2 ^ (e % 16) : Nat) : Int) := by
    have := shl_mul 1 (e % 16) (by omega) (by omega)
    simpa using this
  rw [e1]
  refine ⟨by omega, fun h => ?_, fun h => ?_, ?_⟩
  · rw [e2]
    have := shl_mul (2 ^ (e % 16)) 16 (by omega) (by omega)
    rw [show ((16 : Nat) : Int) = 16 from rfl] at this
    rw [this, ← Nat.pow_add]
    unfold bitNo; rw [if_pos h, show e % 16 + 16 = e - 112 by omega]
  · rw [e2]; unfold bitNo; rw [if_neg h, show e % 16 = e by omega]
  · unfold bitNo; split <;> omega
/-! descriptors -/
theorem goF_ok : ∀ (Fs : List CFace) (len i : Nat) (rest : CTx) (A : List CK), (goF cv cn ca cp len i rest A Fs).2 = 0 → ∀ f ∈ Fs, f.2.2.2.2.2.length ≤ 4 ∧ ∀ d ∈ f.2.2.2.2.2, endOk d
  | [], _, _, _, _, _, f, hf => by simp at hf
  | f0 :: Fs, len, i, rest, A, h, f, hf => by
    simp only [goF] at h
    split at h
    · rename_i h0
      rcases List.mem_cons.1 hf with rfl | hf
      · have h5 := face_ok h0
        exact ⟨h5.2.2.2.1, endsE_ok _ _ h5.2.2.2.2⟩
      · exact goF_ok Fs len (i + 1) _ _ h f hf
    · rename_i h0
      exact absurd h h0
theorem conf_ok (h : (confV cv cn ca cp F).2 = 0) : (1 ≤ cv ∧ cv ≤ 255) ∧ okF F := by
  unfold confV at h
  split at h
  · simp at h
  · rename_i h1
    split at h
    · simp at h
    · exact ⟨Decidable.not_not.1 fun hh => h1 (.inl hh), by omega, goF_ok cv cn ca cp F _ _ _ _ h⟩
theorem l22_ok (n : Nat) (hn : 1100000 < n) (a b c d : Int) (F : List CFace) (hF : F.length ≤ 4) (T : List Tx) (hT : T.length ≤ 8) (ht : ∀ t ∈ T, t.length ≤ 1048576) (h0 : loopF (F12_l22 n a b c d F T) n 0 = some 0) : ∀ j, j < T.length → (textV (T.getD j [])).2 = 0 := by
  obtain ⟨r, h, hq⟩ := loopF_post (F12_l22 n a b c d F T) (fun x => ∃ j : Nat, x = (j : Int) ∧ j ≤ T.length) (fun x r => r = 0 → ∀ j, x.toNat ≤ j → j < T.length → (textV (T.getD j [])).2 = 0) (fun x => T.length - x.toNat) (by
    rintro kk x ⟨j, rfl, hj⟩ ih
    simp only [F12_l22, Int.toNat_natCast]
    by_cases hjl : j < T.length
    · obtain ⟨r, h1, hr⟩ := ih ((j : Int) + 1) ⟨j + 1, by omega, by omega⟩ (by simp only [Int.toNat_natCast]; omega)
      have hl : (T.getD j []).length ≤ 1048576 := by
        rw [List.getD_eq_getElem?_getD, List.getElem?_eq_getElem hjl]; exact ht _ (List.getElem_mem hjl)
      rw [decide_eq_true (show (j : Int) < (T.length : Int) by omega), inb_true (by omega) (by omega), w64 (n := (j : Int) + 1) (by omega) (by omega), h1, textP n _ (by omega) (by omega)]
      simp only [cond_true, Option.bind_some]
      by_cases hz : (textV (T.getD j [])).2 = 0
      · rw [hz]
        refine ⟨r, rfl, fun hr0 i hi hil => ?_⟩
        by_cases hij : i = j
        · subst hij; exact hz
        · exact hr hr0 i (by omega) hil
      · rw [show ((textV (T.getD j [])).2 != 0) = true from bne_iff_ne.2 hz]
        exact ⟨_, rfl, fun h => absurd h hz⟩
    · rw [decide_eq_false (by omega)]
      obtain ⟨r, h1⟩ := l25_some n F hF T [a, b, c, d] rfl (by omega)
      exact ⟨r, h1, fun _ i hi hil => by omega⟩) n 0 ⟨0, rfl, by omega⟩ (by simp; omega)
  rw [h0] at h
  exact fun j hj => hq (Option.some.inj h).symm j (by simp) hj
theorem sheetOK (n : Nat) (hn : 1100000 < n) (ht : ∀ t ∈ T, t.length ≤ 1048576) (h : F12 n u c s p m v r l k a z g cv cn ca cp F T = some 0) :
    (devVV u c s p m v r l k a z g).2 = 0 ∧ (confV cv cn ca cp F).2 = 0 ∧ T.length ≤ 8 ∧ ∀ j, j < T.length → (textV (T.getD j [])).2 = 0 := by
  unfold F12 at h
  rw [devP u c s p m v r l k a z g n (by omega), confP n (by omega)] at h
  simp only [Option.bind_some] at h
  by_cases h1 : (devVV u c s p m v r l k a z g).2 = 0
  · rw [show ((devVV u c s p m v r l k a z g).2 != 0) = false from bne_eq_false_iff_eq.2 h1] at h
    by_cases h2 : g = 1
    · subst h2
      by_cases h3 : (confV cv cn ca cp F).2 = 0
      · rw [show ((confV cv cn ca cp F).2 != 0) = false from bne_eq_false_iff_eq.2 h3] at h
        by_cases h8 : ((T.length : Nat) : Int) > 8
        · rw [decide_eq_true h8] at h
          exact absurd h (by simp)
        · rw [decide_eq_false h8] at h
          exact ⟨h1, h3, by omega, l22_ok n hn _ _ _ _ F (conf_faces h3) T (by omega) ht h⟩
      · rw [show ((confV cv cn ca cp F).2 != 0) = true from bne_iff_ne.2 h3] at h
        exact absurd (Option.some.inj h) h3
    · rw [show (g != 1) = true from bne_iff_ne.2 h2] at h
      exact absurd h (by simp)
  · rw [show ((devVV u c s p m v r l k a z g).2 != 0) = true from bne_iff_ne.2 h1] at h
    exact absurd (Option.some.inj h) h1
theorem descS (n : Nat) (hn : 1100000 < n) (ht : ∀ t ∈ T, t.length ≤ 1048576) (h1 : (devVV u c s p m v r l k a z g).2 = 0) (h2 : (confV cv cn ca cp F).2 = 0) (h3 : T.length ≤ 8) (h4 : ∀ j, j < T.length → (textV (T.getD j [])).2 = 0) (st ad ha : Int) (av : Nat) (hv : av < 65536) :
    ∃ (t : Tx) (ok : Bool), F58 n u c s p m v r l k a z g cv cn ca cp F T st ad ha (av : Int) = some (t, bif ok then 0 else 8) ∧ F42 n u c s p m v r l k a z g cv cn ca cp F T (av : Int) = some (t, ok) ∧ (ok = false → t = []) := by
  unfold F58 F42
  rw [devP u c s p m v r l k a z g n (by omega), devR u c s p m v r l k a z g n (by omega), confP n (by omega), confR n (by omega), btw3]
  simp only [Option.bind_some]
  by_cases c1 : av = 256
  · subst c1
    exact ⟨_, true, by rw [h1]; rfl, rfl, fun h => by cases h⟩
  rw [show ((av : Int) == 256) = false from beq_eq_false_iff_ne.2 (by omega)]
  by_cases c2 : av = 512
  · subst c2
    exact ⟨_, true, by rw [h2]; rfl, rfl, fun h => by cases h⟩
  rw [show ((av : Int) == 512) = false from beq_eq_false_iff_ne.2 (by omega), w64 (n := (av : Int) - 768) (by omega) (by omega), w64 (n := 768 + ((T.length : Nat) : Int)) (by omega) (by omega)]
  simp only [cond_false]
  by_cases c3 : av = 768
  · subst c3
    exact ⟨_, true, rfl, rfl, fun h => by cases h⟩
  rw [show ((av : Int) - 768 == 0) = false from beq_eq_false_iff_ne.2 (by omega), show ((av : Int) == 768) = false from beq_eq_false_iff_ne.2 (by omega)]
  simp only [cond_false]
  by_cases c4 : 769 ≤ av
  · rw [decide_eq_true (show (av : Int) - 768 ≥ 1 by omega)]
    by_cases c5 : av ≤ 768 + T.length
    · rw [decide_eq_true (show (av : Int) - 768 ≤ ((T.length : Nat) : Int) by omega), decide_eq_true (show (769 : Int) ≤ (av : Int) ∧ (av : Int) ≤ 768 + ((T.length : Nat) : Int) by omega), w64 (n := (av : Int) - 768 - 1) (by omega) (by omega), w64 (n := (av : Int) - 769) (by omega) (by omega), show (av : Int) - 768 - 1 = (av : Int) - 769 by omega, inb_true (by omega) (by omega)]
      simp only [cond_true]
      obtain ⟨j, hj⟩ : ∃ j, ((av : Int) - 769).toNat = j := ⟨_, rfl⟩
      rw [hj]
      have hjl : j < T.length := by omega
      have hl : (T.getD j []).length ≤ 1048576 := by
        rw [List.getD_eq_getElem?_getD, List.getElem?_eq_getElem hjl]; exact ht _ (List.getElem_mem hjl)
      rw [textP n _ (by omega) (by omega), textR n _ (by omega) (by omega)]
      exact ⟨_, true, by simp only [Option.bind_some, h4 j hjl]; rfl, rfl, fun h => by cases h⟩
    · rw [decide_eq_false (show ¬ (av : Int) - 768 ≤ ((T.length : Nat) : Int) by omega), decide_eq_false (show ¬ ((769 : Int) ≤ (av : Int) ∧ (av : Int) ≤ 768 + ((T.length : Nat) : Int)) by omega)]
      exact ⟨_, false, rfl, rfl, fun _ => rfl⟩
  · rw [decide_eq_false (show ¬ (av : Int) - 768 ≥ 1 by omega), decide_eq_false (show ¬ ((769 : Int) ≤ (av : Int) ∧ (av : Int) ≤ 768 + ((T.length : Nat) : Int)) by omega)]
    exact ⟨_, false, rfl, rfl, fun _ => rfl⟩
end
end Go.Proofs.Ytnibbbmjjdkkgaa
