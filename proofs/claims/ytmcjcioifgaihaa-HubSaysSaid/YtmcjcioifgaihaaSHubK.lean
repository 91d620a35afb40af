/- The law HubPlugs, in plain Lean. -/
import Derived.Test.YtmcjcioifgaihaaFy
import Derived.Test.YtmcjcioifgaihaaAm26
import Derived.Laws.BitsAllLaws
namespace Go.Proofs.Ytmcjcioifgaihaa
open Go Go.RowKit
set_option linter.unusedVariables false

theorem i64_andNot (a b : Nat) (ha : a < 9223372036854775808) (hb : b < 9223372036854775808) : bitsI .andNot .i64 (a : Int) (b : Int) = ((a &&& (18446744073709551615 - b) : Nat) : Int) := by
  have h := u64_andNot_nat a b (by omega) (by omega)
  have hlt : a &&& (18446744073709551615 - b) ≤ a := Nat.and_le_left
  have e : bits .andNot .u64 (a : Int) (b : Int) = IntKind.wrap .u64 ((BitVec.ofInt 64 (a : Int) &&& ~~~ BitVec.ofInt 64 (b : Int)).toNat : Int) := by
    rfl
  have e2 : bitsI .andNot .i64 (a : Int) (b : Int) = IntKind.wrap .i64 ((BitVec.ofInt 64 (a : Int) &&& ~~~ BitVec.ofInt 64 (b : Int)).toNat : Int) := by
    rfl
  rw [e, IntKind.wrap_u64] at h
  have hlt2 := (BitVec.ofInt 64 (a : Int) &&& ~~~ BitVec.ofInt 64 (b : Int)).isLt
  rw [e2]
  generalize (BitVec.ofInt 64 (a : Int) &&& ~~~ BitVec.ofInt 64 (b : Int)).toNat = z at *
  have : (z : Int) = ((a &&& (18446744073709551615 - b) : Nat) : Int) := by rw [← h]; omega
  rw [this]
  exact w64 (by omega) (by omega)
theorem only_mask (a c : Nat) (ha : a < 18446744073709551616) (hc : ∀ i : Nat, i < 64 → (18446744073709551615 - c).testBit i = !c.testBit i) (h : a &&& (18446744073709551615 - c) = 0) : a ≤ c := by
  have e : a &&& c = a := by
    apply Nat.eq_of_testBit_eq
    intro i
    rw [Nat.testBit_and]
    rcases Nat.lt_or_ge i 64 with hi | hi
    · have h1 := congrArg (fun z => Nat.testBit z i) h
      simp only [Nat.testBit_and, Nat.zero_testBit, hc i hi] at h1
      revert h1
      cases a.testBit i <;> cases c.testBit i <;> simp
    · have : a.testBit i = false := Nat.testBit_lt_two_pow (Nat.lt_of_lt_of_le ha (by
        have : (18446744073709551616 : Nat) = 2 ^ 64 := by decide
        rw [this]; exact Nat.pow_le_pow_right (by decide) hi))
      rw [this]; rfl
  rw [← e]; exact Nat.and_le_right
def okS (x : Int) : Bool := x == 0 || (x == 256 || (x == 257 || (x == 259 || x == 273)))
def okC (x : Int) : Bool := (decide (0 ≤ x) && decide (x ≤ 3)) || (decide (16 ≤ x) && decide (x ≤ 19))
theorem hf66 (n : Nat) (a b c : Int) : F15 n a b c = some (decide (b ≤ a) && decide (a ≤ c)) := by
  unfold F15
  by_cases h : b ≤ a <;> simp [h]
theorem f83_eq (n : Nat) (x : Int) : F153 n x = some (okS x) := by
  unfold F153 okS
  cases x == 0 <;> cases x == 256 <;> cases x == 257 <;> cases x == 259 <;> rfl
theorem f84_eq (n : Nat) (x : Int) : F154 n x = some (okC x) := by
  unfold F154 okC
  rw [hf66, hf66]
  simp only [Option.bind_some]
  cases (decide (0 ≤ x) && decide (x ≤ 3)) <;> rfl
theorem okS_cases {x : Int} (h : okS x = true) : x = 0 ∨ x = 256 ∨ x = 257 ∨ x = 259 ∨ x = 273 := by
  simpa [okS] using h
theorem okC_cases {x : Int} (h : okC x = true) : x = 0 ∨ x = 1 ∨ x = 2 ∨ x = 3 ∨ x = 16 ∨ x = 17 ∨ x = 18 ∨ x = 19 := by
  simp only [okC, Bool.or_eq_true, Bool.and_eq_true, decide_eq_true_eq] at h
  omega
theorem tailS : ∀ k : _root_.Fin 276, bitsI .andNot .i64 ((k.val : Nat) : Int) 275 = 0 → F151_j2 0 ((k.val : Nat) : Int) false = some (okS ((k.val : Nat) : Int)) := by decide +kernel
theorem tailC : ∀ k : _root_.Fin 20, bitsI .andNot .i64 ((k.val : Nat) : Int) 19 = 0 → okC ((k.val : Nat) : Int) = true := by decide +kernel
theorem bit275 : ∀ i : _root_.Fin 64, (18446744073709551615 - 275).testBit i.val = !(275 : Nat).testBit i.val := by decide +kernel
theorem bit19 : ∀ i : _root_.Fin 64, (18446744073709551615 - 19).testBit i.val = !(19 : Nat).testBit i.val := by decide +kernel
theorem f82_n (n : Nat) (p : Int) (b : Bool) : F151_j2 n p b = F151_j2 0 p b := rfl
theorem f82_eq (n : Nat) (s c : Int) (hs : s ≤ 9223372036854775807) (hc : c ≤ 9223372036854775807) : F151 n s c = some (okS s && okC c) := by
  unfold F151
  by_cases h1 : s < 0
  · have : okS s = false := by simp only [okS]; simp; omega
    rw [decide_eq_true h1, this]; rfl
  rw [decide_eq_false h1]
  obtain ⟨S, rfl⟩ := Int.eq_ofNat_of_zero_le (by omega : 0 ≤ s)
  simp only [cond_false]
  by_cases h2 : bitsI .andNot .i64 (S : Int) 275 = 0
  · have e2 : (bitsI .andNot .i64 (S : Int) 275 != 0) = false := by rw [h2]; rfl
    rw [e2]
    simp only [cond_false]
    have hS : S ≤ 275 := by
      refine only_mask S 275 (by omega) (fun i hi => bit275 ⟨i, hi⟩) ?_
      have := i64_andNot S 275 (by omega) (by omega)
      have h2' : bitsI .andNot .i64 (S : Int) ((275 : Nat) : Int) = 0 := h2
      rw [h2'] at this; omega
    have tS := tailS ⟨S, by omega⟩ h2
    simp only at tS
    by_cases h3 : c < 0
    · have : okC c = false := by simp only [okC]; simp; omega
      rw [decide_eq_true h3, this, Bool.and_false]; rfl
    rw [decide_eq_false h3]
    obtain ⟨K, rfl⟩ := Int.eq_ofNat_of_zero_le (by omega : 0 ≤ c)
    simp only [cond_false]
    by_cases h4 : bitsI .andNot .i64 (K : Int) 19 = 0
    · have e4 : (bitsI .andNot .i64 (K : Int) 19 != 0) = false := by rw [h4]; rfl
      have hK : K ≤ 19 := by
        refine only_mask K 19 (by omega) (fun i hi => bit19 ⟨i, hi⟩) ?_
        have := i64_andNot K 19 (by omega) (by omega)
        have h4' : bitsI .andNot .i64 (K : Int) ((19 : Nat) : Int) = 0 := h4
        rw [h4'] at this; omega
      have tC := tailC ⟨K, by omega⟩ h4
      simp only at tC
      rw [e4, f82_n, tS, tC, Bool.and_true]
    · have e4 : (bitsI .andNot .i64 (K : Int) 19 != 0) = true := by simpa using h4
      have : okC (K : Int) = false := by
        cases hk : okC (K : Int) with
        | false => rfl
        | true =>
          exfalso; apply h4
          rcases okC_cases hk with h | h | h | h | h | h | h | h <;> rw [h] <;> decide +kernel
      rw [e4, this, Bool.and_false]; rfl
  · have e2 : (bitsI .andNot .i64 (S : Int) 275 != 0) = true := by simpa using h2
    have : okS (S : Int) = false := by
      cases hk : okS (S : Int) with
      | false => rfl
      | true =>
        exfalso; apply h2
        rcases okS_cases hk with h | h | h | h | h <;> rw [h] <;> decide +kernel
    rw [e2, this]; rfl
abbrev Pt := Int × Int
abbrev pz : Pt := ((0 : Int), (0 : Int))
def InR (R : List Pt) : Prop := ∀ i : Nat, (R.getD i pz).1 ≤ 9223372036854775807 ∧ (R.getD i pz).2 ≤ 9223372036854775807
theorem chk_same (n m : Nat) (cnt : Int) (R : List Pt) (hR : InR R) : ∀ x : Int, 0 ≤ x → loopF (F88_l2 n cnt R) m x = loopF (F92_l2 n cnt R) m x := by
  induction m with
  | zero => intro x _; rfl
  | succ m ih =>
    intro x hx0
    by_cases hx : x < 16
    · have ih1 := ih (x + 1) (by omega)
      have hw : IntKind.wrap .i64 (x + 1) = x + 1 := w64 (by omega) (by omega)
      have hr := hR x.toNat
      simp only [loopF, F88_l2, F92_l2, hf66, f83_eq, f84_eq, Option.bind_some, Sh.beq, hw, ih1]
      rw [inb_true hx0 (by omega), decide_eq_true hx]
      generalize hq : R.getD x.toNat ((0 : Int), (0 : Int)) = q at hr ⊢
      obtain ⟨s, c⟩ := q
      simp only at hr ⊢
      rw [f82_eq n s c hr.1 hr.2]
      simp only [Option.bind_some, cond_true]
      generalize loopF (F92_l2 n cnt R) m (x + 1) = L
      cases hs : okS s
      · cases x == 0 <;> cases decide (x > cnt) <;> cases s == 0 <;> cases c == 0 <;> rfl
      · cases hc : okC c
        · cases x == 0 <;> cases decide (x > cnt) <;> cases s == 0 <;> cases c == 0 <;> rfl
        · have hsum : (IntKind.wrap .i64 (s + c) != 0) = !(s == 0 && c == 0) := by
            have a1 := okS_cases hs
            have a2 := okC_cases hc
            rw [w64 (by omega) (by omega)]
            by_cases b1 : s = 0
            · subst b1; simp [bne]
            · have : ¬ s + c = 0 := by omega
              simp only [bne]
              rw [beq_eq_false_iff_ne.2 this, beq_eq_false_iff_ne.2 b1]; rfl
          rw [hsum]
          have e0 : (decide (1 ≤ x) && decide (x ≤ cnt)) = !((x == 0) || decide (x > cnt)) := by
            by_cases b1 : x = 0
            · subst b1; simp
            · by_cases b2 : x > cnt
              · have : ¬ x ≤ cnt := by omega
                simp [b2, this]
              · have : 1 ≤ x := by omega
                have : x ≤ cnt := by omega
                simp [*]
          rw [e0]
          cases x == 0 <;> cases decide (x > cnt) <;> cases s == 0 <;> cases c == 0 <;> rfl
    · simp only [loopF, F88_l2, F92_l2]
      rw [decide_eq_false hx]; rfl
theorem f45_f46 (n : Nat) (cnt : Int) (R : List Pt) (hR : InR R) : F88 n cnt R = F92 n cnt R := by
  unfold F88 F92
  rw [hf66, chk_same n n cnt R hR 0 (by omega)]
  simp only [Option.bind_some]
  by_cases h1 : cnt < 1
  · have e1 : ¬ 1 ≤ cnt := by omega
    rw [decide_eq_true h1, decide_eq_false e1]; rfl
  · by_cases h2 : cnt > 15
    · have e1 : ¬ cnt ≤ 15 := by omega
      rw [decide_eq_false h1, decide_eq_true h2, decide_eq_false e1, Bool.and_false]; rfl
    · have e1 : (1 ≤ cnt) := by omega
      have e2 : (cnt ≤ 15) := by omega
      simp [h1, h2, e1, e2]
def PortsIn (R : List Pt) : Prop := ∀ i : Nat, i < 16 → okS (R.getD i pz).1 = true ∧ okC (R.getD i pz).2 = true
theorem f46_ok (n : Nat) (hn : 17 ≤ n) (cnt : Int) (R : List Pt) : ∃ r, F92 n cnt R = some r ∧ (r = 0 → PortsIn R ∧ cnt ≤ 15) := by
  unfold F92
  rw [hf66]
  simp only [Option.bind_some]
  cases hcnt : (decide (1 ≤ cnt) && decide (cnt ≤ 15))
  · exact ⟨1, rfl, by omega⟩
  simp only [Bool.and_eq_true, decide_eq_true_eq] at hcnt
  obtain ⟨r, h1, h2⟩ := loopF_post (F92_l2 n cnt R) (fun x => 0 ≤ x ∧ x ≤ 16) (fun x r => r = 0 → ∀ i : Nat, x ≤ i → i < 16 → okS (R.getD i pz).1 = true ∧ okC (R.getD i pz).2 = true) (fun x => (16 - x).toNat) (by
    rintro k x ⟨hx0, hx1⟩ ih
    simp only [F92_l2, hf66, f83_eq, f84_eq, Option.bind_some]
    by_cases hx : x < 16
    · have hw : IntKind.wrap .i64 (x + 1) = x + 1 := w64 (by omega) (by omega)
      obtain ⟨r, hr1, hr2⟩ := ih (x + 1) ⟨by omega, by omega⟩ (by omega)
      rw [inb_true hx0 (by omega), hw, hr1, decide_eq_true hx]
      generalize hqq : R.getD x.toNat ((0 : Int), (0 : Int)) = q
      obtain ⟨s, c⟩ := q
      simp only [cond_true]
      cases hs : okS s
      · exact ⟨4, rfl, by omega⟩
      cases hc : okC c
      · exact ⟨4, rfl, by omega⟩
      have fin : r = 0 → ∀ i : Nat, x ≤ i → i < 16 → okS (R.getD i pz).1 = true ∧ okC (R.getD i pz).2 = true := by
        intro hr i h1 h2
        by_cases e : (i : Int) = x
        · have : x.toNat = i := by omega
          rw [← this, hqq]; exact ⟨hs, hc⟩
        · exact hr2 hr i (by omega) h2
      simp only [Bool.not_true, cond_false]
      cases (decide (1 ≤ x) && decide (x ≤ cnt))
      · simp only [Bool.not_false, cond_true]
        cases (IntKind.wrap .i64 (s + c) != 0)
        · exact ⟨r, rfl, fin⟩
        · exact ⟨4, rfl, by omega⟩
      · exact ⟨r, rfl, fin⟩
    · rw [decide_eq_false hx]
      exact ⟨0, rfl, fun _ i h1 h2 => by omega⟩) n 0 ⟨by omega, by omega⟩ (by omega)
  exact ⟨r, h1, fun hr => ⟨fun i hi => h2 hr i (by omega) hi, hcnt.2⟩⟩
theorem with1 : ∀ k : _root_.Fin 20, okC ((k.val : Nat) : Int) = true → F177 0 ((k.val : Nat) : Int) 1 = some (bitsI .or .i64 ((k.val : Nat) : Int) 1) ∧ F177 0 ((k.val : Nat) : Int) 16 = some (bitsI .or .i64 ((k.val : Nat) : Int) 16) ∧
    F177 0 (bitsI .or .i64 ((k.val : Nat) : Int) 1) 2 = some (bitsI .or .i64 ((k.val : Nat) : Int) 3) := by decide +kernel
theorem f81_n (n : Nat) (a b : Int) : F177 n a b = F177 0 a b := rfl
theorem with_ok {c : Int} (n : Nat) (h : okC c = true) : F177 n c 1 = some (bitsI .or .i64 c 1) ∧ F177 n c 16 = some (bitsI .or .i64 c 16) ∧ F177 n (bitsI .or .i64 c 1) 2 = some (bitsI .or .i64 c 3) := by
  rcases okC_cases h with e | e | e | e | e | e | e | e
  · subst e; exact with1 0 (by decide)
  · subst e; exact with1 1 (by decide)
  · subst e; exact with1 2 (by decide)
  · subst e; exact with1 3 (by decide)
  · subst e; exact with1 16 (by decide)
  · subst e; exact with1 17 (by decide)
  · subst e; exact with1 18 (by decide)
  · subst e; exact with1 19 (by decide)
theorem getD_set2 {R : List Pt} {i : Nat} {x : Pt} (h : i < R.length) : (R.set i x).getD i pz = x := by
  simp [List.getD_eq_getElem?_getD, h]
end Go.Proofs.Ytmcjcioifgaihaa
