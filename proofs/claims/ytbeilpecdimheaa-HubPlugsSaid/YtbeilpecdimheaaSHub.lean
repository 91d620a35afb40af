/- The law HubPlugs, in plain Lean. -/
import Derived.Test.YtbeilpecdimheaaFh
import Derived.Test.YtbeilpecdimheaaAm23
import Derived.Laws.BitsAllLaws
namespace Go.Proofs.Ytbeilpecdimheaa
open Go Go.RowKit
set_option linter.unusedVariables false

theorem i64_andNot (a b : Nat) (ha : a < 9223372036854775808) (hb : b < 9223372036854775808) : bitsI .andNot .i64 (a : Int) (b : Int) = ((a &&& (18446744073709551615 - b) : Nat) : Int) := by
  have h := u64_andNot_nat a b (by omega) (by omega)
  have hlt : a &&& (18446744073709551615 - b) ≤ a := Nat.and_le_left
  have e : bits .andNot .u64 (a : Int) (b : Int) = IntKind.wrap .u64 ((BitVec.ofInt 64 (a : Int) &&& ~~~ BitVec.ofInt 64 (b : Int)).toNat : Int) := by
    rfl
  have e2 : bitsI .andNot .i64 (a : Int) (b : Int) = IntKind.wrap .i64 ((BitVec.ofInt 64 (a : Int) &&& ~~~ BitVec.ofInt 64 (b : Int)).toNat : Int) := by
    rfl
  rw [e, IntKind.wrap_u64] at h
  have hlt2 := (BitVec.ofInt 64 (a : Int) &&& ~~~ BitVec.ofInt 64 (b : Int)).isLt
  rw [e2]
  generalize (BitVec.ofInt 64 (a : Int) &&& ~~~ BitVec.ofInt 64 (b : Int)).toNat = z at *
  have : (z : Int) = ((a &&& (18446744073709551615 - b) : Nat) : Int) := by rw [← h]; omega
  rw [this]
  exact w64 (by omega) (by omega)
theorem only_mask (a c : Nat) (ha : a < 18446744073709551616) (hc : ∀ i : Nat, i < 64 → (18446744073709551615 - c).testBit i = !c.testBit i) (h : a &&& (18446744073709551615 - c) = 0) : a ≤ c := by
  have e : a &&& c = a := by
    apply Nat.eq_of_testBit_eq
    intro i
    rw [Nat.testBit_and]
    rcases Nat.lt_or_ge i 64 with hi | hi
    · have h1 := congrArg (fun z => Nat.testBit z i) h
      simp only [Nat.testBit_and, Nat.zero_testBit, hc i hi] at h1
      revert h1
      cases a.testBit i <;> cases c.testBit i <;> simp
    · have : a.testBit i = false := Nat.testBit_lt_two_pow (Nat.lt_of_lt_of_le ha (by
        have : (18446744073709551616 : Nat) = 2 ^ 64 := by decide
        rw [this]; exact Nat.pow_le_pow_right (by decide) hi))
      rw [this]; rfl
  rw [← e]; exact Nat.and_le_right
def okS (x : Int) : Bool := x == 0 || (x == 256 || (x == 257 || (x == 259 || x == 273)))
def okC (x : Int) : Bool := (decide (0 ≤ x) && decide (x ≤ 3)) || (decide (16 ≤ x) && decide (x ≤ 19))
theorem hf66 (n : Nat) (a b c : Int) : F66 n a b c = some (decide (b ≤ a) && decide (a ≤ c)) := by
  unfold F66
  by_cases h : b ≤ a <;> simp [h]
theorem f83_eq (n : Nat) (x : Int) : F83 n x = some (okS x) := by
  unfold F83 okS
  cases x == 0 <;> cases x == 256 <;> cases x == 257 <;> cases x == 259 <;> rfl
theorem f84_eq (n : Nat) (x : Int) : F84 n x = some (okC x) := by
  unfold F84 okC
  rw [hf66, hf66]
  simp only [Option.bind_some]
  cases (decide (0 ≤ x) && decide (x ≤ 3)) <;> rfl
theorem okS_cases {x : Int} (h : okS x = true) : x = 0 ∨ x = 256 ∨ x = 257 ∨ x = 259 ∨ x = 273 := by
  simpa [okS] using h
theorem okC_cases {x : Int} (h : okC x = true) : x = 0 ∨ x = 1 ∨ x = 2 ∨ x = 3 ∨ x = 16 ∨ x = 17 ∨ x = 18 ∨ x = 19 := by
  simp only [okC, Bool.or_eq_true, Bool.and_eq_true, decide_eq_true_eq] at h
  omega
theorem tailS : ∀ k : _root_.Fin 276, bitsI .andNot .i64 ((k.val : Nat) : Int) 275 = 0 → F82_j2 0 ((k.val : Nat) : Int) false = some (okS ((k.val : Nat) : Int)) := by decide +kernel
theorem tailC : ∀ k : _root_.Fin 20, bitsI .andNot .i64 ((k.val : Nat) : Int) 19 = 0 → okC ((k.val : Nat) : Int) = true := by decide +kernel
theorem bit275 : ∀ i : _root_.Fin 64, (18446744073709551615 - 275).testBit i.val = !(275 : Nat).testBit i.val := by decide +kernel
theorem bit19 : ∀ i : _root_.Fin 64, (18446744073709551615 - 19).testBit i.val = !(19 : Nat).testBit i.val := by decide +kernel
theorem f82_n (n : Nat) (p : Int) (b : Bool) : F82_j2 n p b = F82_j2 0 p b := rfl
theorem f82_eq (n : Nat) (s c : Int) (hs : s ≤ 9223372036854775807) (hc : c ≤ 9223372036854775807) : F82 n s c = some (okS s && okC c) := by
  unfold F82
  by_cases h1 : s < 0
  · have : okS s = false := by simp only [okS]; simp; omega
    rw [decide_eq_true h1, this]; rfl
  rw [decide_eq_false h1]
  obtain ⟨S, rfl⟩ := Int.eq_ofNat_of_zero_le (by omega : 0 ≤ s)
  simp only [cond_false]
  by_cases h2 : bitsI .andNot .i64 (S : Int) 275 = 0
  · have e2 : (bitsI .andNot .i64 (S : Int) 275 != 0) = false := by rw [h2]; rfl
    rw [e2]
    simp only [cond_false]
    have hS : S ≤ 275 := by
      refine only_mask S 275 (by omega) (fun i hi => bit275 ⟨i, hi⟩) ?_
      have := i64_andNot S 275 (by omega) (by omega)
      have h2' : bitsI .andNot .i64 (S : Int) ((275 : Nat) : Int) = 0 := h2
      rw [h2'] at this; omega
    have tS := tailS ⟨S, by omega⟩ h2
    simp only at tS
    by_cases h3 : c < 0
    · have : okC c = false := by simp only [okC]; simp; omega
      rw [decide_eq_true h3, this, Bool.and_false]; rfl
    rw [decide_eq_false h3]
    obtain ⟨K, rfl⟩ := Int.eq_ofNat_of_zero_le (by omega : 0 ≤ c)
    simp only [cond_false]
    by_cases h4 : bitsI .andNot .i64 (K : Int) 19 = 0
    · have e4 : (bitsI .andNot .i64 (K : Int) 19 != 0) = false := by rw [h4]; rfl
      have hK : K ≤ 19 := by
        refine only_mask K 19 (by omega) (fun i hi => bit19 ⟨i, hi⟩) ?_
        have := i64_andNot K 19 (by omega) (by omega)
        have h4' : bitsI .andNot .i64 (K : Int) ((19 : Nat) : Int) = 0 := h4
        rw [h4'] at this; omega
      have tC := tailC ⟨K, by omega⟩ h4
      simp only at tC
      rw [e4, f82_n, tS, tC, Bool.and_true]
    · have e4 : (bitsI .andNot .i64 (K : Int) 19 != 0) = true := by simpa using h4
      have : okC (K : Int) = false := by
        cases hk : okC (K : Int) with
        | false => rfl
        | true =>
          exfalso; apply h4
          rcases okC_cases hk with h | h | h | h | h | h | h | h <;> rw [h] <;> decide +kernel
      rw [e4, this, Bool.and_false]; rfl
  · have e2 : (bitsI .andNot .i64 (S : Int) 275 != 0) = true := by simpa using h2
    have : okS (S : Int) = false := by
      cases hk : okS (S : Int) with
      | false => rfl
      | true =>
        exfalso; apply h2
        rcases okS_cases hk with h | h | h | h | h <;> rw [h] <;> decide +kernel
    rw [e2, this]; rfl
abbrev Pt := Int × Int
abbrev pz : Pt := ((0 : Int), (0 : Int))
def InR (R : List Pt) : Prop := ∀ i : Nat, (R.getD i pz).1 ≤ 9223372036854775807 ∧ (R.getD i pz).2 ≤ 9223372036854775807
theorem chk_same (n m : Nat) (cnt : Int) (R : List Pt) (hR : InR R) : ∀ x : Int, 0 ≤ x → loopF (F45_l2 n cnt R) m x = loopF (F46_l2 n cnt R) m x := by
  induction m with
  | zero => intro x _; rfl
  | succ m ih =>
    intro x hx0
    by_cases hx : x < 16
    · have ih1 := ih (x + 1) (by omega)
      have hw : IntKind.wrap .i64 (x + 1) = x + 1 := w64 (by omega) (by omega)
      have hr := hR x.toNat
      simp only [loopF, F45_l2, F46_l2, hf66, f83_eq, f84_eq, Option.bind_some, Sh.beq, hw, ih1]
      rw [inb_true hx0 (by omega), decide_eq_true hx]
      generalize hq : R.getD x.toNat ((0 : Int), (0 : Int)) = q at hr ⊢
      obtain ⟨s, c⟩ := q
      simp only at hr ⊢
      rw [f82_eq n s c hr.1 hr.2]
      simp only [Option.bind_some, cond_true]
      generalize loopF (F46_l2 n cnt R) m (x + 1) = L
      cases hs : okS s
      · cases x == 0 <;> cases decide (x > cnt) <;> cases s == 0 <;> cases c == 0 <;> rfl
      · cases hc : okC c
        · cases x == 0 <;> cases decide (x > cnt) <;> cases s == 0 <;> cases c == 0 <;> rfl
        · have hsum : (IntKind.wrap .i64 (s + c) != 0) = !(s == 0 && c == 0) := by
            have a1 := okS_cases hs
            have a2 := okC_cases hc
            rw [w64 (by omega) (by omega)]
            by_cases b1 : s = 0
            · subst b1; simp [bne]
            · have : ¬ s + c = 0 := by omega
              simp only [bne]
              rw [beq_eq_false_iff_ne.2 this, beq_eq_false_iff_ne.2 b1]; rfl
          rw [hsum]
          have e0 : (decide (1 ≤ x) && decide (x ≤ cnt)) = !((x == 0) || decide (x > cnt)) := by
            by_cases b1 : x = 0
            · subst b1; simp
            · by_cases b2 : x > cnt
              · have : ¬ x ≤ cnt := by omega
                simp [b2, this]
              · have : 1 ≤ x := by omega
                have : x ≤ cnt := by omega
                simp [*]
          rw [e0]
          cases x == 0 <;> cases decide (x > cnt) <;> cases s == 0 <;> cases c == 0 <;> rfl
    · simp only [loopF, F45_l2, F46_l2]
      rw [decide_eq_false hx]; rfl
theorem f45_f46 (n : Nat) (cnt : Int) (R : List Pt) (hR : InR R) : F45 n cnt R = F46 n cnt R := by
  unfold F45 F46
  rw [hf66, chk_same n n cnt R hR 0 (by omega)]
  simp only [Option.bind_some]
  by_cases h1 : cnt < 1
  · have e1 : ¬ 1 ≤ cnt := by omega
    rw [decide_eq_true h1, decide_eq_false e1]; rfl
  · by_cases h2 : cnt > 15
    · have e1 : ¬ cnt ≤ 15 := by omega
      rw [decide_eq_false h1, decide_eq_true h2, decide_eq_false e1, Bool.and_false]; rfl
    · have e1 : (1 ≤ cnt) := by omega
      have e2 : (cnt ≤ 15) := by omega
      simp [h1, h2, e1, e2]
def PortsIn (R : List Pt) : Prop := ∀ i : Nat, i < 16 → okS (R.getD i pz).1 = true ∧ okC (R.getD i pz).2 = true
theorem f46_ok (n : Nat) (hn : 17 ≤ n) (cnt : Int) (R : List Pt) : ∃ r, F46 n cnt R = some r ∧ (r = 0 → PortsIn R ∧ cnt ≤ 15) := by
  unfold F46
  rw [hf66]
  simp only [Option.bind_some]
  cases hcnt : (decide (1 ≤ cnt) && decide (cnt ≤ 15))
  · exact ⟨1, rfl, by omega⟩
  simp only [Bool.and_eq_true, decide_eq_true_eq] at hcnt
  obtain ⟨r, h1, h2⟩ := loopF_post (F46_l2 n cnt R) (fun x => 0 ≤ x ∧ x ≤ 16) (fun x r => r = 0 → ∀ i : Nat, x ≤ i → i < 16 → okS (R.getD i pz).1 = true ∧ okC (R.getD i pz).2 = true) (fun x => (16 - x).toNat) (by
    rintro k x ⟨hx0, hx1⟩ ih
    simp only [F46_l2, hf66, f83_eq, f84_eq, Option.bind_some]
    by_cases hx : x < 16
    · have hw : IntKind.wrap .i64 (x + 1) = x + 1 := w64 (by omega) (by omega)
      obtain ⟨r, hr1, hr2⟩ := ih (x + 1) ⟨by omega, by omega⟩ (by omega)
      rw [inb_true hx0 (by omega), hw, hr1, decide_eq_true hx]
      generalize hqq : R.getD x.toNat ((0 : Int), (0 : Int)) = q
      obtain ⟨s, c⟩ := q
      simp only [cond_true]
      cases hs : okS s
      · exact ⟨4, rfl, by omega⟩
      cases hc : okC c
      · exact ⟨4, rfl, by omega⟩
      have fin : r = 0 → ∀ i : Nat, x ≤ i → i < 16 → okS (R.getD i pz).1 = true ∧ okC (R.getD i pz).2 = true := by
        intro hr i h1 h2
        by_cases e : (i : Int) = x
        · have : x.toNat = i := by omega
          rw [← this, hqq]; exact ⟨hs, hc⟩
        · exact hr2 hr i (by omega) h2
      simp only [Bool.not_true, cond_false]
      cases (decide (1 ≤ x) && decide (x ≤ cnt))
      · simp only [Bool.not_false, cond_true]
        cases (IntKind.wrap .i64 (s + c) != 0)
        · exact ⟨r, rfl, fin⟩
        · exact ⟨4, rfl, by omega⟩
      · exact ⟨r, rfl, fin⟩
    · rw [decide_eq_false hx]
      exact ⟨0, rfl, fun _ i h1 h2 => by omega⟩) n 0 ⟨by omega, by omega⟩ (by omega)
  exact ⟨r, h1, fun hr => ⟨fun i hi => h2 hr i (by omega) hi, hcnt.2⟩⟩
theorem with1 : ∀ k : _root_.Fin 20, okC ((k.val : Nat) : Int) = true → F81 0 ((k.val : Nat) : Int) 1 = some (bitsI .or .i64 ((k.val : Nat) : Int) 1) ∧ F81 0 ((k.val : Nat) : Int) 16 = some (bitsI .or .i64 ((k.val : Nat) : Int) 16) ∧
    F81 0 (bitsI .or .i64 ((k.val : Nat) : Int) 1) 2 = some (bitsI .or .i64 ((k.val : Nat) : Int) 3) := by decide +kernel
theorem f81_n (n : Nat) (a b : Int) : F81 n a b = F81 0 a b := rfl
theorem with_ok {c : Int} (n : Nat) (h : okC c = true) : F81 n c 1 = some (bitsI .or .i64 c 1) ∧ F81 n c 16 = some (bitsI .or .i64 c 16) ∧ F81 n (bitsI .or .i64 c 1) 2 = some (bitsI .or .i64 c 3) := by
  rcases okC_cases h with e | e | e | e | e | e | e | e
  · subst e; exact with1 0 (by decide)
  · subst e; exact with1 1 (by decide)
  · subst e; exact with1 2 (by decide)
  · subst e; exact with1 3 (by decide)
  · subst e; exact with1 16 (by decide)
  · subst e; exact with1 17 (by decide)
  · subst e; exact with1 18 (by decide)
  · subst e; exact with1 19 (by decide)
theorem getD_set2 {R : List Pt} {i : Nat} {x : Pt} (h : i < R.length) : (R.set i x).getD i pz = x := by
  simp [List.getD_eq_getElem?_getD, h]
theorem plug_same (n : Nat) (cnt : Int) (R : List Pt) (port : Int) (there : Bool) (hR : InR R) (hl : R.length = 16) (hn : 17 ≤ n) : ∃ r, F41 n cnt R port there = some r ∧ F42 n cnt R port there = some r := by
  obtain ⟨c, hc, hin⟩ := f46_ok n hn cnt R
  unfold F41 F42
  rw [f45_f46 n cnt R hR, hc]
  simp only [Option.bind_some]
  by_cases h0 : c = 0
  · obtain ⟨hP, hcnt⟩ := hin h0
    subst h0
    simp only [bne_self_eq_false, cond_false, hf66, Option.bind_some]
    by_cases h1 : port < 1
    · have e1 : ¬ 1 ≤ port := by omega
      rw [decide_eq_true h1, decide_eq_false e1]
      exact ⟨_, rfl, rfl⟩
    · by_cases h2 : port > cnt
      · have e1 : ¬ port ≤ cnt := by omega
        rw [decide_eq_false h1, decide_eq_true h2, decide_eq_false e1, Bool.and_false]
        exact ⟨_, rfl, rfl⟩
      · have e1 : 1 ≤ port := by omega
        have e2 : port ≤ cnt := by omega
        rw [decide_eq_false h1, decide_eq_false h2, decide_eq_true e1, decide_eq_true e2, inb_true (by omega) (by omega)]
        obtain ⟨hs, hcc⟩ := hP port.toNat (by omega)
        obtain ⟨w1, w2, w3⟩ := with_ok n hcc
        have hlt : port.toNat < R.length := by omega
        simp only [cond_false, cond_true, Bool.and_self, Bool.not_true, List.set_set, getD_set2 hlt]
        generalize hq : R.getD port.toNat ((0 : Int), (0 : Int)) = q at *
        obtain ⟨s, ch⟩ := q
        simp only at *
        have a1 : bitsI .and .i64 0 256 = 0 := by decide +kernel
        have a2 : bitsI .and .i64 256 256 = 256 := by decide +kernel
        have a3 : bitsI .and .i64 257 256 = 256 := by decide +kernel
        have a4 : bitsI .and .i64 259 256 = 256 := by decide +kernel
        have a5 : bitsI .and .i64 273 256 = 256 := by decide +kernel
        have b2 : bitsI .and .i64 256 1 = 0 := by decide +kernel
        have b3 : bitsI .and .i64 257 1 = 1 := by decide +kernel
        have b4 : bitsI .and .i64 259 1 = 1 := by decide +kernel
        have b5 : bitsI .and .i64 273 1 = 1 := by decide +kernel
        have c3 : bitsI .and .i64 257 2 = 0 := by decide +kernel
        have c4 : bitsI .and .i64 259 2 = 2 := by decide +kernel
        have c5 : bitsI .and .i64 273 2 = 0 := by decide +kernel
        have d1 : bitsI .or .i64 256 1 = 257 := by decide +kernel
        have d2 : bitsI .or .i64 1 0 = 1 := by decide +kernel
        have d3 : bitsI .or .i64 1 2 = 3 := by decide +kernel
        rcases okS_cases hs with e | e | e | e | e <;> subst e <;> cases there <;> simp [a1, a2, a3, a4, a5, b2, b3, b4, b5, c3, c4, c5, d1, d2, d3, w1, w3]
  · have e : (c != 0) = true := by simpa using h0
    rw [e]
    exact ⟨_, rfl, rfl⟩
theorem tick_same (n : Nat) (cnt : Int) (R : List Pt) (hR : InR R) (hl : R.length = 16) (hn : 17 ≤ n) : ∃ r, F43 n cnt R = some r ∧ F44 n cnt R = some r := by
  obtain ⟨c, hc, hin⟩ := f46_ok n hn cnt R
  unfold F43 F44
  rw [f45_f46 n cnt R hR, hc]
  simp only [Option.bind_some]
  by_cases h0 : c = 0
  · obtain ⟨hP, hcnt⟩ := hin h0
    subst h0
    simp only [bne_self_eq_false, cond_false]
    obtain ⟨r, r', g1, g2, g3⟩ := loopF_rel (F43_l2 n cnt) (F44_l2 n cnt R) (fun x y => x = y ∧ 0 ≤ x.1 ∧ x.1 ≤ 16 ∧ x.2.length = 16 ∧ ∀ i : Nat, x.1 ≤ i → x.2.getD i pz = R.getD i pz) (fun r r' => r = r') (fun x => (16 - x.1).toNat) (by
      rintro k k' ⟨x, m⟩ y ⟨rfl, hx0, hx1, hml, hm⟩ ih
      simp only at hx0 hx1 hml hm ih
      simp only [F43_l2, F44_l2]
      by_cases hx : x < 16
      · have hw : IntKind.wrap .i64 (x + 1) = x + 1 := w64 (by omega) (by omega)
        rw [inb_true hx0 (by omega), hw, decide_eq_true hx]
        have hlt : x.toNat < m.length := by omega
        have hmx := hm x.toNat (by omega)
        obtain ⟨hs, hcc⟩ := hP x.toNat (by omega)
        obtain ⟨w1, w2, w3⟩ := with_ok n hcc
        simp only [cond_true, List.set_set, getD_set2 hlt, hmx]
        generalize hq : R.getD x.toNat ((0 : Int), (0 : Int)) = q at *
        obtain ⟨s, ch⟩ := q
        simp only at *
        have a1 : bitsI .and .i64 0 16 = 0 := by decide +kernel
        have a2 : bitsI .and .i64 256 16 = 0 := by decide +kernel
        have a3 : bitsI .and .i64 257 16 = 0 := by decide +kernel
        have a4 : bitsI .and .i64 259 16 = 0 := by decide +kernel
        have a5 : bitsI .and .i64 273 16 = 16 := by decide +kernel
        have a6 : bitsI .or .i64 (bitsI .andNot .i64 273 16) 2 = 259 := by decide +kernel
        have stay : ∃ r r', k (x + 1, m) = some r ∧ k' (x + 1, m) = some r' ∧ r = r' := ih (x + 1, m) (x + 1, m) ⟨rfl, by simp only; omega, by simp only; omega, hml, fun i hi => hm i (by simp only at hi; omega)⟩ (by simp only; omega)
        have move : ∀ p : Pt, ∃ r r', k (x + 1, m.set x.toNat p) = some r ∧ k' (x + 1, m.set x.toNat p) = some r' ∧ r = r' := fun p => ih (x + 1, m.set x.toNat p) (x + 1, m.set x.toNat p) ⟨rfl, by simp only; omega, by simp only; omega, by simp [hml], fun i hi => by
          simp only at hi
          have hne : x.toNat ≠ i := by omega
          rw [← hm i (by omega)]
          simp [List.getD_eq_getElem?_getD, hne]⟩ (by simp only; omega)
        rcases okS_cases hs with e | e | e | e | e
        · subst e; simpa [a1] using stay
        · subst e; simpa [a2] using stay
        · subst e; simpa [a3] using stay
        · subst e; simpa [a4] using stay
        · subst e; simpa [a5, a6, w2] using move (259, bitsI .or .i64 ch 16)
      · rw [decide_eq_false hx]; exact ⟨_, _, rfl, rfl, rfl⟩) n n (0, R) (0, R) ⟨rfl, by simp, by simp, hl, fun _ _ => rfl⟩ (by simp only; omega) (by simp only; omega)
    exact ⟨r, g1, by rw [g3]; exact g2⟩
  · have e : (c != 0) = true := by simpa using h0
    rw [e]
    exact ⟨_, rfl, rfl⟩
theorem hubPlugs_says (a0 : Int × List Pt) (g0 : Sh.good (.st (.pair (.int .i64) (.arr 16 (.st (.pair (.int .i64) (.int .i64)))))) a0) (a1 : Int) (g1 : Sh.good (.int .i64) a1) (a2 : Bool) (g2 : Sh.good .bool a2) : ∃ n, F12 n a0.1 a0.2 a1 a2 = some true := by
  have hl : a0.2.length = 16 := g0.2.1
  have hR : InR a0.2 := by
    intro i
    rcases Nat.lt_or_ge i a0.2.length with h | h
    · have hm : a0.2.getD i pz ∈ a0.2 := by
        rw [List.getD_eq_getElem?_getD, List.getElem?_eq_getElem h]; exact List.getElem_mem h
      have := g0.2.2 _ hm
      exact ⟨(good_i64 this.1).2, (good_i64 this.2).2⟩
    · have : a0.2.getD i pz = pz := by rw [List.getD_eq_getElem?_getD, List.getElem?_eq_none h]; rfl
      rw [this]; decide
  obtain ⟨p, p1, p2⟩ := plug_same 17 a0.1 a0.2 a1 a2 hR hl (Nat.le_refl _)
  obtain ⟨t, t1, t2⟩ := tick_same 17 a0.1 a0.2 hR hl (Nat.le_refl _)
  obtain ⟨c, c1, _⟩ := f46_ok 17 (Nat.le_refl _) a0.1 a0.2
  refine ⟨17, ?_⟩
  unfold F12
  rw [p1, p2, t1, t2, f45_f46 17 a0.1 a0.2 hR, c1]
  simp [Sh.beq_self]
end Go.Proofs.Ytbeilpecdimheaa
