/- The law HubSays, in plain Lean (second part: which ports have changes; the law). -/
import Derived.Test.YtmcjcioifgaihaaSSays
namespace Go.Proofs.Ytmcjcioifgaihaa
open Go Go.RowKit
set_option linter.unusedVariables false

def chg (R : List Pt) (i : Nat) : Bool := (R.getD i pz).2 != 0
/-- the number of the changes of the first ports -/
def num (R : List Pt) : Nat → Nat
  | 0 => 0
  | i + 1 => num R i + (if chg R i then 2 ^ i else 0)
theorem num_lt (R : List Pt) : ∀ i, num R i < 2 ^ i
  | 0 => by simp [num]
  | i + 1 => by
    have := num_lt R i
    rw [num, Nat.pow_succ]
    split <;> omega
theorem num_stop (R : List Pt) (c : Nat) (h : ∀ i, c < i → i < 16 → chg R i = false) : ∀ k, c + 1 + k ≤ 16 → num R (c + 1 + k) = num R (c + 1)
  | 0, _ => rfl
  | k + 1, hk => by
    rw [show c + 1 + (k + 1) = (c + 1 + k) + 1 by omega, num, h (c + 1 + k) (by omega) (by omega)]
    simpa using num_stop R c h k (by omega)
theorem orU8 (a j : Nat) (hj : j < 8) (ha : a < 2 ^ j) : bitsI .or .u8 (a : Int) (shlI .u8 1 (IntKind.wrap .u64 (j : Int))) = ((a + 2 ^ j : Nat) : Int) := by
  have h8 : (2 : Nat) ^ j ≤ 2 ^ 7 := Nat.pow_le_pow_right (by omega) (by omega)
  have e1 : IntKind.wrap .u64 (j : Int) = (j : Int) := by rw [u64w]; omega
  have e2 : shlI .u8 1 (j : Int) = ((2 ^ j : Nat) : Int) := by
    unfold shlI
    rw [Int.toNat_natCast, Nat.min_eq_left (by simp [IntKind.bits]; omega), u8w, Int.one_mul]
    have : (2 : Int) ^ j = ((2 ^ j : Nat) : Int) := by simp
    rw [this]
    omega
  rw [e1, e2]
  have bv8 : ∀ x : Nat, x < 256 → (BitVec.ofInt 8 (x : Int)).toNat = x := fun x hx => by
    rw [BitVec.toNat_ofInt]; omega
  have hor : a ||| 2 ^ j = a + 2 ^ j := by
    have := nat_or_add a 1 j ha
    rwa [Nat.one_mul] at this
  show IntKind.u8.wrap ((BitVec.ofInt 8 (a : Int) ||| BitVec.ofInt 8 ((2 ^ j : Nat) : Int)).toNat : Int) = _
  rw [BitVec.toNat_or, bv8 a (by omega), bv8 _ (by omega), hor, u8w]
  omega
/-- the bytes of a number of ports -/
def bys (w x : Nat) : List Int := if w = 1 then [(x : Int)] else [((x % 256 : Nat) : Int), ((x / 256 : Nat) : Int)]
theorem changes (n : Nat) (hn : 40 ≤ n) (cnt : Int) (R : List Pt) (hR : InR R) : ∃ r, F35 n cnt R = some r ∧ F36 n cnt R = some r := by
  obtain ⟨e, h1, h2⟩ := hubK n (by omega) cnt R
  unfold F35 F36
  rw [f45_f46 n cnt R hR, h1]
  simp only [Option.bind_some]
  by_cases he : e = 0
  · subst he
    obtain ⟨hP, hcnt, hz⟩ := h2 rfl
    obtain ⟨c, rfl⟩ : ∃ c : Nat, cnt = (c : Int) := ⟨cnt.toNat, by omega⟩
    have hoff : ∀ i, c < i → i < 16 → chg R i = false := fun i i1 i2 => by
      unfold chg
      rw [hz i i2 (by omega)]; rfl
    have hN : num R 16 = num R (c + 1) := by
      have := num_stop R c hoff (15 - c) (by omega)
      rwa [show c + 1 + (15 - c) = 16 by omega] at this
    obtain ⟨w, hw, hw2⟩ : ∃ w : Nat, w = c / 8 + 1 ∧ (w = 1 ∨ w = 2) := ⟨c / 8 + 1, rfl, by omega⟩
    have ew : IntKind.wrap .i64 (IntKind.wrap .i64 ((c : Int).tdiv 8) + 1) = (w : Int) := by
      rw [Int.tdiv_eq_ediv_of_nonneg (by omega), w64 (n := (c : Int) / 8) (by omega) (by omega), w64 (by omega) (by omega)]; omega
    have hlt := num_lt R (c + 1)
    have hlt16 : num R 16 < 65536 := num_lt R 16
    rw [ew, decide_eq_true (show 0 ≤ (w : Int) ∧ (w : Int) ≤ 17179869184 by omega), Int.toNat_natCast]
    have prog : loopF (F35_l2 n R) n (0, List.replicate w 0) = some (strOf (bys w (num R 16)), 0) := by
      refine loopF_eq (F35_l2 n R) (fun _ => some (strOf (bys w (num R 16)), 0)) (fun d => ∃ x : Nat, d = ((x : Int), bys w (num R x)) ∧ x ≤ 16) (fun d => 16 - d.1.toNat) ?_ n _ ⟨0, ?_, by omega⟩ (by simp; omega)
      · rintro kk d ⟨x, rfl, hx⟩ ih
        simp only [F35_l2, Int.toNat_natCast]
        by_cases hxa : x < 16
        · have hx2 := num_lt R x
          rw [decide_eq_true (show (x : Int) < 16 by omega), inb_true (show (0 : Int) ≤ x by omega) (show (x : Int) < (16 : Nat) by omega), w64 (n := (x : Int) + 1) (by omega) (by omega)]
          simp only [cond_true]
          show (bif chg R x then _ else kk ((x : Int) + 1, bys w (num R x))) = _
          have next : ∀ m, m = bys w (num R (x + 1)) → kk ((x : Int) + 1, m) = some (strOf (bys w (num R 16)), 0) := fun m hm => by
            rw [hm]
            exact ih _ ⟨x + 1, rfl, by omega⟩ (by simp only; omega)
          cases hc : chg R x
          · refine next _ ?_
            rw [num, hc]; rfl
          · have hxc : x ≤ c := by
              by_cases q : x ≤ c
              · exact q
              · have := hoff x (by omega) hxa
                rw [hc] at this; cases this
            have ed : IntKind.wrap .i64 ((x : Int).tdiv 8) = ((x / 8 : Nat) : Int) := by
              rw [Int.tdiv_eq_ediv_of_nonneg (by omega), w64 (by omega) (by omega)]; omega
            have em : (x : Int).tmod 8 = ((x % 8 : Nat) : Int) := by
              rw [Int.tmod_eq_emod_of_nonneg (by omega)]; omega
            rw [ed, em, decide_eq_true (show 0 ≤ IntKind.wrap .u64 ((x % 8 : Nat) : Int) by rw [u64w]; omega), Int.toNat_natCast]
            have en : num R (x + 1) = num R x + 2 ^ x := by rw [num, hc]; rfl
            simp only [cond_true]
            rcases hw2 with hw1 | hw1
            · have hx8 : x < 8 := by omega
              have e8 : x / 8 = 0 := by omega
              have e9 : x % 8 = x := by omega
              rw [hw1, e8, e9, inb_true (by omega) (by simp [bys])]
              simp only [cond_true]
              rw [hw1] at next
              refine next _ ?_
              have : (bys 1 (num R x)).getD 0 0 = ((num R x : Nat) : Int) := rfl
              rw [this, orU8 _ x hx8 hx2, en]; rfl
            · rw [hw1] at next
              by_cases hx8 : x < 8
              · have e8 : x / 8 = 0 := by omega
                have e9 : x % 8 = x := by omega
                have hp8 : 2 ^ x ≤ 2 ^ 7 := Nat.pow_le_pow_right (by omega) (by omega)
                rw [hw1, e8, e9, inb_true (by omega) (by simp [bys])]
                simp only [cond_true]
                refine next _ ?_
                have : (bys 2 (num R x)).getD 0 0 = ((num R x % 256 : Nat) : Int) := rfl
                rw [this, Nat.mod_eq_of_lt (by omega), orU8 _ x hx8 hx2, en]
                show [((num R x + 2 ^ x : Nat) : Int), ((num R x / 256 : Nat) : Int)] = [(((num R x + 2 ^ x) % 256 : Nat) : Int), (((num R x + 2 ^ x) / 256 : Nat) : Int)]
                rw [Nat.mod_eq_of_lt (by omega), Nat.div_eq_of_lt (by omega), Nat.div_eq_of_lt (by omega)]
              · have e8 : x / 8 = 1 := by omega
                obtain ⟨j, rfl⟩ : ∃ j, x = j + 8 := ⟨x - 8, by omega⟩
                have e9 : (j + 8) % 8 = j := by omega
                have ep : 2 ^ (j + 8) = 2 ^ j * 256 := by rw [Nat.pow_add]
                have hp8 : 2 ^ j ≤ 2 ^ 7 := Nat.pow_le_pow_right (by omega) (by omega)
                rw [hw1, e8, e9, inb_true (by omega) (by simp [bys])]
                simp only [cond_true]
                refine next _ ?_
                have : (bys 2 (num R (j + 8))).getD 1 0 = ((num R (j + 8) / 256 : Nat) : Int) := rfl
                rw [ep] at hx2 en
                rw [this, orU8 _ j (by omega) (by omega), en]
                show [((num R (j + 8) % 256 : Nat) : Int), ((num R (j + 8) / 256 + 2 ^ j : Nat) : Int)] = [(((num R (j + 8) + 2 ^ j * 256) % 256 : Nat) : Int), (((num R (j + 8) + 2 ^ j * 256) / 256 : Nat) : Int)]
                rw [Nat.add_mul_mod_self_right, Nat.add_mul_div_right _ _ (by omega)]
        · obtain rfl : x = 16 := by omega
          rw [decide_eq_false (by omega)]; rfl
      · rcases hw2 with hw1 | hw1 <;> rw [hw1]
        · rfl
        · show ((0 : Int), [(0 : Int), 0]) = (0, [((0 % 256 : Nat) : Int), ((0 / 256 : Nat) : Int)])
          rfl
    have doc : loopF (F36_l2 n (c : Int) R) n (0, (c : Int)) = some (strOf (bys w (num R 16)), 0) := by
      refine loopF_eq (F36_l2 n (c : Int) R) (fun _ => some (strOf (bys w (num R 16)), 0)) (fun d => ∃ v k : Nat, d = ((v : Int), (k : Int) - 1) ∧ k ≤ c + 1 ∧ v * 2 ^ k + num R k = num R 16) (fun d => (d.2 + 1).toNat) ?_ n _ ⟨0, c + 1, by simp, by omega, by rw [hN]; omega⟩ (by simp; omega)
      rintro kk d ⟨v, k, rfl, hk, hv⟩ ih
      simp only [F36_l2]
      cases k with
      | zero =>
        rw [decide_eq_false (by omega)]
        have hv' : v = num R 16 := by simpa [num] using hv
        subst hv'
        simp only [cond_false]
        rw [s73 n _ (by omega) (by omega), ew]
        simp only [Option.bind_some]
        rw [show subB (tb (num R 16 : Int)).length none (some (w : Int)) = true by rw [tb_len]; simp [subB]; omega, Int.toNat_natCast]
        simp only [cond_true, Option.some.injEq, Prod.mk.injEq, and_true]
        have et : tb (num R 16 : Int) = strOf [((num R 16 % 256 : Nat) : Int), ((num R 16 / 256 : Nat) : Int)] := by
          unfold tb
          have a1 : IntKind.wrap .u8 ((num R 16 : Nat) : Int) = ((num R 16 % 256 : Nat) : Int) := by rw [u8w]; omega
          have a2 : IntKind.wrap .u8 (shrI .i64 ((num R 16 : Nat) : Int) 8) = ((num R 16 / 256 : Nat) : Int) := by
            have := shr_div .i64 ((num R 16 : Nat) : Int) 8 (by decide)
            rw [show ((8 : Nat) : Int) = 8 from rfl] at this
            rw [this, u8w, show (2 : Int) ^ 8 = 256 by decide]; omega
          rw [a1, a2]
        rw [et]
        rcases hw2 with hw1 | hw1
        · rw [hw1]
          have : num R 16 < 256 := by
            rw [hN]
            have : 2 ^ (c + 1) ≤ 2 ^ 8 := Nat.pow_le_pow_right (by omega) (by omega)
            omega
          rw [Nat.mod_eq_of_lt this]; rfl
        · rw [hw1]; rfl
      | succ k =>
        have hv2 : v * (2 ^ k * 2) + (num R k + if chg R k then 2 ^ k else 0) = num R 16 := by
          rw [← Nat.pow_succ]; exact hv
        have hp := Nat.pow_pos (n := k) (show 0 < 2 by omega)
        have hvs : v ≤ v * (2 ^ k * 2) := Nat.le_mul_of_pos_right _ (by omega)
        rw [show ((k + 1 : Nat) : Int) - 1 = (k : Int) by omega, decide_eq_true (show (k : Int) ≥ 0 by omega), inb_true (show (0 : Int) ≤ k by omega) (show (k : Int) < (16 : Nat) by omega), w64 (n := (v : Int) * 2) (by omega) (by omega), w64 (n := (v : Int) * 2 + 1) (by omega) (by omega), w64 (n := (k : Int) - 1) (by omega) (by omega), Int.toNat_natCast]
        simp only [cond_true]
        have ec : decide ((R.getD k ((0 : Int), (0 : Int))).2 > 0) = chg R k := by
          have := okC_cases (hP k (by omega)).2
          have e0 : R.getD k ((0 : Int), (0 : Int)) = R.getD k pz := rfl
          unfold chg
          rw [e0, Bool.eq_iff_iff, decide_eq_true_iff, bne_iff_ne]
          omega
        rw [ec]
        have em : v * (2 ^ k * 2) = 2 * v * 2 ^ k := by rw [Nat.mul_comm (2 ^ k) 2, ← Nat.mul_assoc, Nat.mul_comm v 2]
        cases hc : chg R k
        · rw [hc] at hv2
          simp only [Bool.false_eq_true, if_false] at hv2
          refine ih _ ⟨2 * v, k, ?_, by omega, by rw [← em]; omega⟩ (by simp only; omega)
          refine Prod.ext ?_ rfl
          show (v : Int) * 2 = ((2 * v : Nat) : Int)
          omega
        · rw [hc] at hv2
          simp only [if_true] at hv2
          refine ih _ ⟨2 * v + 1, k, ?_, by omega, by rw [Nat.add_mul, ← em, Nat.one_mul]; omega⟩ (by simp only; omega)
          refine Prod.ext ?_ rfl
          show (v : Int) * 2 + 1 = ((2 * v + 1 : Nat) : Int)
          omega
    exact ⟨_, prog, doc⟩
  · rw [show (e != 0) = true by simpa using he]; exact ⟨_, rfl, rfl⟩
theorem saysN (n : Nat) (hn : 40 ≤ n) (cnt : Int) (R : List Pt) (hR : InR R) (ask : List UInt8) : F8 n cnt R ask = some true := by
  obtain ⟨r, e1, e2⟩ := control n (by omega) cnt R hR ask
  obtain ⟨q, e3, e4⟩ := changes n hn cnt R hR
  unfold F8
  rw [e1, e2, e3, e4]
  simp -implicitDefEqProofs only [Option.bind_some, Sh.beq_self, BEq.rfl, cond_true]
theorem inPorts (a0 : Int × List Pt) (g0 : Sh.good (.st (.pair (.int .i64) (.arr 16 (.st (.pair (.int .i64) (.int .i64)))))) a0) : InR a0.2 := by
  intro i
  rcases Nat.lt_or_ge i a0.2.length with h | h
  · have hm : a0.2.getD i pz ∈ a0.2 := by
      rw [List.getD_eq_getElem?_getD, List.getElem?_eq_getElem h]; exact List.getElem_mem h
    have := g0.2.2 _ hm
    exact ⟨(good_i64 this.1).2, (good_i64 this.2).2⟩
  · have : a0.2.getD i pz = pz := by rw [List.getD_eq_getElem?_getD, List.getElem?_eq_none h]; rfl
    rw [this]; decide
theorem hubSays_says (a0 : Sh.T ((.st (.pair (.int .i64) (.arr 16 (.st (.pair (.int .i64) (.int .i64)))))))) (g0 : Sh.good ((.st (.pair (.int .i64) (.arr 16 (.st (.pair (.int .i64) (.int .i64))))))) a0) (a1 : Sh.T (.str)) (g1 : Sh.good (.str) a1) :
    ∃ n, F8 n a0.1 a0.2 a1 = some true := ⟨100, saysN 100 (by omega) a0.1 a0.2 (inPorts a0 g0) a1⟩
end Go.Proofs.Ytmcjcioifgaihaa
