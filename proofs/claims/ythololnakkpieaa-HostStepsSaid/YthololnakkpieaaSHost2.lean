/- Words and machines of a host, in plain Lean. -/
import Derived.Test.YthololnakkpieaaSHost1
import Derived.Test.YthololnakkpieaaSDoX
namespace Go.Proofs.Ythololnakkpieaa
open Go Go.RowKit
open Classical
set_option linter.unusedVariables false

theorem u64n (x : Nat) (h : x < 18446744073709551616) : IntKind.wrap .u64 (x : Int) = x := by rw [u64w]; omega
theorem uOr (a b : Nat) (ha : a < 18446744073709551616) (hb : b < 18446744073709551616) : bitsI .or .u64 (a : Int) (b : Int) = ((a ||| b : Nat) : Int) := by
  have hx : a ||| b < 2 ^ 64 := Nat.or_lt_two_pow (by omega) (by omega)
  show IntKind.u64.wrap ((BitVec.ofInt 64 (a : Int) ||| BitVec.ofInt 64 (b : Int)).toNat : Int) = _
  rw [BitVec.toNat_or, bv64 a (by omega), bv64 b (by omega), u64n _ (by omega)]
theorem uAnd (a b : Nat) (ha : a < 18446744073709551616) (hb : b < 18446744073709551616) : bitsI .and .u64 (a : Int) (b : Int) = ((a &&& b : Nat) : Int) := by
  have hx : a &&& b < 2 ^ 64 := Nat.and_lt_two_pow _ (by omega)
  show IntKind.u64.wrap ((BitVec.ofInt 64 (a : Int) &&& BitVec.ofInt 64 (b : Int)).toNat : Int) = _
  rw [BitVec.toNat_and, bv64 a (by omega), bv64 b (by omega), u64n _ (by omega)]
theorem uOrAdd (x y i : Nat) (hx : x < 2 ^ i) (h : x + y * 2 ^ i < 18446744073709551616) : bitsI .or .u64 (x : Int) ((y * 2 ^ i : Nat) : Int) = ((x + y * 2 ^ i : Nat) : Int) := by
  rw [uOr x (y * 2 ^ i) (by omega) (by omega), nat_or_add x y i hx]
theorem uMask (x i : Nat) (hx : x < 18446744073709551616) (hi : i ≤ 62) : bitsI .and .u64 (x : Int) ((2 ^ i - 1 : Nat) : Int) = ((x % 2 ^ i : Nat) : Int) := by
  have : (2 : Nat) ^ i ≤ 2 ^ 62 := Nat.pow_le_pow_right (by omega) hi
  rw [uAnd x (2 ^ i - 1) hx (by omega), Nat.and_two_pow_sub_one_eq_mod]
theorem ushl (x j : Nat) (hj : j ≤ 64) (h : x * 2 ^ j < 18446744073709551616) : shlI .u64 (x : Int) (j : Int) = ((x * 2 ^ j : Nat) : Int) := by
  unfold shlI
  rw [Int.toNat_natCast, Nat.min_eq_left (by simpa [IntKind.bits] using hj)]
  have e : (x : Int) * 2 ^ j = ((x * 2 ^ j : Nat) : Int) := by simp
  rw [e, u64n _ h]
theorem ushr (x j : Nat) (hj : j ≤ 64) : shrI .u64 (x : Int) (j : Int) = ((x / 2 ^ j : Nat) : Int) := by
  rw [shr_div .u64 (x : Int) j (by simpa [IntKind.bits] using hj)]
  simp
/-- a command's word -/
def cOk (K S E A : Int) : Prop := (0 ≤ K ∧ K ≤ 15) ∧ (0 ≤ S ∧ S ≤ 15) ∧ (0 ≤ E ∧ E ≤ 31) ∧ (0 ≤ A ∧ A ≤ 4294967295)
noncomputable def packV (K S E A : Int) : Int × Int := if cOk K S E A then (((K * 16 + S) * 32 + E) * 4294967296 + A, 0) else (0, 1)
theorem inP (n : Nat) (v : Int) (b m : Int) (hb : 0 ≤ IntKind.wrap .u64 b) (hm : shlI .i64 1 (IntKind.wrap .u64 b) = m + 1) : F66 n v b = some (decide (0 ≤ v ∧ v ≤ m)) := by
  unfold F66
  rw [decide_eq_true hb, hm]
  by_cases h : 0 ≤ v
  · rw [decide_eq_true (show v ≥ 0 from h)]
    simp only [cond_true, Option.some.injEq]
    exact decide_eq_decide.2 ⟨fun e => ⟨h, by omega⟩, fun e => by omega⟩
  · rw [decide_eq_false (show ¬ v ≥ 0 from h), decide_eq_false (show ¬ (0 ≤ v ∧ v ≤ m) from fun hh => h hh.1)]; rfl
theorem packP (n : Nat) (K S E A : Int) : F41 n K S E A = some (packV K S E A) := by
  have i4 : ∀ v, F66 n v 4 = some (decide (0 ≤ v ∧ v ≤ 15)) := fun v => inP n v 4 15 (by decide) (by decide)
  have i5 : ∀ v, F66 n v 5 = some (decide (0 ≤ v ∧ v ≤ 31)) := fun v => inP n v 5 31 (by decide) (by decide)
  have i32 : ∀ v, F66 n v 32 = some (decide (0 ≤ v ∧ v ≤ 4294967295)) := fun v => inP n v 32 4294967295 (by decide) (by decide)
  have jt : F41_j2 n K S E A true = some (0, 1) := rfl
  unfold F41 packV
  rw [i4, i4, i5, i32]
  simp only [Option.bind_some]
  by_cases h1 : 0 ≤ K ∧ K ≤ 15
  case neg => rw [decide_eq_false h1, if_neg (fun h => h1 h.1)]; exact jt
  by_cases h2 : 0 ≤ S ∧ S ≤ 15
  case neg => rw [decide_eq_true h1, decide_eq_false h2, if_neg (fun h => h2 h.2.1)]; exact jt
  by_cases h3 : 0 ≤ E ∧ E ≤ 31
  case neg => rw [decide_eq_true h1, decide_eq_true h2, decide_eq_false h3, if_neg (fun h => h3 h.2.2.1)]; exact jt
  by_cases h4 : 0 ≤ A ∧ A ≤ 4294967295
  case neg => rw [decide_eq_true h1, decide_eq_true h2, decide_eq_true h3, decide_eq_false h4, if_neg (fun h => h4 h.2.2.2)]; exact jt
  rw [decide_eq_true h1, decide_eq_true h2, decide_eq_true h3, decide_eq_true h4, if_pos ⟨h1, h2, h3, h4⟩]
  simp only [Bool.not_true, cond_false, F41_j2]
  obtain ⟨k, rfl⟩ : ∃ x : Nat, K = (x : Int) := ⟨K.toNat, by omega⟩
  obtain ⟨s, rfl⟩ : ∃ x : Nat, S = (x : Int) := ⟨S.toNat, by omega⟩
  obtain ⟨e, rfl⟩ : ∃ x : Nat, E = (x : Int) := ⟨E.toNat, by omega⟩
  obtain ⟨a, rfl⟩ : ∃ x : Nat, A = (x : Int) := ⟨A.toNat, by omega⟩
  have s32 : shlI .u64 (e : Int) 32 = ((e * 2 ^ 32 : Nat) : Int) := ushl e 32 (by omega) (by omega)
  have s37 : shlI .u64 (s : Int) 37 = ((s * 2 ^ 37 : Nat) : Int) := ushl s 37 (by omega) (by omega)
  have s41 : shlI .u64 (k : Int) 41 = ((k * 2 ^ 41 : Nat) : Int) := ushl k 41 (by omega) (by omega)
  rw [u64n k (by omega), u64n s (by omega), u64n e (by omega), u64n a (by omega), s32, s37, s41, uOrAdd a e 32 (by omega) (by omega), uOrAdd (a + e * 2 ^ 32) s 37 (by omega) (by omega), uOrAdd (a + e * 2 ^ 32 + s * 2 ^ 37) k 41 (by omega) (by omega)]
  have : ((a + e * 2 ^ 32 + s * 2 ^ 37 + k * 2 ^ 41 : Nat) : Int) = (((k : Int) * 16 + (s : Int)) * 32 + (e : Int)) * 4294967296 + (a : Int) := by omega
  rw [this]
theorem wordR (n : Nat) (hn : 100 < n) (K S E A : Int) : F44 n K S E A = some (packV K S E A) := by
  have t32 : F34 n 32 = some 4294967296 := two n hn 32 (by omega)
  have jt : F44_j2 n K S E A true = some (0, 1) := rfl
  unfold F44 packV
  rw [b16, b16, b16, t32]
  simp only [Option.bind_some]
  rw [b16]
  simp only [Option.bind_some]
  rw [show IntKind.wrap .i64 (4294967296 - 1) = 4294967295 by decide]
  by_cases h1 : 0 ≤ K ∧ K ≤ 15
  case neg => rw [decide_eq_false h1, if_neg (fun h => h1 h.1)]; exact jt
  by_cases h2 : 0 ≤ S ∧ S ≤ 15
  case neg => rw [decide_eq_true h1, decide_eq_false h2, if_neg (fun h => h2 h.2.1)]; exact jt
  by_cases h3 : 0 ≤ E ∧ E ≤ 31
  case neg => rw [decide_eq_true h1, decide_eq_true h2, decide_eq_false h3, if_neg (fun h => h3 h.2.2.1)]; exact jt
  by_cases h4 : 0 ≤ A ∧ A ≤ 4294967295
  case neg => rw [decide_eq_true h1, decide_eq_true h2, decide_eq_true h3, decide_eq_false h4, if_neg (fun h => h4 h.2.2.2)]; exact jt
  rw [decide_eq_true h1, decide_eq_true h2, decide_eq_true h3, decide_eq_true h4, if_pos ⟨h1, h2, h3, h4⟩]
  simp only [Bool.not_true, cond_false, F44_j2, t32, Option.bind_some]
  rw [w64 (n := K * 16) (by omega) (by omega), w64 (n := K * 16 + S) (by omega) (by omega), w64 (n := (K * 16 + S) * 32) (by omega) (by omega), w64 (n := (K * 16 + S) * 32 + E) (by omega) (by omega), w64 (n := ((K * 16 + S) * 32 + E) * 4294967296) (by omega) (by omega), w64 (n := ((K * 16 + S) * 32 + E) * 4294967296 + A) (by omega) (by omega), u64w]
  have : (((K * 16 + S) * 32 + E) * 4294967296 + A) % 18446744073709551616 = ((K * 16 + S) * 32 + E) * 4294967296 + A := by omega
  rw [this]
theorem pack_lt {K S E A : Int} (h : (packV K S E A).2 = 0) : 0 ≤ (packV K S E A).1 ∧ (packV K S E A).1 < 35184372088832 := by
  unfold packV at *
  split
  · rename_i hc
    obtain ⟨h1, h2, h3, h4⟩ := hc
    simp only; omega
  · rename_i hc
    rw [if_neg hc] at h
    simp at h
/-- a word's command -/
def unwV (w : Int) : Int × Int × Int × Int × Int := if w ≥ 35184372088832 then (0, 0, 0, 0, 4) else (w / 2199023255552, w / 137438953472 % 16, w / 4294967296 % 32, w % 4294967296, 0)
theorem unP (n : Nat) (w : Int) (h : 0 ≤ w ∧ w < 18446744073709551616) : F48 n w = some (unwV w) := by
  obtain ⟨x, rfl⟩ : ∃ x : Nat, w = (x : Int) := ⟨w.toNat, by omega⟩
  have a45 : shrI .u64 (x : Int) 45 = ((x / 2 ^ 45 : Nat) : Int) := ushr x 45 (by omega)
  have a41 : shrI .u64 (x : Int) 41 = ((x / 2 ^ 41 : Nat) : Int) := ushr x 41 (by omega)
  have a37 : shrI .u64 (x : Int) 37 = ((x / 2 ^ 37 : Nat) : Int) := ushr x 37 (by omega)
  have a32 : shrI .u64 (x : Int) 32 = ((x / 2 ^ 32 : Nat) : Int) := ushr x 32 (by omega)
  have m15 : bitsI .and .u64 ((x / 2 ^ 37 : Nat) : Int) 15 = ((x / 2 ^ 37 % 2 ^ 4 : Nat) : Int) := uMask (x / 2 ^ 37) 4 (by omega) (by omega)
  have m31 : bitsI .and .u64 ((x / 2 ^ 32 : Nat) : Int) 31 = ((x / 2 ^ 32 % 2 ^ 5 : Nat) : Int) := uMask (x / 2 ^ 32) 5 (by omega) (by omega)
  have mlo : bitsI .and .u64 (x : Int) 4294967295 = ((x % 2 ^ 32 : Nat) : Int) := uMask x 32 (by omega) (by omega)
  unfold F48 unwV
  rw [a45, a41, a37, a32, m15, m31, mlo]
  by_cases q : (x : Int) ≥ 35184372088832
  · rw [show (((x / 2 ^ 45 : Nat) : Int) != 0) = true by rw [bne_iff_ne]; omega, if_pos q]; rfl
  · rw [show (((x / 2 ^ 45 : Nat) : Int) != 0) = false by rw [bne_eq_false_iff_eq]; omega, if_neg q, w64n _ (by omega), w64n _ (by omega), w64n _ (by omega), w64n _ (by omega)]
    have e1 : ((x / 2 ^ 41 : Nat) : Int) = (x : Int) / 2199023255552 := by omega
    have e2 : ((x / 2 ^ 37 % 2 ^ 4 : Nat) : Int) = (x : Int) / 137438953472 % 16 := by omega
    have e3 : ((x / 2 ^ 32 % 2 ^ 5 : Nat) : Int) = (x : Int) / 4294967296 % 32 := by omega
    have e4 : ((x % 2 ^ 32 : Nat) : Int) = (x : Int) % 4294967296 := by omega
    rw [e1, e2, e3, e4]; rfl
theorem unR (n : Nat) (hn : 100 < n) (w : Int) (h : 0 ≤ w ∧ w < 18446744073709551616) : F50 n w = some (unwV w) := by
  have t32 : F34 n 32 = some 4294967296 := two n hn 32 (by omega)
  have t45 : F34 n 45 = some 35184372088832 := two n hn 45 (by omega)
  unfold F50 unwV
  rw [t45, t32]
  simp only [Option.bind_some]
  rw [show IntKind.wrap .u64 35184372088832 = 35184372088832 by decide]
  by_cases q : w ≥ 35184372088832
  · rw [decide_eq_true q, if_pos q]; rfl
  · rw [decide_eq_false q, if_neg q, w64 (n := w) (by omega) (by omega)]
    have d0 : w.tdiv 4294967296 = w / 4294967296 := Int.tdiv_eq_ediv_of_nonneg (by omega)
    have m0 : w.tmod 4294967296 = w % 4294967296 := Int.tmod_eq_emod_of_nonneg (by omega)
    rw [d0, m0, w64 (n := w / 4294967296) (by omega) (by omega)]
    have d1 : (w / 4294967296).tdiv 512 = w / 2199023255552 := by rw [Int.tdiv_eq_ediv_of_nonneg (by omega)]; omega
    have d2 : (w / 4294967296).tdiv 32 = w / 137438953472 := by rw [Int.tdiv_eq_ediv_of_nonneg (by omega)]; omega
    have m1 : (w / 4294967296).tmod 32 = w / 4294967296 % 32 := Int.tmod_eq_emod_of_nonneg (by omega)
    rw [d1, d2, m1, w64 (n := w / 2199023255552) (by omega) (by omega), w64 (n := w / 137438953472) (by omega) (by omega), Int.tmod_eq_emod_of_nonneg (by omega)]; rfl
/-- words of 64 bits -/
def wOK (c : Cells) : Prop := ∀ i, i < c.length → 0 ≤ cw c i ∧ cw c i < 18446744073709551616
def below (c : Cells) (m : Int) : Prop := ∀ i, i < c.length → cw c i < m
noncomputable def machV (c : Cells) (pa pb ga gb se : Int) (e : Cells) (qa qb ra rb te : Int) (b : Slots) : Bool :=
  decide (ringE c pa pb ga gb se = 0 ∧ ringE e qa qb ra rb te = 0 ∧ boardE b = 0 ∧ below c 35184372088832 ∧ below e 16777216)
section
variable {c e : Cells} {pa pb ga gb se qa qb ra rb te : Int} {b : Slots}
theorem evtsP (n : Nat) (hn : 100 < n) (hl : e.length ≤ 64) : loopF (F40_l10 n e) n 0 = some (decide (below e 16777216)) := by
  refine loopF_eq (F40_l10 n e) (fun _ => some (decide (below e 16777216))) (fun x => ∃ k : Nat, x = (k : Int) ∧ k ≤ e.length ∧ ∀ j, j < k → cw e j < 16777216) (fun x => e.length - x.toNat) ?_ n 0 ⟨0, rfl, by omega, fun j h => by omega⟩ (by simp; omega)
  rintro kk x ⟨k, rfl, hk, hall⟩ ih
  simp only [F40_l10, Int.toNat_natCast]
  by_cases hka : k < e.length
  · rw [decide_eq_true (show (k : Int) < ((e.length : Nat) : Int) by omega), inb_true (show (0 : Int) ≤ k by omega) (show (k : Int) < (e.length : Nat) by omega), w64 (n := (k : Int) + 1) (by omega) (by omega)]
    simp only [cond_true]
    by_cases q : cw e k < 16777216
    · rw [decide_eq_false (show ¬ (e.getD k (0, (0, false))).1 ≥ 16777216 from fun h => by unfold cw at q; omega)]
      exact ih _ ⟨k + 1, by omega, by omega, fun j hj => by
        rcases Nat.lt_succ_iff_lt_or_eq.1 hj with h | h
        · exact hall j h
        · subst h; exact q⟩ (by omega)
    · rw [decide_eq_true (show (e.getD k (0, (0, false))).1 ≥ 16777216 from by unfold cw at q; omega), decide_eq_false (fun h => q (h k hka))]; rfl
  · obtain rfl : k = e.length := by omega
    rw [decide_eq_false (by omega), decide_eq_true (show below e 16777216 from hall)]; rfl
theorem evtsR (n : Nat) (hn : 100 < n) (hl : e.length ≤ 64) : loopF (F43_l28 n e) n 0 = some (decide (below e 16777216)) := by
  have t24 : F34 n 24 = some 16777216 := two n hn 24 (by omega)
  have e72 : ∀ w x y, F72 n w x y = some (decide (w ≥ 16777216)) := fun w x y => by
    unfold F72
    rw [t24, Option.bind_some, show IntKind.wrap .u64 16777216 = 16777216 by decide]
  refine loopF_eq (F43_l28 n e) (fun _ => some (decide (below e 16777216))) (fun x => ∃ k : Nat, x = (k : Int) ∧ k ≤ e.length ∧ ∀ j, j < k → cw e j < 16777216) (fun x => e.length - x.toNat) ?_ n 0 ⟨0, rfl, by omega, fun j h => by omega⟩ (by simp; omega)
  rintro kk x ⟨k, rfl, hk, hall⟩ ih
  simp only [F43_l28, Int.toNat_natCast, e72, Option.bind_some]
  by_cases hka : k < e.length
  · rw [decide_eq_true (show (k : Int) < ((e.length : Nat) : Int) by omega), inb_true (show (0 : Int) ≤ k by omega) (show (k : Int) < (e.length : Nat) by omega), w64 (n := (k : Int) + 1) (by omega) (by omega)]
    simp only [cond_true]
    by_cases q : cw e k < 16777216
    · rw [decide_eq_false (show ¬ (e.getD k (0, (0, false))).1 ≥ 16777216 from fun h => by unfold cw at q; omega)]
      exact ih _ ⟨k + 1, by omega, by omega, fun j hj => by
        rcases Nat.lt_succ_iff_lt_or_eq.1 hj with h | h
        · exact hall j h
        · subst h; exact q⟩ (by omega)
    · rw [decide_eq_true (show (e.getD k (0, (0, false))).1 ≥ 16777216 from by unfold cw at q; omega), decide_eq_true (show (k : Int) ≥ 0 by omega), decide_eq_false (show ¬ below e 16777216 from fun h => q (h k hka))]; rfl
  · obtain rfl : k = e.length := by omega
    rw [decide_eq_false (by omega), decide_eq_true (show below e 16777216 from hall)]; rfl
theorem unwE (w : Int) : ((unwV w).2.2.2.2 != 0) = decide (¬ w < 35184372088832) := by
  unfold unwV
  by_cases q : w ≥ 35184372088832
  · rw [if_pos q, decide_eq_true (by omega)]; rfl
  · rw [if_neg q, decide_eq_false (by omega)]; rfl
theorem cmdsP (n : Nat) (hn : 100 < n) (hl : c.length ≤ 64) (hw : wOK c) (hl2 : e.length ≤ 64) : loopF (F40_l9 n c e) n 0 = some (decide (below c 35184372088832 ∧ below e 16777216)) := by
  refine loopF_eq (F40_l9 n c e) (fun _ => some (decide (below c 35184372088832 ∧ below e 16777216))) (fun x => ∃ k : Nat, x = (k : Int) ∧ k ≤ c.length ∧ ∀ j, j < k → cw c j < 35184372088832) (fun x => c.length - x.toNat) ?_ n 0 ⟨0, rfl, by omega, fun j h => by omega⟩ (by simp; omega)
  rintro kk x ⟨k, rfl, hk, hall⟩ ih
  simp only [F40_l9, Int.toNat_natCast]
  by_cases hka : k < c.length
  · have hu : F48 n ((c.getD k (0, (0, false))).1) = some (unwV (cw c k)) := unP n _ (hw k hka)
    rw [decide_eq_true (show (k : Int) < ((c.length : Nat) : Int) by omega), inb_true (show (0 : Int) ≤ k by omega) (show (k : Int) < (c.length : Nat) by omega), w64 (n := (k : Int) + 1) (by omega) (by omega), hu]
    simp only [cond_true, Option.bind_some, unwE]
    by_cases q : cw c k < 35184372088832
    · rw [decide_eq_false (fun h => h q)]
      exact ih _ ⟨k + 1, by omega, by omega, fun j hj => by
        rcases Nat.lt_succ_iff_lt_or_eq.1 hj with h | h
        · exact hall j h
        · subst h; exact q⟩ (by omega)
    · rw [decide_eq_true q, decide_eq_false (fun h => q (h.1 k hka))]; rfl
  · obtain rfl : k = c.length := by omega
    rw [decide_eq_false (by omega), cond_false, evtsP n hn hl2]
    congr 1
    exact decide_eq_decide.2 ⟨fun h => ⟨hall, h⟩, fun h => h.2⟩
theorem cmdsR (n : Nat) (hn : 100 < n) (hl : c.length ≤ 64) (hw : wOK c) (hl2 : e.length ≤ 64) : loopF (F43_l24 n c e) n 0 = some (decide (below c 35184372088832 ∧ below e 16777216)) := by
  refine loopF_eq (F43_l24 n c e) (fun _ => some (decide (below c 35184372088832 ∧ below e 16777216))) (fun x => ∃ k : Nat, x = (k : Int) ∧ k ≤ c.length ∧ ∀ j, j < k → cw c j < 35184372088832) (fun x => c.length - x.toNat) ?_ n 0 ⟨0, rfl, by omega, fun j h => by omega⟩ (by simp; omega)
  rintro kk x ⟨k, rfl, hk, hall⟩ ih
  simp only [F43_l24, Int.toNat_natCast]
  by_cases hka : k < c.length
  · have hu : F50 n ((c.getD k (0, (0, false))).1) = some (unwV (cw c k)) := unR n hn _ (hw k hka)
    rw [decide_eq_true (show (k : Int) < ((c.length : Nat) : Int) by omega), inb_true (show (0 : Int) ≤ k by omega) (show (k : Int) < (c.length : Nat) by omega), w64 (n := (k : Int) + 1) (by omega) (by omega), hu]
    simp only [cond_true, Option.bind_some, unwE]
    by_cases q : cw c k < 35184372088832
    · rw [decide_eq_false (fun h => h q)]
      exact ih _ ⟨k + 1, by omega, by omega, fun j hj => by
        rcases Nat.lt_succ_iff_lt_or_eq.1 hj with h | h
        · exact hall j h
        · subst h; exact q⟩ (by omega)
    · rw [decide_eq_true q, decide_eq_false (fun h => q (h.1 k hka))]; rfl
  · obtain rfl : k = c.length := by omega
    rw [decide_eq_false (by omega), cond_false, evtsR n hn hl2]
    congr 1
    exact decide_eq_decide.2 ⟨fun h => ⟨hall, h⟩, fun h => h.2⟩
theorem validP (n : Nat) (hn : 300 < n) (hw : wOK c) : F40 n c pa pb ga gb se e qa qb ra rb te b = some (machV c pa pb ga gb se e qa qb ra rb te b) := by
  have jt : F40_j6 n c e true = some false := rfl
  unfold F40 machV
  rw [g36 n (by omega), g36 n (by omega), b66 n (by omega)]
  simp only [Option.bind_some]
  by_cases h1 : ringE c pa pb ga gb se = 0
  case neg => rw [show (ringE c pa pb ga gb se != 0) = true from bne_iff_ne.2 h1, decide_eq_false (fun h => h1 h.1)]; exact jt
  rw [show (ringE c pa pb ga gb se != 0) = false from bne_eq_false_iff_eq.2 h1]
  by_cases h2 : ringE e qa qb ra rb te = 0
  case neg => rw [show (ringE e qa qb ra rb te != 0) = true from bne_iff_ne.2 h2, decide_eq_false (fun h => h2 h.2.1)]; exact jt
  rw [show (ringE e qa qb ra rb te != 0) = false from bne_eq_false_iff_eq.2 h2]
  by_cases h3 : boardE b = 0
  case neg => rw [show (boardE b != 0) = true from bne_iff_ne.2 h3, decide_eq_false (fun h => h3 h.2.2.1)]; exact jt
  rw [show (boardE b != 0) = false from bne_eq_false_iff_eq.2 h3]
  simp only [cond_false, F40_j6]
  rw [cmdsP n (by omega) (ring0 h1).1.2 hw (ring0 h2).1.2]
  congr 1
  exact decide_eq_decide.2 ⟨fun h => ⟨h1, h2, h3, h⟩, fun h => h.2.2.2⟩
theorem machR (n : Nat) (hn : 300 < n) (hw : wOK c) (hb : b.length = 9) : F43 n c pa pb ga gb se e qa qb ra rb te b = some (machV c pa pb ga gb se e qa qb ra rb te b) := by
  have jt : F43_j15 n c e true = some false := rfl
  unfold F43 machV
  rw [g37 n (by omega), g37 n (by omega), b15 n (by omega) b hb]
  simp only [Option.bind_some]
  by_cases h1 : ringE c pa pb ga gb se = 0
  case neg => rw [show (ringE c pa pb ga gb se != 0) = true from bne_iff_ne.2 h1, decide_eq_false (fun h => h1 h.1)]; exact jt
  rw [show (ringE c pa pb ga gb se != 0) = false from bne_eq_false_iff_eq.2 h1]
  by_cases h2 : ringE e qa qb ra rb te = 0
  case neg => rw [show (ringE e qa qb ra rb te != 0) = true from bne_iff_ne.2 h2, decide_eq_false (fun h => h2 h.2.1)]; exact jt
  rw [show (ringE e qa qb ra rb te != 0) = false from bne_eq_false_iff_eq.2 h2]
  by_cases h3 : boardE b = 0
  case neg => rw [show (boardE b != 0) = true from bne_iff_ne.2 h3, decide_eq_false (fun h => h3 h.2.2.1)]; exact jt
  rw [show (boardE b != 0) = false from bne_eq_false_iff_eq.2 h3]
  simp only [cond_false, F43_j15]
  rw [cmdsR n (by omega) (ring0 h1).1.2 hw (ring0 h2).1.2]
  congr 1
  exact decide_eq_decide.2 ⟨fun h => ⟨h1, h2, h3, h⟩, fun h => h.2.2.2⟩
theorem copyM (n : Nat) (hc : c.length ≤ 5864062014805) (he : e.length ≤ 5864062014805) : F39 n c pa pb ga gb se e qa qb ra rb te b = some (pa, pb, ga, gb, se, qa, qb, ra, rb, te, b, c, e) := by
  unfold F39
  rw [decide_eq_true hc, decide_eq_true he]; rfl
end
end Go.Proofs.Ythololnakkpieaa
