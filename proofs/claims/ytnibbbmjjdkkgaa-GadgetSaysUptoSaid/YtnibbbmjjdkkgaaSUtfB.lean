/- The laws UtfWide and UtfNarrow, in plain Lean. -/
import Derived.Test.YtnibbbmjjdkkgaaSUtfA
namespace Go.Proofs.Ytnibbbmjjdkkgaa
open Go Go.RowKit
set_option linter.unusedVariables false
set_option maxRecDepth 100000

def rl (s : Tx) : Nat → Nat → List Nat
  | 0, _ => []
  | f + 1, p => if p < s.length then (runeV s p).1 :: rl s f (p + (runeV s p).2) else []
theorem rl_fuel (s : Tx) : ∀ f f' p, s.length - p ≤ f → s.length - p ≤ f' → rl s f p = rl s f' p
  | 0, 0, p, _, _ => rfl
  | 0, f' + 1, p, h, _ => by simp only [rl]; rw [if_neg (by omega)]
  | f + 1, 0, p, _, h => by simp only [rl]; rw [if_neg (by omega)]
  | f + 1, f' + 1, p, h, h' => by
    simp only [rl]
    have := (runeV_w s p).1
    split
    · rw [rl_fuel s f f' _ (by omega) (by omega)]
    · rfl
/-- the runes from a place on -/
def runes (s : Tx) (p : Nat) : List Nat := rl s (s.length - p) p
theorem runes_step (s : Tx) (p : Nat) (h : p < s.length) : runes s p = (runeV s p).1 :: runes s (p + (runeV s p).2) := by
  have := (runeV_w s p).1
  unfold runes
  obtain ⟨f, hf⟩ : ∃ f, s.length - p = f + 1 := ⟨s.length - p - 1, by omega⟩
  rw [hf]
  simp only [rl]
  rw [if_pos h, rl_fuel s f (s.length - (p + (runeV s p).2)) _ (by omega) (by omega)]
theorem runes_end (s : Tx) (p : Nat) (h : ¬ p < s.length) : runes s p = [] := by unfold runes; rw [show s.length - p = 0 by omega]; rfl
theorem rl_le (s : Tx) : ∀ f p, ∀ r ∈ rl s f p, r ≤ 1114111
  | 0, p, r, h => by cases h
  | f + 1, p, r, h => by
    simp only [rl] at h
    split at h
    · rcases List.mem_cons.1 h with rfl | h
      · exact (runeV_w s p).2.2
      · exact rl_le s f _ r h
    · cases h
theorem rl_len (s : Tx) : ∀ f p, (rl s f p).length ≤ f
  | 0, p => Nat.le_refl _
  | f + 1, p => by
    simp only [rl]
    split
    · have := rl_len s f (p + (runeV s p).2); rw [List.length_cons]; omega
    · simp
theorem runesR (n : Nat) (s : Tx) (hs : s.length ≤ 2000000) (hn : s.length + 20 < n) : F68 n s = some ((runes s 0).map fun r : Nat => (r : Int)) := by
  unfold F68
  refine (loopF_eq (F68_l2 n s) (fun d => some (d.2 ++ (runes s d.1.toNat).map fun r : Nat => (r : Int))) (fun d => ∃ p : Nat, d.1 = (p : Int) ∧ p ≤ s.length + 4 ∧ d.2.length ≤ p) (fun d => s.length - d.1.toNat) ?_ n (0, []) ⟨0, rfl, by omega, by simp⟩ (by simp; omega)).trans (by simp)
  rintro k ⟨_, m⟩ ⟨p, rfl, hp, hm⟩ ih
  simp only at hm
  simp only [F68_l2, Int.toNat_natCast]
  have hw := runeV_w s p
  by_cases h : p < s.length
  · rw [decide_eq_true (show (p : Int) < (s.length : Int) by omega), runeR n s p h (by omega) (by omega)]
    simp only [cond_true, Option.bind_some]
    rw [decide_eq_true (by simp only [List.length_singleton]; omega), w64 (by omega) (by omega)]
    simp only [cond_true]
    rw [ih _ ⟨p + (runeV s p).2, by simp, by omega, by simp only [List.length_append, List.length_singleton]; omega⟩ (by simp only [Int.toNat_natCast]; omega), runes_step s p h]
    have e : ((p : Int) + ((runeV s p).2 : Int)).toNat = p + (runeV s p).2 := by omega
    simp only [e, List.map_cons, List.append_assoc, List.singleton_append]
  · rw [decide_eq_false (show ¬ (p : Int) < (s.length : Int) by omega), runes_end s p h]
    simp
/-- two bytes of a unit -/
def two (m : Nat) : Tx := [UInt8.ofNat (m % 256), UInt8.ofNat (m / 256 % 256)]
def tb (r : Nat) : Tx := if r < 65536 then two r else two (55296 + (r - 65536) / 1024) ++ two (56320 + (r - 65536) % 1024)
def cnt (r : Nat) : Nat := if r < 65536 then 1 else 2
def cntL : List Nat → Nat
  | [] => 0
  | r :: l => cnt r + cntL l
theorem tb_len (r : Nat) : (tb r).length = 2 * cnt r := by
  unfold tb cnt
  split <;> rfl
theorem tbL_len : ∀ l : List Nat, (l.flatMap tb).length = 2 * cntL l
  | [] => rfl
  | r :: l => by rw [List.flatMap_cons, List.length_append, tb_len, tbL_len l, cntL]; omega
theorem twoR (n m : Nat) (hm : m < 1000000) : F23 n (m : Int) = some (two m) := by
  unfold F23 two
  rw [Int.tmod_eq_emod_of_nonneg (show (0 : Int) ≤ m by omega), Int.tdiv_eq_ediv_of_nonneg (show (0 : Int) ≤ m by omega), w64 (n := (m : Int) / 256) (by omega) (by omega), Int.tmod_eq_emod_of_nonneg (show (0 : Int) ≤ (m : Int) / 256 by omega), u8w, u8w]
  have e1 : ((m : Int) % 256 % 256).toNat = m % 256 := by omega
  have e2 : ((m : Int) / 256 % 256 % 256).toNat = m / 256 % 256 := by omega
  simp only [strOf, List.map_cons, List.map_nil, e1, e2]
theorem map_getD (l : List Nat) (k : Nat) : (l.map fun r : Nat => (r : Int)).getD k 0 = ((l.getD k 0 : Nat) : Int) := by
  rw [List.getD_eq_getElem?_getD, List.getD_eq_getElem?_getD, List.getElem?_map]
  cases l[k]? <;> rfl
theorem dropD {α : Type} (d : α) : ∀ (l : List α) (k : Nat), k < l.length → l.drop k = l.getD k d :: l.drop (k + 1)
  | [], k, h => by simp at h
  | x :: l, 0, h => rfl
  | x :: l, k + 1, h => by simpa using dropD d l k (by simpa using h)
def wideV (rs : List Nat) : Tx × Int := if 126 < cntL rs then ([], 2) else (rs.flatMap tb, 0)
theorem w32 {n : Int} (h1 : -2147483648 ≤ n) (h2 : n ≤ 2147483647) : IntKind.wrap .i32 n = n := by
  have e : IntKind.wrap .i32 n = if n % 4294967296 ≥ 2147483648 then n % 4294967296 - 4294967296 else n % 4294967296 := by
    simp [IntKind.wrap, IntKind.bits, IntKind.signed]
  rw [e]
  split <;> omega
theorem bv32 (x : Nat) (h : x < 4294967296) : (BitVec.ofInt 32 (x : Int)).toNat = x := by
  rw [BitVec.toNat_ofInt]
  omega
theorem bAnd32 (x : Nat) (h : x < 2147483648) : bitsI .and .i32 (x : Int) 1023 = ((x % 1024 : Nat) : Int) := by
  have hx : x &&& 1023 = x % 1024 := Nat.and_two_pow_sub_one_eq_mod x 10
  show IntKind.i32.wrap ((BitVec.ofInt 32 (x : Int) &&& BitVec.ofInt 32 ((1023 : Nat) : Int)).toNat : Int) = _
  rw [BitVec.toNat_and, bv32 x (by omega), bv32 1023 (by omega), hx, w32 (by omega) (by omega)]
theorem bOr32 (a b : Nat) (ha : a < 256) (hb : b < 256) : bitsI .or .i32 (a : Int) ((b * 256 : Nat) : Int) = ((a + 256 * b : Nat) : Int) := by
  have hx : a ||| b * 256 = a + b * 256 := nat_or_add a b 8 (by omega)
  show IntKind.i32.wrap ((BitVec.ofInt 32 (a : Int) ||| BitVec.ofInt 32 ((b * 256 : Nat) : Int)).toNat : Int) = _
  rw [BitVec.toNat_or, bv32 a (by omega), bv32 (b * 256) (by omega), hx, w32 (by omega) (by omega)]
  omega
theorem shl32 (x j m : Nat) (hm : m = 2 ^ j) (hj : j ≤ 32) (h : x * m < 2147483648) : shlI .i32 (x : Int) (j : Int) = ((x * m : Nat) : Int) := by
  subst hm
  unfold shlI
  rw [Int.toNat_natCast, Nat.min_eq_left (by simpa [IntKind.bits] using hj)]
  have e : (x : Int) * 2 ^ j = ((x * 2 ^ j : Nat) : Int) := by simp
  rw [e, w32 (by omega) (by omega)]
theorem hi32 (d : Nat) (h : d < 1048576) : IntKind.wrap .i32 (55296 + shrI .i32 (d : Int) 10) = ((55296 + d / 1024 : Nat) : Int) := by
  have s10 := shr_div .i32 (d : Int) 10 (by decide)
  rw [show ((10 : Nat) : Int) = 10 from rfl, show (2 : Int) ^ 10 = 1024 by decide] at s10
  rw [s10, w32 (by omega) (by omega)]; omega
theorem lo32 (d : Nat) (h : d < 1048576) : IntKind.wrap .i32 (56320 + bitsI .and .i32 (d : Int) 1023) = ((56320 + d % 1024 : Nat) : Int) := by
  rw [bAnd32 _ (by omega), w32 (by omega) (by omega)]; omega
theorem sub32 (r d : Nat) (h : d < 1048576) (e : r = d + 65536) : IntKind.wrap .i32 ((r : Int) - 65536) = (d : Int) := by
  rw [w32 (by omega) (by omega)]; omega
theorem tb_big (r d : Nat) (e : r = d + 65536) : tb r = two (55296 + d / 1024) ++ two (56320 + d % 1024) := by
  have hb : ¬ r < 65536 := by omega
  unfold tb
  rw [if_neg hb, show r - 65536 = d by omega]
theorem hi64 (r d : Nat) (h : d < 1048576) (e : r = d + 65536) : IntKind.wrap .i64 (55296 + IntKind.wrap .i64 ((IntKind.wrap .i64 ((r : Int) - 65536)).tdiv 1024)) = ((55296 + d / 1024 : Nat) : Int) := by
  rw [w64 (n := (r : Int) - 65536) (by omega) (by omega), show (r : Int) - 65536 = (d : Int) by omega, Int.tdiv_eq_ediv_of_nonneg (by omega), w64 (n := (d : Int) / 1024) (by omega) (by omega), w64 (by omega) (by omega)]; omega
theorem lo64 (r d : Nat) (h : d < 1048576) (e : r = d + 65536) : IntKind.wrap .i64 (56320 + (IntKind.wrap .i64 ((r : Int) - 65536)).tmod 1024) = ((56320 + d % 1024 : Nat) : Int) := by
  rw [w64 (n := (r : Int) - 65536) (by omega) (by omega), show (r : Int) - 65536 = (d : Int) by omega, Int.tmod_eq_emod_of_nonneg (by omega), w64 (by omega) (by omega)]; omega
/-- the two bytes that the program makes -/
theorem pairB (m : Nat) (hm : m < 1000000) : strOf [IntKind.wrap .u8 (m : Int), IntKind.wrap .u8 (shrI .i32 (m : Int) 8)] = two m := by
  have s8 := shr_div .i32 (m : Int) 8 (by decide)
  rw [show ((8 : Nat) : Int) = 8 from rfl, show (2 : Int) ^ 8 = 256 by decide] at s8
  rw [s8, u8w, u8w]
  have e1 : ((m : Int) % 256).toNat = m % 256 := by omega
  have e2 : ((m : Int) / 256 % 256).toNat = m / 256 % 256 := by omega
  simp only [strOf, List.map_cons, List.map_nil, e1, e2]; rfl
theorem wideR (n : Nat) (s : Tx) (hs : s.length ≤ 2000000) (hn : s.length + 20 < n) : F55 n s = some (wideV (runes s 0)) := by
  have hle : ∀ r ∈ runes s 0, r ≤ 1114111 := rl_le s _ 0
  have hlen : (runes s 0).length ≤ s.length := rl_len s s.length 0
  unfold F55
  rw [runesR n s hs hn, Option.bind_some]
  generalize runes s 0 = rs at *
  refine (loopF_eq (F55_l12 n (rs.map fun r : Nat => (r : Int))) (fun d => if 126 < d.2.1.toNat + cntL (rs.drop d.2.2.toNat) then some ([], 2) else some (d.1 ++ (rs.drop d.2.2.toNat).flatMap tb, 0)) (fun d => ∃ v k : Nat, d.2.1 = (v : Int) ∧ d.2.2 = (k : Int) ∧ v ≤ 126 ∧ k ≤ rs.length ∧ d.1.length = 2 * v) (fun d => rs.length - d.2.2.toNat) ?_ n ([], 0, 0) ⟨0, 0, rfl, rfl, by omega, by omega, rfl⟩ (by simp; omega)).trans (by unfold wideV; simp only [Int.toNat_zero, List.drop_zero, List.nil_append, Nat.zero_add]; split <;> rfl)
  rintro kk ⟨vo, _, _⟩ ⟨v, k, rfl, rfl, hv, hk, hvo⟩ ih
  simp only at hvo
  simp only [F55_l12, Int.toNat_natCast, List.length_map]
  by_cases h : k < rs.length
  · rw [decide_eq_true (show (k : Int) < ((rs.length : Nat) : Int) by omega), inb_true (show (0 : Int) ≤ k by omega) (show (k : Int) < rs.length by omega), dropD 0 rs k h]
    simp only [cond_true, map_getD]
    have hr : rs.getD k 0 ≤ 1114111 := hle _ (by rw [List.getD_eq_getElem?_getD, List.getElem?_eq_getElem h]; exact List.getElem_mem h)
    have w1 : IntKind.wrap .i64 ((v : Int) + 1) = ((v + 1 : Nat) : Int) := by rw [w64 (by omega) (by omega)]; omega
    have w2 : IntKind.wrap .i64 (((v + 1 : Nat) : Int) + 1) = ((v + 2 : Nat) : Int) := by rw [w64 (by omega) (by omega)]; omega
    have wk : IntKind.wrap .i64 ((k : Int) + 1) = ((k + 1 : Nat) : Int) := by rw [w64 (by omega) (by omega)]; omega
    rw [w1, w2]
    simp only [F55_j13, F55_j14, map_getD, Int.toNat_natCast, wk]
    generalize hrr : rs.getD k 0 = r at *
    by_cases hb : r < 65536
    · rw [decide_eq_false (show ¬ (r : Int) > 65535 by omega)]
      simp only [cond_false]
      have c1 : cnt r = 1 := if_pos hb
      have t1 : tb r = two r := if_pos hb
      by_cases hv2 : v + 1 > 126
      · rw [decide_eq_true (show ((v + 1 : Nat) : Int) > 126 by omega), if_pos (by simp only [cntL, c1]; omega)]; rfl
      · rw [decide_eq_false (show ¬ ((v + 1 : Nat) : Int) > 126 by omega), twoR n r (by omega)]
        simp only [cond_false, Option.bind_some]
        rw [decide_eq_true (by simp [two]; omega)]
        simp only [cond_true]
        rw [ih _ ⟨v + 1, k + 1, rfl, rfl, by omega, by omega, by simp [two]; omega⟩ (by simp only [Int.toNat_natCast]; omega)]
        simp only [Int.toNat_natCast, cntL, c1, List.flatMap_cons, t1, List.append_assoc, Nat.add_assoc]
    · obtain ⟨d, hd⟩ : ∃ d, r = d + 65536 := ⟨r - 65536, by omega⟩
      have hd2 : d < 1048576 := by omega
      rw [decide_eq_true (show (r : Int) > 65535 by omega)]
      simp only [cond_true]
      have c1 : cnt r = 2 := if_neg hb
      have t1 := tb_big r d hd
      have e1 := hi64 r d hd2 hd
      have e2 := lo64 r d hd2 hd
      clear hd hb hr hrr
      by_cases hv2 : v + 2 > 126
      · rw [decide_eq_true (show ((v + 2 : Nat) : Int) > 126 by omega), if_pos (by simp only [cntL, c1]; omega)]; rfl
      · rw [decide_eq_false (show ¬ ((v + 2 : Nat) : Int) > 126 by omega), e1, e2, twoR n _ (by omega), twoR n _ (by omega)]
        simp only [cond_false, Option.bind_some]
        rw [decide_eq_true (by simp [two]; omega), decide_eq_true (by simp [two]; omega)]
        simp only [cond_true]
        rw [ih _ ⟨v + 2, k + 1, rfl, rfl, by omega, by omega, by simp [two]; omega⟩ (by simp only [Int.toNat_natCast]; omega)]
        simp only [Int.toNat_natCast, cntL, c1, List.flatMap_cons, t1, List.append_assoc, Nat.add_assoc]
  · rw [decide_eq_false (show ¬ (k : Int) < ((rs.length : Nat) : Int) by omega), List.drop_eq_nil_of_le (by omega), if_neg (by simp only [cntL]; omega)]
    simp
theorem wideP (n : Nat) (s : Tx) (hs : s.length ≤ 2000000) (hn : s.length + 20 < n) : F53 n s = some (wideV (runes s 0)) := by
  unfold F53
  refine (loopF_eq (F53_l2 n s) (fun d => if 252 < d.1.length + ((runes s d.2).flatMap tb).length then some ([], 2) else some (strOf d.1 ++ (runes s d.2).flatMap tb, 0)) (fun d => d.2 ≤ s.length + 4 ∧ d.1.length ≤ 4 * d.2) (fun d => s.length - d.2) ?_ n ([], 0) ⟨by simp, by simp⟩ (by simp; omega)).trans (by
    unfold wideV
    simp only [List.length_nil, Nat.zero_add, tbL_len]
    by_cases h : 126 < cntL (runes s 0)
    · rw [if_pos (by omega), if_pos h]
    · rw [if_neg (by omega), if_neg h]; rfl)
  rintro k ⟨m, p⟩ ⟨hp, hm⟩ ih
  simp only at hp hm
  simp only [F53_l2]
  by_cases h : p < s.length
  · have hw := runeV_w s p
    rw [decide_eq_true h, runeAt_V s p h, runes_step s p h]
    simp only [cond_true, List.flatMap_cons]
    generalize hr : (runeV s p).1 = r at *
    generalize hq : (runeV s p).2 = q at *
    by_cases hb : r < 65536
    · have t1 : tb r = two r := if_pos hb
      rw [decide_eq_true (show (r : Int) < 65536 by omega), decide_eq_true (by simp only [List.length_cons, List.length_nil]; omega)]
      simp only [cond_true]
      have b1 := pairB r (by omega)
      rw [ih _ ⟨by simp only; omega, by simp only [List.length_append, List.length_cons, List.length_nil]; omega⟩ (by simp only; omega), t1, strOf_app, b1]
      simp only [List.append_assoc]
      have hL : ∀ X : List UInt8, (two r ++ X).length = 2 + X.length := fun X => by simp [two]; omega
      rw [hL]
      generalize (runes s (p + q)).flatMap tb = X
      split <;> split <;> first | rfl | (exfalso; simp only [List.length_append, List.length_cons, List.length_nil] at *; omega)
    · obtain ⟨d, hd⟩ : ∃ d, r = d + 65536 := ⟨r - 65536, by omega⟩
      have hd2 : d < 1048576 := by omega
      have t1 := tb_big r d hd
      have e0 := sub32 r d hd2 hd
      have e1 := hi32 d hd2
      have e2 := lo32 d hd2
      rw [decide_eq_false (show ¬ (r : Int) < 65536 by omega)]
      obtain ⟨hw1, hw2, _⟩ := hw
      clear hd hb
      simp only [e0, e1, e2, cond_false]
      rw [decide_eq_true (by simp only [List.length_cons, List.length_nil]; omega), decide_eq_true (by simp only [List.length_append, List.length_cons, List.length_nil]; omega)]
      simp only [cond_true]
      have b1 := pairB (55296 + d / 1024) (by omega)
      have b2 := pairB (56320 + d % 1024) (by omega)
      rw [ih _ ⟨by simp only; omega, by simp only [List.length_append, List.length_cons, List.length_nil]; omega⟩ (by simp only; omega), t1, strOf_app, strOf_app, b1, b2]
      have l1 := congrArg List.length b1
      have l2 := congrArg List.length b2
      simp only [List.append_assoc]
      have hL : ∀ X : List UInt8, (two (55296 + d / 1024) ++ (two (56320 + d % 1024) ++ X)).length = 4 + X.length := fun X => by simp [two]; omega
      rw [hL]
      generalize (runes s (p + q)).flatMap tb = X
      split <;> split <;> first | rfl | (exfalso; simp only [List.length_append, List.length_cons, List.length_nil] at *; omega)
  · rw [decide_eq_false h, runes_end s p h]
    simp only [cond_false, List.flatMap_nil, List.length_nil, Nat.add_zero, List.append_nil]
    by_cases h2 : 252 < m.length
    · rw [if_pos h2, decide_eq_true (show ((m.length : Nat) : Int) > 252 by omega)]; rfl
    · rw [if_neg h2, decide_eq_false (show ¬ ((m.length : Nat) : Int) > 252 by omega)]; rfl
end Go.Proofs.Ytnibbbmjjdkkgaa
