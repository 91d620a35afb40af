/- ReportGets, in plain Lean. -/
import Derived.Test.YtcdighmioekeiaaSBitsK
namespace Go.Proofs.Ytcdighmioekeiaa
open Go Go.RowKit
set_option linter.unusedVariables false

def ferr (At Bits : Int) (L : Nat) : Int := if ¬ (1 ≤ Bits ∧ Bits ≤ 32) ∨ ¬ (0 ≤ At ∧ At ≤ 512) then 1 else if 8 * (L : Int) < At + Bits then 3 else 0
theorem btw (n : Nat) (v lo hi : Int) : F33 n v lo hi = some (decide (lo ≤ v ∧ v ≤ hi)) := by
  unfold F33
  by_cases h : lo ≤ v
  · rw [decide_eq_true h]
    simp only [cond_true, Option.some.injEq]
    by_cases h2 : v ≤ hi <;> simp [h, h2]
  · rw [decide_eq_false h, decide_eq_false (show ¬ (lo ≤ v ∧ v ≤ hi) from fun hh => h hh.1)]; rfl
theorem chkP (n : Nat) (At Bits a b c d : Int) (e : Bool) (s : Tx) (hs : s.length ≤ 1048576) : F29 n At Bits a b c d e s = some (ferr At Bits s.length) := by
  unfold F29 ferr
  by_cases h1 : Bits < 1
  · rw [decide_eq_true h1, if_pos (.inl (by omega))]; rfl
  rw [decide_eq_false h1]
  by_cases h2 : Bits > 32
  · rw [decide_eq_true h2, if_pos (.inl (by omega))]; rfl
  rw [decide_eq_false h2]
  by_cases h3 : At < 0
  · rw [decide_eq_true h3, if_pos (.inr (by omega))]; rfl
  rw [decide_eq_false h3]
  by_cases h4 : At > 512
  · rw [decide_eq_true h4, if_pos (.inr (by omega))]; rfl
  rw [decide_eq_false h4, if_neg (by omega)]
  simp only [cond_false, F29_j2]
  rw [w64 (n := 8 * ((s.length : Nat) : Int)) (by omega) (by omega), w64 (n := At + Bits) (by omega) (by omega)]
  by_cases h5 : 8 * (s.length : Int) < At + Bits
  · rw [decide_eq_true h5, if_pos h5]; rfl
  · rw [decide_eq_false h5, if_neg h5]; rfl
theorem chkR (n : Nat) (At Bits a b c d : Int) (e : Bool) (s : Tx) (hs : s.length ≤ 1048576) : F30 n At Bits a b c d e s = some (ferr At Bits s.length) := by
  unfold F30 ferr
  simp only [btw, Option.bind_some]
  by_cases h1 : 1 ≤ Bits ∧ Bits ≤ 32
  · rw [decide_eq_true h1]
    by_cases h2 : 0 ≤ At ∧ At ≤ 512
    · rw [decide_eq_true h2, if_neg (by omega)]
      simp only [Bool.not_true, cond_false]
      rw [w64 (n := 8 * ((s.length : Nat) : Int)) (by omega) (by omega), w64 (n := At + Bits) (by omega) (by omega)]
      by_cases h5 : 8 * (s.length : Int) < At + Bits
      · rw [decide_eq_true (show At + Bits > 8 * (s.length : Int) by omega), if_pos h5]; rfl
      · rw [decide_eq_false (show ¬ At + Bits > 8 * (s.length : Int) by omega), if_neg h5]; rfl
    · rw [decide_eq_false h2, if_pos (.inr h2)]; rfl
  · rw [decide_eq_false h1, if_pos (.inl h1)]; rfl
theorem bit8 : ∀ (x : _root_.Fin 256) (j : _root_.Fin 8), IntKind.wrap .i64 (bitsI .and .u8 (shrI .u8 ((x.val : Nat) : Int) ((j.val : Nat) : Int)) 1) = ((x.val / 2 ^ j.val % 2 : Nat) : Int) := by
  decide +kernel
theorem u64n (k : Nat) (h : k < 1000) : IntKind.wrap .u64 ((k : Nat) : Int) = ((k : Nat) : Int) := by rw [u64w]; omega
/-- what a field tells -/
def getV (s : Tx) (p b : Nat) (mn : Int) : Int := if mn < 0 ∧ tb s (p + (b - 1)) = 1 then ((nm (fun j => tb s (p + j)) b : Nat) : Int) - ((2 ^ b : Nat) : Int) else ((nm (fun j => tb s (p + j)) b : Nat) : Int)
theorem getP (n : Nat) (hn : 5000 < n) (s : Tx) (hs : s.length ≤ 1048576) (p b : Nat) (mn a c d : Int) (e : Bool) (hb1 : 1 ≤ b) (hb : b ≤ 32) (hp : p ≤ 512) (hl : p + b ≤ 8 * s.length) :
    loopF (F12_l2 n (p : Int) (b : Int) mn s) n (0, 0) = some (getV s p b mn, 0) := by
  refine loopF_eq (F12_l2 n (p : Int) (b : Int) mn s) (fun _ => some (getV s p b mn, 0)) (fun d => ∃ i : Nat, i ≤ b ∧ d = (((nm (fun j => tb s (p + j)) i : Nat) : Int), (i : Int))) (fun d => b - d.2.toNat) ?_ n (0, 0) ⟨0, by omega, rfl⟩ (by simp; omega)
  rintro kk d ⟨i, hi, rfl⟩ ih
  have hnm := nm_lt (fun j => tb s (p + j)) (fun _ => tb_lt _ _) i
  have hpi : (2 : Nat) ^ i ≤ 2 ^ 32 := Nat.pow_le_pow_right (by omega) (by omega)
  simp only [F12_l2]
  by_cases hib : i < b
  · have e1 : IntKind.wrap .i64 ((p : Int) + (i : Int)) = ((p + i : Nat) : Int) := by rw [w64 (by omega) (by omega)]; omega
    have e2 : IntKind.wrap .i64 ((((p + i : Nat)) : Int).tdiv 8) = (((p + i) / 8 : Nat) : Int) := by
      rw [show (8 : Int) = ((8 : Nat) : Int) from rfl, tdivN, w64 (by omega) (by omega)]
    have e3 : (((p + i : Nat)) : Int).tmod 8 = (((p + i) % 8 : Nat) : Int) := by rw [show (8 : Int) = ((8 : Nat) : Int) from rfl, tmodN]
    have hbt := bit8 ⟨(s.getD ((p + i) / 8) 0).toNat, UInt8.toNat_lt _⟩ ⟨(p + i) % 8, by omega⟩
    have ht := tb_lt s (p + i)
    have htb : (s.getD ((p + i) / 8) 0).toNat / 2 ^ ((p + i) % 8) % 2 = tb s (p + i) := rfl
    simp only [htb] at hbt
    have hmul : tb s (p + i) * 2 ^ i ≤ 1 * 2 ^ i := Nat.mul_le_mul_right _ (by omega)
    rw [decide_eq_true (show (i : Int) < (b : Int) by omega), e1, e2, e3, inb_true (by omega) (by omega), u64n _ (by omega), u64n i (by omega), decide_eq_true (by omega), decide_eq_true (by omega)]
    simp only [cond_true, Int.toNat_natCast]
    rw [hbt, shl_mul _ _ (by omega) (by omega), bOrAdd _ _ _ hnm (by omega), w64 (n := (i : Int) + 1) (by omega) (by omega)]
    exact ih _ ⟨i + 1, by omega, rfl⟩ (by simp only; omega)
  · obtain rfl : i = b := by omega
    rw [decide_eq_false (by omega)]
    simp only [cond_false]
    unfold getV
    by_cases hm : mn < 0
    · have e1 : IntKind.wrap .i64 ((i : Int) - 1) = ((i - 1 : Nat) : Int) := by rw [w64 (by omega) (by omega)]; omega
      obtain ⟨q, rfl⟩ : ∃ q, i = q + 1 := ⟨i - 1, by omega⟩
      have hq := nm_lt (fun j => tb s (p + j)) (fun _ => tb_lt _ _) q
      have ht := tb_lt s (p + q)
      have hdiv : nm (fun j => tb s (p + j)) (q + 1) / 2 ^ q = tb s (p + q) := by
        simp only [nm]
        rw [Nat.add_mul_div_right _ _ (Nat.pow_pos (by omega)), Nat.div_eq_of_lt hq, Nat.zero_add]
      rw [decide_eq_true hm, e1, u64n _ (by omega), u64n _ (by omega), decide_eq_true (by omega), decide_eq_true (by omega)]
      simp only [cond_true, Nat.add_sub_cancel]
      rw [shr_div .i64 _ _ (by simp [IntKind.bits]; omega)]
      have e2 : (((nm (fun j => tb s (p + j)) (q + 1) : Nat) : Int) / 2 ^ q) = ((tb s (p + q) : Nat) : Int) := by
        rw [← hdiv]; simp
      have e3 : shlI .i64 1 ((q + 1 : Nat) : Int) = ((2 ^ (q + 1) : Nat) : Int) := by
        have := shl_mul 1 (q + 1) (by omega) (by rw [Nat.one_mul]; omega)
        rw [Nat.one_mul] at this
        exact this
      rw [e2]
      by_cases h1 : tb s (p + q) = 1
      · rw [h1, if_pos ⟨hm, rfl⟩, e3, w64 (by omega) (by omega)]; rfl
      · rw [show tb s (p + q) = 0 by omega, if_neg (by omega)]; rfl
    · rw [decide_eq_false hm, if_neg (by omega)]; rfl
theorem getR (n : Nat) (hn : 5000 < n) (s : Tx) (hs : s.length ≤ 1048576) (p b : Nat) (mn : Int) (hb1 : 1 ≤ b) (hb : b ≤ 32) (hp : p ≤ 512) (hl : p + b ≤ 8 * s.length) :
    loopF (F13_l2 n (p : Int) (b : Int) mn (dig (tb s) (8 * s.length))) n (0, ((b - 1 : Nat) : Int)) = some (getV s p b mn, 0) := by
  have e0 : IntKind.wrap .i64 ((p : Int) + (b : Int)) = ((p + b : Nat) : Int) := by rw [w64 (by omega) (by omega)]; omega
  have erow : ((dig (tb s) (8 * s.length)).take (p + b)).drop p = dig (fun j => tb s (p + j)) b := by
    rw [dig_take _ _ _ hl, dig_drop _ _ _ (by omega), Nat.add_sub_cancel_left]
  refine loopF_eq (F13_l2 n (p : Int) (b : Int) mn (dig (tb s) (8 * s.length))) (fun _ => some (getV s p b mn, 0)) (fun d => ∃ i : Nat, i ≤ b ∧ d = (((nm (fun j => tb s (p + (b - i + j))) i : Nat) : Int), (b : Int) - 1 - (i : Int))) (fun d => (d.2 + 1).toNat) ?_ n (0, ((b - 1 : Nat) : Int)) ⟨0, by omega, by ext <;> simp [nm]; omega⟩ (by simp; omega)
  rintro kk d ⟨i, hi, rfl⟩ ih
  have hnm := nm_lt (fun j => tb s (p + (b - i + j))) (fun _ => tb_lt _ _) i
  have hpi : (2 : Nat) ^ i ≤ 2 ^ 32 := Nat.pow_le_pow_right (by omega) (by omega)
  simp only [F13_l2, e0, Int.toNat_natCast, erow, dig_len]
  by_cases hib : i < b
  · have ek : ((b : Int) - 1 - (i : Int)).toNat = b - 1 - i := by omega
    have ht := tb_lt s (p + (b - 1 - i))
    have ed : IntKind.wrap .i64 (IntKind.wrap .u8 (((((dig (fun j => tb s (p + j)) b).getD (b - 1 - i) 0).toNat : Nat) : Int) - 48)) = ((tb s (p + (b - 1 - i)) : Nat) : Int) := by
      rw [dig_get (fun j => tb s (p + j)) _ _ (by omega) ht, u8w, w64 (by omega) (by omega)]
      omega
    rw [decide_eq_true (show (b : Int) - 1 - (i : Int) ≥ 0 by omega), inb_true (by omega) (by omega)]
    simp only [cond_true]
    rw [ek, ed, w64 (n := 2 * ((nm (fun j => tb s (p + (b - i + j))) i : Nat) : Int)) (by omega) (by omega), w64 (by omega) (by omega), w64 (n := (b : Int) - 1 - (i : Int) - 1) (by omega) (by omega)]
    refine ih _ ⟨i + 1, by omega, ?_⟩ (by simp only; omega)
    rw [nm_front]
    have e4 : nm (fun j => tb s (p + (b - (i + 1) + (j + 1)))) i = nm (fun j => tb s (p + (b - i + j))) i := nm_congr i (fun j _ => by congr 1; omega)
    rw [e4, show p + (b - (i + 1) + 0) = p + (b - 1 - i) by omega]
    ext <;> simp <;> omega
  · obtain rfl : i = b := by omega
    have e5 : nm (fun j => tb s (p + (i - i + j))) i = nm (fun j => tb s (p + j)) i := nm_congr i (fun j _ => by congr 1; omega)
    rw [e5] at hnm
    rw [decide_eq_false (by omega), e5]
    simp only [cond_false]
    unfold getV
    by_cases hm : mn < 0
    · have e1 : IntKind.wrap .i64 ((i : Int) - 1) = ((i - 1 : Nat) : Int) := by rw [w64 (by omega) (by omega)]; omega
      have ht := tb_lt s (p + (i - 1))
      rw [decide_eq_true hm, e1, inb_true (by omega) (by omega)]
      simp only [cond_true, Int.toNat_natCast]
      rw [dig_get (fun j => tb s (p + j)) _ _ (by omega) ht, twoV n i (by omega) (by omega)]
      by_cases h1 : tb s (p + (i - 1)) = 1
      · rw [h1, if_pos ⟨hm, rfl⟩]
        simp only [Option.bind_some]
        rw [show ((((48 + 1 : Nat)) : Int) == 49) = true from rfl, w64 (by omega) (by omega)]; rfl
      · rw [show tb s (p + (i - 1)) = 0 by omega, if_neg (by omega)]; rfl
    · rw [decide_eq_false hm, if_neg (by omega)]; rfl
/-! Set -/
def okV (b : Nat) (mn v : Int) : Prop := if mn < 0 then -((2 ^ (b - 1) : Nat) : Int) ≤ v ∧ v < ((2 ^ (b - 1) : Nat) : Int) else 0 ≤ v ∧ v < ((2 ^ b : Nat) : Int)
instance (b : Nat) (mn v : Int) : Decidable (okV b mn v) := by unfold okV; infer_instance
/-- bit j of a value -/
def vb (v : Int) (j : Nat) : Nat := (v / 2 ^ j % 2).toNat
theorem vb_lt (v : Int) (j : Nat) : vb v j < 2 := by unfold vb; omega
/-- the bits with another value of a field -/
def nb (s : Tx) (p b : Nat) (v : Int) (k : Nat) : Nat := if p ≤ k ∧ k < p + b then vb v (k - p) else tb s k
theorem nb_lt (s : Tx) (p b : Nat) (v : Int) (k : Nat) : nb s p b v k < 2 := by
  unfold nb
  split
  · exact vb_lt _ _
  · exact tb_lt _ _
def setV (s : Tx) (p b : Nat) (mn v : Int) : Tx × Int := if okV b mn v then (pack (nb s p b v) s.length, 0) else ([], 4)
theorem bAnd1 (a : Int) : bitsI .and .i64 a 1 = a % 2 := by
  show IntKind.i64.wrap ((BitVec.ofInt 64 a &&& BitVec.ofInt 64 1).toNat : Int) = _
  rw [BitVec.toNat_and, BitVec.toNat_ofInt, show (BitVec.ofInt 64 1).toNat = 1 from rfl, Nat.and_one_is_mod, w64 (by omega) (by omega)]
  omega
theorem setbit : ∀ (x : _root_.Fin 256) (j : _root_.Fin 8) (v : _root_.Fin 2),
    (0 ≤ bitsI .or .u8 (bitsI .andNot .u8 ((x.val : Nat) : Int) (shlI .u8 1 ((j.val : Nat) : Int))) (shlI .u8 (IntKind.wrap .u8 ((v.val : Nat) : Int)) ((j.val : Nat) : Int)) ∧
     bitsI .or .u8 (bitsI .andNot .u8 ((x.val : Nat) : Int) (shlI .u8 1 ((j.val : Nat) : Int))) (shlI .u8 (IntKind.wrap .u8 ((v.val : Nat) : Int)) ((j.val : Nat) : Int)) < 256) ∧
    ∀ k : _root_.Fin 8, (bitsI .or .u8 (bitsI .andNot .u8 ((x.val : Nat) : Int) (shlI .u8 1 ((j.val : Nat) : Int))) (shlI .u8 (IntKind.wrap .u8 ((v.val : Nat) : Int)) ((j.val : Nat) : Int))).toNat / 2 ^ k.val % 2 = if k.val = j.val then v.val else x.val / 2 ^ k.val % 2 := by
  decide +kernel
/-- bit k of a row of bytes -/
def ib (m : List Int) (k : Nat) : Nat := (m.getD (k / 8) 0).toNat / 2 ^ (k % 8) % 2
def BytesOk (m : List Int) : Prop := ∀ i, 0 ≤ m.getD i 0 ∧ m.getD i 0 < 256
theorem ofBits (m : List Int) (f : Nat → Nat) (hm : BytesOk m) (h : ∀ k, k < 8 * m.length → ib m k = f k) : strOf m = pack f m.length := by
  unfold strOf pack
  apply List.ext_getElem?
  intro i
  by_cases hi : i < m.length
  · have e : m.getD i 0 = m[i] := by simp [List.getD_eq_getElem?_getD, hi]
    have hb := hm i
    have key : nm (fun k => f (8 * i + k)) 8 = (m.getD i 0).toNat := by
      rw [← byte_nm (m.getD i 0).toNat (by omega)]
      apply nm_congr
      intro k hk
      rw [← h (8 * i + k) (by omega)]
      unfold ib
      rw [show (8 * i + k) / 8 = i by omega, show (8 * i + k) % 8 = k by omega]
    simp only [List.getElem?_map, List.getElem?_eq_getElem hi, List.getElem?_range hi, Option.map_some]
    rw [key, e]
  · simp [List.getElem?_eq_none (Nat.not_lt.1 hi), hi]
theorem getD_setI (m : List Int) (i j : Nat) (v : Int) : (m.set i v).getD j 0 = if j = i ∧ i < m.length then v else m.getD j 0 := by
  simp only [List.getD_eq_getElem?_getD, List.getElem?_set]
  by_cases h : i = j
  · subst h
    by_cases h2 : i < m.length
    · simp [h2]
    · simp [h2]
  · rw [if_neg h, if_neg (fun hh => h hh.1.symm)]
theorem setP (n : Nat) (hn : 5000 < n) (s : Tx) (hs : s.length ≤ 1048576) (p b : Nat) (v : Int) (hb1 : 1 ≤ b) (hb : b ≤ 32) (hp : p ≤ 512) (hl : p + b ≤ 8 * s.length) :
    loopF (F14_l4 n (p : Int) (b : Int) v) n (0, s.map fun c => ((c.toNat : Nat) : Int)) = some (pack (nb s p b v) s.length, 0) := by
  have z1 : BytesOk (s.map fun c => ((c.toNat : Nat) : Int)) := by
    intro i
    simp only [List.getD_eq_getElem?_getD, List.getElem?_map]
    cases h : s[i]? with
    | none => simp
    | some c => have := UInt8.toNat_lt c; simp; omega
  have z2 : ∀ k, k < 8 * s.length → ib (s.map fun c => ((c.toNat : Nat) : Int)) k = nb s p 0 v k := by
    intro k hk
    unfold ib nb tb
    rw [if_neg (by omega)]
    simp only [List.getD_eq_getElem?_getD, List.getElem?_map]
    cases h : s[k / 8]? with
    | none => simp
    | some c => simp
  refine loopF_eq (F14_l4 n (p : Int) (b : Int) v) (fun _ => some (pack (nb s p b v) s.length, 0)) (fun d => ∃ i : Nat, i ≤ b ∧ d.1 = (i : Int) ∧ d.2.length = s.length ∧ BytesOk d.2 ∧ ∀ k, k < 8 * s.length → ib d.2 k = nb s p i v k) (fun d => b - d.1.toNat) ?_ n _ ⟨0, by omega, rfl, by simp, z1, z2⟩ (by simp; omega)
  rintro kk ⟨x, m⟩ ⟨i, hi, rfl, hml, hmb, hbits⟩ ih
  simp only at hml hmb hbits
  simp only [F14_l4]
  by_cases hib : i < b
  · have e1 : IntKind.wrap .i64 ((p : Int) + (i : Int)) = ((p + i : Nat) : Int) := by rw [w64 (by omega) (by omega)]; omega
    have e2 : IntKind.wrap .i64 ((((p + i : Nat)) : Int).tdiv 8) = (((p + i) / 8 : Nat) : Int) := by
      rw [show (8 : Int) = ((8 : Nat) : Int) from rfl, tdivN, w64 (by omega) (by omega)]
    have e3 : (((p + i : Nat)) : Int).tmod 8 = (((p + i) % 8 : Nat) : Int) := by rw [show (8 : Int) = ((8 : Nat) : Int) from rfl, tmodN]
    have e4 : bitsI .and .i64 (shrI .i64 v ((i : Nat) : Int)) 1 = ((vb v i : Nat) : Int) := by
      rw [bAnd1, shr_div .i64 _ _ (by simp [IntKind.bits]; omega)]
      unfold vb; omega
    have hx := hmb ((p + i) / 8)
    obtain ⟨X, hX⟩ : ∃ X : Nat, m.getD ((p + i) / 8) 0 = (X : Int) := ⟨(m.getD ((p + i) / 8) 0).toNat, by omega⟩
    have hX2 : X < 256 := by omega
    have hset := setbit ⟨X, hX2⟩ ⟨(p + i) % 8, by omega⟩ ⟨vb v i, vb_lt v i⟩
    simp only at hset
    rw [decide_eq_true (show (i : Int) < (b : Int) by omega), e1, e2, e3, inb_true (by omega) (by omega), u64n _ (by omega), u64n i (by omega), decide_eq_true (by omega), decide_eq_true (by omega), e4]
    simp only [cond_true, Int.toNat_natCast]
    rw [hX, w64 (n := (i : Int) + 1) (by omega) (by omega)]
    generalize bitsI .or .u8 (bitsI .andNot .u8 ((X : Nat) : Int) (shlI .u8 1 (((p + i) % 8 : Nat) : Int))) (shlI .u8 (IntKind.wrap .u8 ((vb v i : Nat) : Int)) (((p + i) % 8 : Nat) : Int)) = y at hset ⊢
    obtain ⟨⟨hy0, hy1⟩, hyb⟩ := hset
    refine ih _ ⟨i + 1, by omega, by simp, by simp [hml], fun j => ?_, fun k hk => ?_⟩ (by simp only; omega)
    · simp only [getD_setI]
      split
      · exact ⟨hy0, hy1⟩
      · exact hmb j
    · have hold := hbits k hk
      unfold ib at hold ⊢
      simp only [getD_setI]
      by_cases hkk : k / 8 = (p + i) / 8
      · rw [if_pos ⟨hkk, by omega⟩]
        have := hyb ⟨k % 8, by omega⟩
        simp only at this
        rw [this]
        rw [hkk, hX] at hold
        simp only [Int.toNat_natCast] at hold
        unfold nb at hold ⊢
        by_cases hk2 : k % 8 = (p + i) % 8
        · obtain rfl : k = p + i := by omega
          rw [if_pos hk2, if_pos (by omega), Nat.add_sub_cancel_left]
        · rw [if_neg hk2, hold]
          by_cases h3 : p ≤ k ∧ k < p + i
          · rw [if_pos h3, if_pos (by omega)]
          · rw [if_neg h3, if_neg (by intro h4; have : k = p + i := by omega
                                      exact hk2 (by rw [this]))]
      · rw [if_neg (fun h => hkk h.1), hold]
        unfold nb
        by_cases h3 : p ≤ k ∧ k < p + i
        · rw [if_pos h3, if_pos (by omega)]
        · rw [if_neg h3, if_neg (by intro h4; have : k = p + i := by omega
                                    exact hkk (by rw [this]))]
  · obtain rfl : i = b := by omega
    rw [decide_eq_false (by omega)]
    simp only [cond_false]
    rw [ofBits m (nb s p i v) hmb (by rw [hml]; exact hbits), hml]
theorem lowbits (v : Int) (b j : Nat) (hj : j < b) : (v % 2 ^ b) / 2 ^ j % 2 = v / 2 ^ j % 2 := by
  obtain ⟨q, hq⟩ : ∃ q, v = v % 2 ^ b + 2 ^ b * q := ⟨v / 2 ^ b, (Int.emod_add_mul_ediv v (2 ^ b)).symm⟩
  obtain ⟨c, rfl⟩ : ∃ c, b = j + (c + 1) := ⟨b - j - 1, by omega⟩
  have e : (2 : Int) ^ (j + (c + 1)) * q = 2 ^ j * (2 * (2 ^ c * q)) := by
    rw [Int.pow_add, Int.pow_succ, Int.mul_assoc, Int.mul_assoc, Int.mul_left_comm (2 ^ c) 2 q]
  have h0 : (2 : Int) ^ j ≠ 0 := Int.ne_of_gt (Int.pow_pos (by omega))
  obtain ⟨r, hr⟩ : ∃ r, v % 2 ^ (j + (c + 1)) = r := ⟨_, rfl⟩
  rw [hr] at hq ⊢
  rw [hq, e, Int.add_mul_ediv_left _ _ h0]
  generalize 2 ^ c * q = z
  generalize r / 2 ^ j = y
  omega
theorem digit01 : ∀ k : _root_.Fin 2, (([48, 49] : Tx).take (k.val + 1)).drop k.val = [UInt8.ofNat (48 + k.val)] := by decide
theorem setR (n : Nat) (hn : 9000000 < n) (s : Tx) (hs : s.length ≤ 1048576) (p b : Nat) (v : Int) (hb1 : 1 ≤ b) (hb : b ≤ 32) (hp : p ≤ 512) (hl : p + b ≤ 8 * s.length) (left : Nat) (hleft : left < 2 ^ b) (hlb : ∀ j, j < b → left / 2 ^ j % 2 = vb v j) :
    loopF (F15_l4 n (p : Int) (b : Int) (dig (tb s) (8 * s.length))) n (([] : Tx), (left : Int)) = some (pack (nb s p b v) s.length, 0) := by
  have e0 : IntKind.wrap .i64 ((p : Int) + (b : Int)) = ((p + b : Nat) : Int) := by rw [w64 (by omega) (by omega)]; omega
  have hpb : (2 : Nat) ^ b ≤ 2 ^ 32 := Nat.pow_le_pow_right (by omega) (by omega)
  refine loopF_eq (F15_l4 n (p : Int) (b : Int) (dig (tb s) (8 * s.length))) (fun _ => some (pack (nb s p b v) s.length, 0)) (fun d => ∃ i : Nat, i ≤ b ∧ d = (dig (vb v) i, ((left / 2 ^ i : Nat) : Int))) (fun d => b - d.1.length) ?_ n (([] : Tx), (left : Int)) ⟨0, by omega, by simp [dig]⟩ (by simp; omega)
  rintro kk d ⟨i, hi, rfl⟩ ih
  simp only [F15_l4, dig_len, e0, Int.toNat_natCast]
  by_cases hib : i < b
  · have hd : left / 2 ^ i ≤ left := Nat.div_le_self _ _
    have e2 : ((left / 2 ^ i : Nat) : Int).tmod 2 = ((vb v i : Nat) : Int) := by
      rw [show (2 : Int) = ((2 : Nat) : Int) from rfl, tmodN, hlb i hib]
    have e3 : IntKind.wrap .i64 (((left / 2 ^ i : Nat) : Int).tdiv 2) = ((left / 2 ^ (i + 1) : Nat) : Int) := by
      rw [show (2 : Int) = ((2 : Nat) : Int) from rfl, tdivN, w64n _ (by omega), Nat.div_div_eq_div_mul, ← Nat.pow_succ]
    have hv := vb_lt v i
    have hd1 := digit01 ⟨vb v i, hv⟩
    simp only at hd1
    rw [decide_eq_true (show (i : Int) < (b : Int) by omega), e2, w64 (n := ((vb v i : Nat) : Int) + 1) (by omega) (by omega), e3]
    rw [show (((vb v i : Nat) : Int) + 1).toNat = vb v i + 1 by omega, Int.toNat_natCast, hd1, show subB ([48, 49] : Tx).length (some ((vb v i : Nat) : Int)) (some (((vb v i : Nat) : Int) + 1)) = true by simp [subB]; omega, decide_eq_true (by simp; omega)]
    simp only [cond_true]
    refine ih _ ⟨i + 1, by omega, ?_⟩ (by simp [dig_len]; omega)
    rw [dig_succ]
  · obtain rfl : i = b := by omega
    have hd := dig_drop (tb s) (8 * s.length) (p + i) hl
    have e5 : (dig (tb s) p ++ dig (vb v) i) ++ dig (fun j => tb s (p + i + j)) (8 * s.length - (p + i)) = dig (nb s p i v) (8 * s.length) := by
      rw [dig_app, dig_app, show p + i + (8 * s.length - (p + i)) = 8 * s.length by omega]
      apply dig_congr
      intro k hk
      show (if k < p + i then (if k < p then tb s k else vb v (k - p)) else tb s (p + i + (k - (p + i)))) = nb s p i v k
      unfold nb
      by_cases h1 : k < p
      · rw [if_pos (show k < p + i by omega), if_pos h1, if_neg (show ¬ (p ≤ k ∧ k < p + i) by omega)]
      · by_cases h2 : k < p + i
        · rw [if_pos h2, if_neg h1, if_pos (show p ≤ k ∧ k < p + i by omega)]
        · rw [if_neg h2, if_neg (show ¬ (p ≤ k ∧ k < p + i) by omega)]; congr 1; omega
    rw [decide_eq_false (by omega)]
    simp only [cond_false]
    rw [dig_take _ _ _ (by omega), hd, e5, show subB (8 * s.length) none (some (p : Int)) = true by simp [subB]; omega, show subB (8 * s.length) (some ((p + i : Nat) : Int)) none = true by simp [subB]; omega,
      bytesV n (nb s p i v) s.length (nb_lt s p i v) hs (by omega)]
    simp only [dig_len, List.length_append]
    rw [decide_eq_true (by omega), decide_eq_true (by omega)]
    rfl
theorem shlneg : ∀ b : _root_.Fin 32, shlI .i64 (-1) ((b.val : Nat) : Int) = -((2 ^ b.val : Nat) : Int) := by decide +kernel
theorem getsV (n : Nat) (hn : 9000000 < n) (At Bits a b c d : Int) (e : Bool) (s : Tx) (hs : s.length ≤ 1048576) :
    ∃ r, F12 n At Bits a b c d e s = some r ∧ F13 n At Bits a b c d e s = some r := by
  unfold F12 F13
  rw [chkP n At Bits a b c d e s hs, chkR n At Bits a b c d e s hs]
  simp only [Option.bind_some]
  by_cases hf : ferr At Bits s.length = 0
  · have hr : 1 ≤ Bits ∧ Bits ≤ 32 ∧ 0 ≤ At ∧ At ≤ 512 ∧ At + Bits ≤ 8 * (s.length : Int) := by
      unfold ferr at hf
      split at hf
      · omega
      · split at hf <;> omega
    obtain ⟨p, rfl⟩ : ∃ p : Nat, At = (p : Int) := ⟨At.toNat, by omega⟩
    obtain ⟨q, rfl⟩ : ∃ q : Nat, Bits = (q : Int) := ⟨Bits.toNat, by omega⟩
    have e0 : IntKind.wrap .i64 ((p : Int) + (q : Int)) = ((p + q : Nat) : Int) := by rw [w64 (by omega) (by omega)]; omega
    have e1 : IntKind.wrap .i64 ((q : Int) - 1) = ((q - 1 : Nat) : Int) := by rw [w64 (by omega) (by omega)]; omega
    rw [hf, bitsV n s hs (by omega)]
    simp only [show ((0 : Int) != 0) = false from rfl, cond_false, Option.bind_some, e0, e1, dig_len]
    rw [show subB (8 * s.length) (some (p : Int)) (some ((p + q : Nat) : Int)) = true by simp [subB]; omega]
    exact ⟨_, getP n (by omega) s hs p q c a b d e (by omega) (by omega) (by omega) (by omega), getR n (by omega) s hs p q c (by omega) (by omega) (by omega) (by omega)⟩
  · rw [show (ferr At Bits s.length != 0) = true by simpa using hf]
    exact ⟨_, rfl, rfl⟩
theorem setsV (n : Nat) (hn : 9000000 < n) (At Bits a b c d : Int) (e : Bool) (s : Tx) (hs : s.length ≤ 1048576) (v : Int) (hv : -9223372036854775808 ≤ v ∧ v ≤ 9223372036854775807) :
    ∃ r, F14 n At Bits a b c d e s v = some r ∧ F15 n At Bits a b c d e s v = some r := by
  unfold F14 F15
  rw [chkP n At Bits a b c d e s hs, chkR n At Bits a b c d e s hs]
  simp only [Option.bind_some]
  by_cases hf : ferr At Bits s.length = 0
  · have hr : 1 ≤ Bits ∧ Bits ≤ 32 ∧ 0 ≤ At ∧ At ≤ 512 ∧ At + Bits ≤ 8 * (s.length : Int) := by
      unfold ferr at hf
      split at hf
      · omega
      · split at hf <;> omega
    obtain ⟨p, rfl⟩ : ∃ p : Nat, At = (p : Int) := ⟨At.toNat, by omega⟩
    obtain ⟨q, rfl⟩ : ∃ q : Nat, Bits = ((q + 1 : Nat) : Int) := ⟨Bits.toNat - 1, by omega⟩
    have e1 : IntKind.wrap .i64 (((q + 1 : Nat) : Int) - 1) = ((q : Nat) : Int) := by rw [w64 (by omega) (by omega)]; omega
    have hpq : (2 : Nat) ^ (q + 1) ≤ 2 ^ 32 := Nat.pow_le_pow_right (by omega) (by omega)
    have hpq2 : (2 : Nat) ^ (q + 1) = 2 * 2 ^ q := by rw [Nat.pow_succ, Nat.mul_comm]
    have hpos : 0 < (2 : Nat) ^ q := Nat.pow_pos (by omega)
    have hsl : ∀ j : Nat, j ≤ 32 → shlI .i64 1 ((j : Nat) : Int) = ((2 ^ j : Nat) : Int) := fun j hj => by
      have h2 : (2 : Nat) ^ j ≤ 4611686018427387904 := pow_le62 (by omega)
      have := shl_mul 1 j (by omega) (by rw [Nat.one_mul]; omega)
      rw [Nat.one_mul] at this
      exact this
    have hsn := shlneg ⟨q, by omega⟩
    simp only at hsn
    have hlow : ∀ ok : okV (q + 1) c v, (∃ left : Nat, (IntKind.wrap .i64 (v + ((2 ^ (q + 1) : Nat) : Int))).tmod ((2 ^ (q + 1) : Nat) : Int) = (left : Int) ∧ left < 2 ^ (q + 1) ∧ ∀ j, j < q + 1 → left / 2 ^ j % 2 = vb v j) := by
      intro ok
      unfold okV at ok
      simp only [Nat.add_sub_cancel] at ok
      have hge : 0 ≤ v + ((2 ^ (q + 1) : Nat) : Int) := by split at ok <;> omega
      have hle : v < ((2 ^ (q + 1) : Nat) : Int) := by split at ok <;> omega
      have em : (v + ((2 ^ (q + 1) : Nat) : Int)) % ((2 ^ (q + 1) : Nat) : Int) = v % ((2 ^ (q + 1) : Nat) : Int) := by simp
      have hlt := Int.emod_lt_of_pos v (show (0 : Int) < ((2 ^ (q + 1) : Nat) : Int) by omega)
      have hnn := Int.emod_nonneg v (show ((2 ^ (q + 1) : Nat) : Int) ≠ 0 by omega)
      refine ⟨(v % ((2 ^ (q + 1) : Nat) : Int)).toNat, ?_, by omega, fun j hj => ?_⟩
      · rw [w64 (by omega) (by omega), Int.tmod_eq_emod_of_nonneg hge, em]; omega
      · have hb := lowbits v (q + 1) j hj
        have ec : ((2 ^ (q + 1) : Nat) : Int) = 2 ^ (q + 1) := by simp
        rw [ec] at hnn ⊢
        unfold vb
        rw [← hb]
        obtain ⟨L, hL⟩ : ∃ L : Nat, v % 2 ^ (q + 1) = (L : Int) := ⟨(v % 2 ^ (q + 1)).toNat, by omega⟩
        rw [hL, Int.toNat_natCast]
        have : ((L : Int) / 2 ^ j % 2) = ((L / 2 ^ j % 2 : Nat) : Int) := by simp
        rw [this, Int.toNat_natCast]
    have hj3P : ∀ low high : Int, (low ≤ v ∧ v < high ↔ okV (q + 1) c v) → F14_j3 n (p : Int) ((q + 1 : Nat) : Int) s v (low, high) = some (setV s p (q + 1) c v) := by
      intro low high hiff
      simp only [F14_j3, setV]
      by_cases hok : okV (q + 1) c v
      · have := hiff.2 hok
        rw [if_pos hok, decide_eq_false (by omega), decide_eq_false (by omega), decide_eq_true (by omega)]
        simp only [cond_true, cond_false]
        exact setP n (by omega) s hs p (q + 1) v (by omega) (by omega) (by omega) (by omega)
      · rw [if_neg hok]
        by_cases hl : v < low
        · rw [decide_eq_true hl]; rfl
        · rw [decide_eq_false hl, decide_eq_true (show v ≥ high by
            have : ¬ v < high := fun h => hok (hiff.1 ⟨by omega, h⟩)
            omega)]; rfl
    have hj3R : ∀ x : Bool, (x = false ↔ okV (q + 1) c v) → F15_j3 n (p : Int) ((q + 1 : Nat) : Int) s v ((2 ^ (q + 1) : Nat) : Int) x = some (setV s p (q + 1) c v) := by
      intro x hiff
      simp only [F15_j3, setV]
      by_cases hok : okV (q + 1) c v
      · rw [hiff.2 hok, if_pos hok, bitsV n s hs (by omega)]
        obtain ⟨left, h1, h2, h3⟩ := hlow hok
        simp only [cond_false, Option.bind_some]
        rw [show (((2 ^ (q + 1) : Nat) : Int) != 0) = true from bne_iff_ne.2 (by omega), h1]
        simp only [cond_true]
        exact setR n hn s hs p (q + 1) v (by omega) (by omega) (by omega) (by omega) left h2 h3
      · rw [if_neg hok]
        cases x with
        | false => exact absurd (hiff.1 rfl) hok
        | true => rfl
    rw [hf]
    simp only [show ((0 : Int) != 0) = false from rfl, cond_false, e1]
    rw [u64n (q + 1) (by omega), u64n q (by omega), decide_eq_true (show (0 : Int) ≤ ((q + 1 : Nat) : Int) by omega), decide_eq_true (show (0 : Int) ≤ ((q : Nat) : Int) by omega), twoV n (q + 1) (by omega) (by omega)]
    simp only [cond_true, Option.bind_some, btw, hsn, hsl (q + 1) (by omega), hsl q (by omega)]
    refine ⟨setV s p (q + 1) c v, ?_, ?_⟩
    · by_cases hc : c < 0
      · rw [decide_eq_true hc]
        exact hj3P _ _ (by unfold okV; rw [if_pos hc]; simp only [Nat.add_sub_cancel])
      · rw [decide_eq_false hc]
        exact hj3P _ _ (by unfold okV; rw [if_neg hc])
    · by_cases hc : c < 0
      · have e5 : IntKind.wrap .i64 ((IntKind.wrap .i64 (0 - ((2 ^ (q + 1) : Nat) : Int))).tdiv 2) = -((2 ^ q : Nat) : Int) := by
          rw [w64 (n := 0 - ((2 ^ (q + 1) : Nat) : Int)) (by omega) (by omega), hpq2, show (0 - ((2 * 2 ^ q : Nat) : Int)) = -((2 ^ q : Nat) : Int) * 2 by omega, Int.mul_tdiv_cancel _ (by omega), w64 (by omega) (by omega)]
        have e6 : IntKind.wrap .i64 (IntKind.wrap .i64 (((2 ^ (q + 1) : Nat) : Int).tdiv 2) - 1) = ((2 ^ q : Nat) : Int) - 1 := by
          rw [show (2 : Int) = ((2 : Nat) : Int) from rfl, tdivN, hpq2, Nat.mul_div_cancel_left _ (by omega), w64 (n := ((2 ^ q : Nat) : Int)) (by omega) (by omega), w64 (by omega) (by omega)]
        rw [decide_eq_true hc, decide_eq_false (show ¬ c ≥ 0 by omega), e5, e6]
        simp only [cond_true, cond_false]
        by_cases hok : -((2 ^ q : Nat) : Int) ≤ v ∧ v ≤ ((2 ^ q : Nat) : Int) - 1
        · rw [decide_eq_true hok]
          exact hj3R false (by unfold okV; rw [if_pos hc]; simp only [Nat.add_sub_cancel, true_iff]; omega)
        · rw [decide_eq_false hok]
          exact hj3R true (by unfold okV; rw [if_pos hc]; simp only [Nat.add_sub_cancel]; constructor <;> intro h; · cases h
                              · exact absurd ⟨h.1, by omega⟩ hok)
      · rw [decide_eq_false hc, decide_eq_true (show c ≥ 0 by omega), w64 (n := ((2 ^ (q + 1) : Nat) : Int) - 1) (by omega) (by omega)]
        simp only [cond_true, cond_false]
        by_cases hok : 0 ≤ v ∧ v ≤ ((2 ^ (q + 1) : Nat) : Int) - 1
        · rw [decide_eq_true hok]
          exact hj3R _ (by unfold okV; rw [if_neg hc]; simp only [Bool.not_true, true_iff]; omega)
        · rw [decide_eq_false hok]
          exact hj3R _ (by unfold okV; rw [if_neg hc]; simp only [Bool.not_false]; constructor <;> intro h; · cases h
                           · exact absurd ⟨h.1, by omega⟩ hok)
  · rw [show (ferr At Bits s.length != 0) = true by simpa using hf]
    exact ⟨_, rfl, rfl⟩
abbrev fieldSh : Sh := .st (.pair (.int .i64) (.pair (.int .i64) (.pair (.int .i64) (.pair (.int .i64) (.pair (.int .i64) (.pair (.int .i64) .bool))))))
theorem reportGets_says (a0 : Sh.T (.st (.pair (.int .i64) (.pair (.int .i64) (.pair (.int .i64) (.pair (.int .i64) (.pair (.int .i64) (.pair (.int .i64) .bool)))))))) (g0 : Sh.good (.st (.pair (.int .i64) (.pair (.int .i64) (.pair (.int .i64) (.pair (.int .i64) (.pair (.int .i64) (.pair (.int .i64) .bool))))))) a0)
    (u0 : Sh.bulk (.st (.pair (.int .i64) (.pair (.int .i64) (.pair (.int .i64) (.pair (.int .i64) (.pair (.int .i64) (.pair (.int .i64) .bool))))))) a0 ≤ 1048576) (a1 : Sh.T .str) (g1 : Sh.good .str a1) (u1 : Sh.bulk .str a1 ≤ 1048576) (a2 : Sh.T (.int .i64)) (g2 : Sh.good (.int .i64) a2) (u2 : Sh.bulk (.int .i64) a2 ≤ 1048576) :
    ∃ n, F5 n a0.1 a0.2.1 a0.2.2.1 a0.2.2.2.1 a0.2.2.2.2.1 a0.2.2.2.2.2.1 a0.2.2.2.2.2.2 a1 a2 = some true := by
  have hs : a1.length ≤ 1048576 := by
    have : a1.length + 1 ≤ 1048576 := u1
    omega
  obtain ⟨p, b, c, d, e, f, g⟩ := a0
  refine ⟨20000000, ?_⟩
  unfold F5
  obtain ⟨r, h1, h2⟩ := getsV 20000000 (by omega) p b c d e f g a1 hs
  obtain ⟨t, h3, h4⟩ := setsV 20000000 (by omega) p b c d e f g a1 hs a2 (good_i64 g2)
  simp only [h1, h2, h3, h4, Option.bind_some, beq_self_eq_true, cond_true]
end Go.Proofs.Ytcdighmioekeiaa
