/- Bits of a text; texts of bits; in plain Lean. -/
import Derived.Test.YtekmnhplhoejdaaDoorFta
import Derived.Test.YtekmnhplhoejdaaDoorAm26
namespace Go.Proofs.YtekmnhplhoejdaaDoor.Bk
open Go Go.RowKit
set_option linter.unusedVariables false

abbrev Tx := List UInt8
/-- bit k of a text -/
def tb (s : Tx) (k : Nat) : Nat := (s.getD (k / 8) 0).toNat / 2 ^ (k % 8) % 2
theorem tb_lt (s : Tx) (k : Nat) : tb s k < 2 := Nat.mod_lt _ (by omega)
/-- bits as a number, the lowest first -/
def nm (f : Nat → Nat) : Nat → Nat
  | 0 => 0
  | j + 1 => nm f j + f j * 2 ^ j
theorem nm_lt (f : Nat → Nat) (h : ∀ k, f k < 2) : ∀ j, nm f j < 2 ^ j
  | 0 => by simp [nm]
  | j + 1 => by
    have h1 := nm_lt f h j
    have h2 := h j
    simp only [nm]
    have : f j * 2 ^ j ≤ 1 * 2 ^ j := Nat.mul_le_mul_right _ (by omega)
    rw [Nat.pow_succ]
    omega
theorem nm_front (f : Nat → Nat) : ∀ j, nm f (j + 1) = f 0 + 2 * nm (fun k => f (k + 1)) j
  | 0 => by simp [nm]
  | j + 1 => by
    rw [show nm f (j + 1 + 1) = nm f (j + 1) + f (j + 1) * 2 ^ (j + 1) from rfl, nm_front f j]
    simp only [nm]
    rw [Nat.pow_succ, Nat.mul_add, Nat.mul_comm (2 ^ j) 2, ← Nat.mul_assoc, Nat.mul_comm (f (j + 1)) 2, Nat.mul_assoc]
    omega
theorem nm_congr {f g : Nat → Nat} : ∀ (j : Nat), (∀ k, k < j → f k = g k) → nm f j = nm g j
  | 0, _ => rfl
  | j + 1, h => by
    simp only [nm]
    rw [nm_congr j (fun k hk => h k (by omega)), h j (by omega)]
theorem byte_nm (x : Nat) (h : x < 256) : nm (fun k => x / 2 ^ k % 2) 8 = x := by
  simp only [nm]
  omega
theorem tdivN (a b : Nat) : ((a : Int)).tdiv (b : Int) = ((a / b : Nat) : Int) := by
  rw [Int.tdiv_eq_ediv_of_nonneg (by omega)]; simp
theorem tmodN (a b : Nat) : ((a : Int)).tmod (b : Int) = ((a % b : Nat) : Int) := by
  rw [Int.tmod_eq_emod_of_nonneg (by omega)]; simp
theorem pow_le62 {k : Nat} (h : k ≤ 62) : (2 : Nat) ^ k ≤ 4611686018427387904 := Nat.pow_le_pow_right (by omega) h
/-- Two -/
theorem twoV (n k : Nat) (hk : k ≤ 62) (hn : k < n) : F136 n (k : Int) = some ((2 ^ k : Nat) : Int) := by
  unfold F136
  refine loopF_eq (F136_l2 n (k : Int)) (fun _ => some ((2 ^ k : Nat) : Int)) (fun d => ∃ j : Nat, j ≤ k ∧ d = (((2 ^ j : Nat) : Int), (j : Int))) (fun d => k - d.2.toNat) ?_ n (1, 0) ⟨0, by omega, rfl⟩ (by simp; omega)
  rintro kk d ⟨j, hj, rfl⟩ ih
  simp only [F136_l2]
  by_cases hjk : j < k
  · have h2 : (2 : Nat) ^ (j + 1) ≤ 4611686018427387904 := pow_le62 (by omega)
    have e1 : IntKind.wrap .i64 (((2 ^ j : Nat) : Int) * 2) = ((2 ^ (j + 1) : Nat) : Int) := by
      have : ((2 ^ j : Nat) : Int) * 2 = ((2 ^ (j + 1) : Nat) : Int) := by rw [Nat.pow_succ]; simp
      rw [this, w64n _ (by omega)]
    rw [decide_eq_true (show (j : Int) < (k : Int) by omega), e1, w64 (n := (j : Int) + 1) (by omega) (by omega)]
    exact ih _ ⟨j + 1, by omega, rfl⟩ (by simp only; omega)
  · obtain rfl : j = k := by omega
    rw [decide_eq_false (by omega)]; rfl
/-! a text of noughts and ones -/
def dig (f : Nat → Nat) (m : Nat) : Tx := (List.range m).map fun k => UInt8.ofNat (48 + f k)
theorem dig_len (f : Nat → Nat) (m : Nat) : (dig f m).length = m := by simp [dig]
theorem dig_get (f : Nat → Nat) (m k : Nat) (hk : k < m) (hf : f k < 2) : ((dig f m).getD k 0).toNat = 48 + f k := by
  simp [dig, List.getD_eq_getElem?_getD, hk]
  omega
theorem dig_succ (f : Nat → Nat) (m : Nat) : dig f (m + 1) = dig f m ++ [UInt8.ofNat (48 + f m)] := by simp [dig, List.range_succ]
theorem dig_congr {f g : Nat → Nat} (m : Nat) (h : ∀ k, k < m → f k = g k) : dig f m = dig g m := by
  unfold dig
  apply List.map_congr_left
  intro k hk
  rw [h k (by simpa using hk)]
theorem dig_take (f : Nat → Nat) (m k : Nat) (h : k ≤ m) : (dig f m).take k = dig f k := by
  unfold dig
  rw [← List.map_take, List.take_range, Nat.min_eq_left h]
theorem dig_app (f g : Nat → Nat) (a b : Nat) : dig f a ++ dig g b = dig (fun k => if k < a then f k else g (k - a)) (a + b) := by
  apply List.ext_getElem?
  intro i
  by_cases h : i < a
  · rw [List.getElem?_append_left (by rw [dig_len]; exact h)]
    simp [dig, h, show i < a + b by omega]
  · rw [List.getElem?_append_right (by rw [dig_len]; omega), dig_len]
    by_cases h2 : i < a + b
    · simp [dig, h2, show i - a < b by omega, h]
    · simp [dig, show ¬ i < a + b by omega, show ¬ i - a < b by omega]
theorem dig_drop (f : Nat → Nat) (m k : Nat) (h : k ≤ m) : (dig f m).drop k = dig (fun j => f (k + j)) (m - k) := by
  have e := dig_app f (fun j => f (k + j)) k (m - k)
  have e2 : dig (fun j => if j < k then f j else f (k + (j - k))) (k + (m - k)) = dig f m := by
    rw [show k + (m - k) = m by omega]
    apply dig_congr
    intro j _
    split
    · rfl
    · congr 1; omega
  rw [← e2, ← e, List.drop_append_of_le_length (by rw [dig_len]; omega), List.drop_of_length_le (by rw [dig_len]; omega), List.nil_append]
theorem set_fill (A : List Int) (m : Nat) (v z : Int) : (A ++ List.replicate (m + 1) z).set A.length v = (A ++ [v]) ++ List.replicate m z := by
  rw [List.set_append_right _ _ (Nat.le_refl _), Nat.sub_self]
  simp [List.replicate_succ]
theorem set_fill2 (A R : List Int) (u v : Int) : ((A ++ [u]) ++ R).set A.length v = (A ++ [v]) ++ R := by
  rw [List.append_assoc, List.set_append_right _ _ (Nat.le_refl _), Nat.sub_self]
  simp
def digI (f : Nat → Nat) (m : Nat) : List Int := (List.range m).map fun k => ((48 + f k : Nat) : Int)
theorem digI_len (f : Nat → Nat) (m : Nat) : (digI f m).length = m := by simp [digI]
theorem digI_succ (f : Nat → Nat) (m : Nat) : digI f (m + 1) = digI f m ++ [((48 + f m : Nat) : Int)] := by simp [digI, List.range_succ]
theorem strOf_digI (f : Nat → Nat) (m : Nat) : strOf (digI f m) = dig f m := by
  unfold strOf digI dig
  rw [List.map_map]
  apply List.map_congr_left
  intro k _
  rfl
/-- Bits -/
theorem bitsV (n : Nat) (s : Tx) (hs : s.length ≤ 1048576) (hn : 8 * s.length + 100 < n) : F107 n s = some (dig (tb s) (8 * s.length)) := by
  obtain ⟨L, hL⟩ : ∃ L, s.length = L := ⟨_, rfl⟩
  rw [hL] at hs hn ⊢
  have e8 : IntKind.wrap .i64 (8 * ((L : Nat) : Int)) = ((8 * L : Nat) : Int) := by
    rw [w64 (by omega) (by omega)]; simp
  unfold F107
  rw [hL, e8, decide_eq_true (by omega)]
  simp only [cond_true, Int.toNat_natCast]
  refine loopF_eq (F107_l2 n s) (fun _ => some (dig (tb s) (8 * L))) (fun d => ∃ k : Nat, k ≤ 8 * L ∧ d = ((k : Int), digI (tb s) k ++ List.replicate (8 * L - k) 0)) (fun d => 8 * L - d.1.toNat) ?_ n (0, List.replicate (8 * L) 0) ⟨0, by omega, rfl⟩ (by simp; omega)
  rintro kk d ⟨k, hk, rfl⟩ ih
  simp only [F107_l2, hL, e8, Int.toNat_natCast, List.length_replicate]
  by_cases hkl : k < 8 * L
  · obtain ⟨m, hm⟩ : ∃ m, 8 * L - k = m + 1 := ⟨8 * L - k - 1, by omega⟩
    have hk8 : k / 8 < L := by omega
    have e1 : IntKind.wrap .i64 (((k : Nat) : Int).tdiv 8) = ((k / 8 : Nat) : Int) := by
      rw [show (8 : Int) = ((8 : Nat) : Int) from rfl, tdivN, w64 (by omega) (by omega)]
    have e2 : ((k : Nat) : Int).tmod 8 = ((k % 8 : Nat) : Int) := by rw [show (8 : Int) = ((8 : Nat) : Int) from rfl, tmodN]
    have hp0 : 0 < (2 : Nat) ^ (k % 8) := Nat.pow_pos (by omega)
    have hne : (((2 ^ (k % 8) : Nat) : Int) != 0) = true := by
      generalize 2 ^ (k % 8) = T at hp0
      simp; omega
    rw [decide_eq_true (show (k : Int) < ((8 * L : Nat) : Int) by omega), inb_true (by omega) (by simp [digI_len]; omega), e1, inb_true (by omega) (by omega), e2, twoV n (k % 8) (by omega) (by omega)]
    simp only [cond_true, Option.bind_some, Int.toNat_natCast]
    rw [hne]
    simp only [cond_true]
    have hb := UInt8.toNat_lt (s.getD (k / 8) 0)
    have e3 : (IntKind.wrap .i64 ((IntKind.wrap .i64 (((s.getD (k / 8) 0).toNat : Nat) : Int)).tdiv ((2 ^ (k % 8) : Nat) : Int))).tmod 2 = ((tb s k : Nat) : Int) := by
      have hd : (s.getD (k / 8) 0).toNat / 2 ^ (k % 8) ≤ (s.getD (k / 8) 0).toNat := Nat.div_le_self _ _
      rw [w64n _ (by omega), tdivN, w64n _ (by omega), show (2 : Int) = ((2 : Nat) : Int) from rfl, tmodN]
      rfl
    rw [e3, hm]
    have hset := set_fill (digI (tb s) k) m 48 0
    rw [digI_len] at hset
    rw [hset, w64 (n := (k : Int) + 1) (by omega) (by omega)]
    have hs2 := set_fill2 (digI (tb s) k) (List.replicate m 0) 48 49
    rw [digI_len] at hs2
    have htl := tb_lt s k
    by_cases hb1 : tb s k = 1
    · rw [hb1, show (((1 : Nat) : Int) == 1) = true from rfl, inb_true (by omega) (by simp [digI_len]; omega)]
      simp only [cond_true]
      rw [hs2]
      refine ih _ ⟨k + 1, by omega, ?_⟩ (by simp only; omega)
      rw [digI_succ, hb1, show 8 * L - (k + 1) = m by omega]; rfl
    · have hb0 : tb s k = 0 := by omega
      rw [hb0, show (((0 : Nat) : Int) == 1) = false from rfl]
      simp only [cond_false]
      refine ih _ ⟨k + 1, by omega, ?_⟩ (by simp only; omega)
      rw [digI_succ, hb0, show 8 * L - (k + 1) = m by omega]; rfl
  · obtain rfl : k = 8 * L := by omega
    rw [decide_eq_false (by omega), Nat.sub_self, List.replicate_zero, List.append_nil]
    simp only [cond_false]
    rw [strOf_digI]
/-! Bytes -/
theorem idx01 (c : UInt8) : Lib.indexByte ([48, 49] : Tx) c = if c = 48 then 0 else if c = 49 then 1 else -1 := by
  simp only [Lib.indexByte]
  by_cases h : c = 48
  · simp [h]
  · by_cases h2 : c = 49
    · simp [h2]
    · simp [h, h2, Ne.symm h, Ne.symm h2]
theorem onlyV (n : Nat) (f : Nat → Nat) (m : Nat) (hf : ∀ k, f k < 2) (hm : m ≤ 9000000) (hn : m + 100 < n) : F134 n (dig f m) ([48, 49] : Tx) = some true := by
  unfold F134
  refine loopF_eq (F134_l2 n (dig f m) ([48, 49] : Tx)) (fun _ => some true) (fun d => ∃ k : Nat, k ≤ m ∧ d = (k : Int)) (fun d => m - d.toNat) ?_ n 0 ⟨0, by omega, rfl⟩ (by simp; omega)
  rintro kk d ⟨k, hk, rfl⟩ ih
  simp only [F134_l2, dig_len, Int.toNat_natCast, F141]
  by_cases hkl : k < m
  · rw [decide_eq_true (by omega), inb_true (by omega) (by omega), dig_get f m k hkl (hf k)]
    simp only [cond_true, Option.bind_some, Int.toNat_natCast, idx01]
    have hfk := hf k
    have hc : ¬ (if Nat.toUInt8 (48 + f k) = 48 then (0 : Int) else if Nat.toUInt8 (48 + f k) = 49 then 1 else -1) < 0 := by
      have : f k = 0 ∨ f k = 1 := by omega
      rcases this with e | e <;> rw [e] <;> decide
    rw [decide_eq_false hc, w64 (n := (k : Int) + 1) (by omega) (by omega)]
    exact ih _ ⟨k + 1, by omega, rfl⟩ (by omega)
  · rw [decide_eq_false (by omega)]; rfl
def pack (f : Nat → Nat) (L : Nat) : Tx := (List.range L).map fun i => UInt8.ofNat (nm (fun k => f (8 * i + k)) 8)
def packI (f : Nat → Nat) (L : Nat) : List Int := (List.range L).map fun i => ((nm (fun k => f (8 * i + k)) 8 : Nat) : Int)
theorem packI_len (f : Nat → Nat) (m : Nat) : (packI f m).length = m := by simp [packI]
theorem packI_succ (f : Nat → Nat) (m : Nat) : packI f (m + 1) = packI f m ++ [((nm (fun k => f (8 * m + k)) 8 : Nat) : Int)] := by simp [packI, List.range_succ]
theorem strOf_packI (f : Nat → Nat) (m : Nat) : strOf (packI f m) = pack f m := by
  simp [strOf, packI, pack]
end Go.Proofs.YtekmnhplhoejdaaDoor.Bk
