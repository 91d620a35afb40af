import Derived.Test.YtbpjinefbnlenaaGreatDoorFtw
import Derived.Test.YtbpjinefbnlenaaGreatDoorAm26
import Derived.Test.YtbpjinefbnlenaaGreatDoorSTurns
import Derived.Test.YtbpjinefbnlenaaGreatDoorAm22
/- Bits of a text; texts of bits; in plain Lean. -/
namespace Go.Proofs.YtbpjinefbnlenaaGreatDoor.Bk
open Go Go.RowKit
set_option linter.unusedVariables false

abbrev Tx := List UInt8
/-- bit k of a text -/
def tb (s : Tx) (k : Nat) : Nat := (s.getD (k / 8) 0).toNat / 2 ^ (k % 8) % 2
theorem tb_lt (s : Tx) (k : Nat) : tb s k < 2 := Nat.mod_lt _ (by omega)
/-- bits as a number, the lowest first -/
def nm (f : Nat → Nat) : Nat → Nat
  | 0 => 0
  | j + 1 => nm f j + f j * 2 ^ j
theorem nm_lt (f : Nat → Nat) (h : ∀ k, f k < 2) : ∀ j, nm f j < 2 ^ j
  | 0 => by simp [nm]
  | j + 1 => by
    have h1 := nm_lt f h j
    have h2 := h j
    simp only [nm]
    have : f j * 2 ^ j ≤ 1 * 2 ^ j := Nat.mul_le_mul_right _ (by omega)
    rw [Nat.pow_succ]
    omega
theorem nm_congr {f g : Nat → Nat} : ∀ (j : Nat), (∀ k, k < j → f k = g k) → nm f j = nm g j
  | 0, _ => rfl
  | j + 1, h => by
    simp only [nm]
    rw [nm_congr j (fun k hk => h k (by omega)), h j (by omega)]
theorem byte_nm (x : Nat) (h : x < 256) : nm (fun k => x / 2 ^ k % 2) 8 = x := by
  simp only [nm]
  omega
theorem tdivN (a b : Nat) : ((a : Int)).tdiv (b : Int) = ((a / b : Nat) : Int) := by
  rw [Int.tdiv_eq_ediv_of_nonneg (by omega)]; simp
theorem tmodN (a b : Nat) : ((a : Int)).tmod (b : Int) = ((a % b : Nat) : Int) := by
  rw [Int.tmod_eq_emod_of_nonneg (by omega)]; simp
/-! a text of noughts and ones -/
def dig (f : Nat → Nat) (m : Nat) : Tx := (List.range m).map fun k => UInt8.ofNat (48 + f k)
theorem dig_len (f : Nat → Nat) (m : Nat) : (dig f m).length = m := by simp [dig]
theorem dig_get (f : Nat → Nat) (m k : Nat) (hk : k < m) (hf : f k < 2) : ((dig f m).getD k 0).toNat = 48 + f k := by
  simp [dig, List.getD_eq_getElem?_getD, hk]
  omega
def digI (f : Nat → Nat) (m : Nat) : List Int := (List.range m).map fun k => ((48 + f k : Nat) : Int)
theorem digI_len (f : Nat → Nat) (m : Nat) : (digI f m).length = m := by simp [digI]
theorem digI_succ (f : Nat → Nat) (m : Nat) : digI f (m + 1) = digI f m ++ [((48 + f m : Nat) : Int)] := by simp [digI, List.range_succ]
theorem strOf_digI (f : Nat → Nat) (m : Nat) : strOf (digI f m) = dig f m := by
  unfold strOf digI dig
  rw [List.map_map]
  apply List.map_congr_left
  intro k _
  rfl
/-! Bytes -/
def pack (f : Nat → Nat) (L : Nat) : Tx := (List.range L).map fun i => UInt8.ofNat (nm (fun k => f (8 * i + k)) 8)
def packI (f : Nat → Nat) (L : Nat) : List Int := (List.range L).map fun i => ((nm (fun k => f (8 * i + k)) 8 : Nat) : Int)
theorem strOf_packI (f : Nat → Nat) (m : Nat) : strOf (packI f m) = pack f m := by
  simp [strOf, packI, pack]
end Go.Proofs.YtbpjinefbnlenaaGreatDoor.Bk

/- Bits of bytes and bytes of bits, on both sides; in plain Lean. -/
namespace Go.Proofs.YtbpjinefbnlenaaGreatDoor
open Go Go.RowKit
set_option linter.unusedVariables false

theorem bv8 (x : Nat) (h : x < 256) : (BitVec.ofInt 8 (x : Int)).toNat = x := by
  rw [BitVec.toNat_ofInt]
  omega
theorem and8 (a : Nat) (ha : a < 256) : bitsI .and .u8 (a : Int) 1 = ((a % 2 : Nat) : Int) := by
  show IntKind.u8.wrap ((BitVec.ofInt 8 (a : Int) &&& BitVec.ofInt 8 ((1 : Nat) : Int)).toNat : Int) = _
  rw [BitVec.toNat_and, bv8 a ha, bv8 1 (by omega), Nat.and_one_is_mod, u8w]
  omega
theorem or8 (x y i : Nat) (hx : x < 2 ^ i) (h : x + y * 2 ^ i < 256) : bitsI .or .u8 (x : Int) ((y * 2 ^ i : Nat) : Int) = ((x + y * 2 ^ i : Nat) : Int) := by
  show IntKind.u8.wrap ((BitVec.ofInt 8 (x : Int) ||| BitVec.ofInt 8 ((y * 2 ^ i : Nat) : Int)).toNat : Int) = _
  rw [BitVec.toNat_or, bv8 x (by omega), bv8 (y * 2 ^ i) (by omega), nat_or_add x y i hx, u8w]
  omega
theorem bit8 (x : UInt8) (k : Nat) (hk : k < 8) : IntKind.wrap .u8 (48 + bitsI .and .u8 (shrI .u8 ((x.toNat : Nat) : Int) (IntKind.wrap .u64 (k : Int))) 1) = ((48 + x.toNat / 2 ^ k % 2 : Nat) : Int) := by
  have hx := UInt8.toNat_lt x
  have hd : x.toNat / 2 ^ k ≤ x.toNat := Nat.div_le_self _ _
  have e1 : IntKind.wrap .u64 (k : Int) = (k : Int) := by rw [u64w]; omega
  have e2 : ((x.toNat : Nat) : Int) / 2 ^ k = ((x.toNat / 2 ^ k : Nat) : Int) := by simp
  rw [e1, shr_div .u8 _ k (by show k ≤ 8; omega), e2, and8 _ (by omega), u8w]
  omega
/-! bits of bytes -/
theorem bitsP (n : Nat) (s : Tx) (hs : s.length ≤ 1048576) (hn : 8 * s.length + 100 < n) : F25 n s = some (Bk.dig (Bk.tb s) (8 * s.length)) := by
  obtain ⟨L, hL⟩ : ∃ L, s.length = L := ⟨_, rfl⟩
  rw [hL] at hs hn ⊢
  unfold F25
  refine loopF_eq (F25_l59 n s) (fun _ => some (Bk.dig (Bk.tb s) (8 * L))) (fun d => ∃ i : Nat, i ≤ L ∧ ∃ z, d = ((i : Int), z, Bk.digI (Bk.tb s) (8 * i))) (fun d => L - d.1.toNat) ?_ n (0, true, []) ⟨0, by omega, true, rfl⟩ (by simp; omega)
  rintro kk d ⟨i, hi, z, rfl⟩ ih
  simp only [F25_l59, hL]
  by_cases hil : i < L
  · rw [decide_eq_true (show (i : Int) < (L : Int) by omega)]
    simp only [cond_true]
    refine loopF_eq (F25_l68 n kk s (i : Int)) (fun _ => some (Bk.dig (Bk.tb s) (8 * L))) (fun d => ∃ k : Nat, k ≤ 8 ∧ ∃ z, d = ((k : Int), z, Bk.digI (Bk.tb s) (8 * i + k))) (fun d => 8 - d.1.toNat) ?_ n (0, z, _) ⟨0, by omega, z, rfl⟩ (by simp; omega)
    rintro k2 d ⟨k, hk, z2, rfl⟩ ih2
    simp only [F25_l68, F25_j72, hL, Int.toNat_natCast]
    by_cases hk8 : k < 8
    · have e1 : IntKind.wrap .u64 (k : Int) = (k : Int) := by rw [u64w]; omega
      have hb := bit8 (s.getD i 0) k hk8
      rw [decide_eq_true (show (k : Int) < 8 by omega), inb_true (by omega) (by omega), hb, e1, decide_eq_true (show 0 ≤ (k : Int) by omega), decide_eq_true (by rw [Bk.digI_len]; simp only [List.length_cons, List.length_nil]; omega), w64 (n := (k : Int) + 1) (by omega) (by omega)]
      simp only [cond_true]
      have et : Bk.tb s (8 * i + k) = (s.getD i 0).toNat / 2 ^ k % 2 := by
        unfold Bk.tb
        rw [show (8 * i + k) / 8 = i by omega, show (8 * i + k) % 8 = k by omega]
      have go : ∀ z, k2 ((k : Int) + 1, z, Bk.digI (Bk.tb s) (8 * i + k) ++ [((48 + (s.getD i 0).toNat / 2 ^ k % 2 : Nat) : Int)]) = some (Bk.dig (Bk.tb s) (8 * L)) := by
        intro z
        refine ih2 _ ⟨k + 1, by omega, z, ?_⟩ (by simp only; omega)
        rw [← et, ← Bk.digI_succ]; rfl
      rw [go, go]
      cases z2 <;> rfl
    · obtain rfl : k = 8 := by omega
      rw [decide_eq_false (by omega), w64 (n := (i : Int) + 1) (by omega) (by omega)]
      simp only [cond_false]
      exact ih _ ⟨i + 1, by omega, z2, by rw [show 8 * i + 8 = 8 * (i + 1) by omega]; rfl⟩ (by simp only; omega)
  · obtain rfl : i = L := by omega
    rw [decide_eq_false (by omega)]
    simp only [cond_false]
    rw [Bk.strOf_digI]
/-! bytes of bits -/
theorem dig_of (row : Tx) (h : onlyB row [48, 49] = true) : row = Bk.dig (fun k => (row.getD k 0).toNat - 48) row.length ∧ ∀ k, (row.getD k 0).toNat - 48 < 2 := by
  have hb : ∀ k, k < row.length → row.getD k 0 = 48 ∨ row.getD k 0 = 49 := by
    intro k hk
    have h1 := (List.all_eq_true.1 h) (row.getD k 0) (by rw [List.getD_eq_getElem?_getD, List.getElem?_eq_getElem hk]; exact List.getElem_mem hk)
    simpa using h1
  refine ⟨?_, fun k => ?_⟩
  · apply List.ext_getElem
    · rw [Bk.dig_len]
    · intro k h1 h2
      have e1 : row.getD k 0 = row[k] := by rw [List.getD_eq_getElem?_getD, List.getElem?_eq_getElem h1]; rfl
      have := hb k h1
      rw [e1] at this
      simp only [Bk.dig, List.getElem_map, List.getElem_range, e1]
      rcases this with h | h <;> rw [h] <;> rfl
  · by_cases hk : k < row.length
    · rcases hb k hk with h | h <;> rw [h] <;> decide
    · rw [List.getD_eq_getElem?_getD, List.getElem?_eq_none (by omega)]; decide
def stI (f : Nat → Nat) (L i : Nat) : List Int := (List.range L).map fun j => ((Bk.nm (fun k => f (8 * j + k)) (min 8 (i - 8 * j)) : Nat) : Int)
theorem stI_len (f : Nat → Nat) (L i : Nat) : (stI f L i).length = L := by simp [stI]
theorem stI_zero (f : Nat → Nat) (L : Nat) : stI f L 0 = List.replicate L 0 := by
  unfold stI
  rw [List.eq_replicate_iff]
  refine ⟨by simp, fun b hb => ?_⟩
  obtain ⟨j, _, rfl⟩ := List.mem_map.1 hb
  simp [Bk.nm]
theorem stI_get (f : Nat → Nat) (L i j : Nat) (hj : j < L) : (stI f L i).getD j 0 = ((Bk.nm (fun k => f (8 * j + k)) (min 8 (i - 8 * j)) : Nat) : Int) := by
  simp [stI, List.getD_eq_getElem?_getD, hj]
theorem stI_set (f : Nat → Nat) (L i : Nat) (hi : i < 8 * L) : (stI f L i).set (i / 8) ((Bk.nm (fun k => f (8 * (i / 8) + k)) (i % 8) + f i * 2 ^ (i % 8) : Nat) : Int) = stI f L (i + 1) := by
  apply List.ext_getElem
  · simp [stI]
  · intro j h1 h2
    rw [List.getElem_set]
    simp only [stI, List.getElem_map, List.getElem_range]
    split
    · rename_i e
      subst e
      rw [show min 8 (i + 1 - 8 * (i / 8)) = i % 8 + 1 by omega]
      simp only [Bk.nm]
      rw [show 8 * (i / 8) + i % 8 = i by omega]
    · rename_i e
      rw [show min 8 (i + 1 - 8 * j) = min 8 (i - 8 * j) by omega]
theorem stI_end (f : Nat → Nat) (L : Nat) : stI f L (8 * L) = Bk.packI f L := by
  unfold stI Bk.packI
  refine List.map_congr_left fun j hj => ?_
  have := List.mem_range.1 hj
  rw [show min 8 (8 * L - 8 * j) = 8 by omega]
theorem bytesP (n : Nat) (f : Nat → Nat) (L : Nat) (hf : ∀ k, f k < 2) (hL : L ≤ 1048576) (hn : 8 * L + 1000 < n) : loopF (F60_l2 n (Bk.dig f (8 * L))) n (0, List.replicate L 0) = some (Bk.pack f L, 0) := by
  rw [← stI_zero f L]
  refine loopF_eq (F60_l2 n (Bk.dig f (8 * L))) (fun _ => some (Bk.pack f L, 0)) (fun d => ∃ i : Nat, i ≤ 8 * L ∧ d = ((i : Int), stI f L i)) (fun d => 8 * L - d.1.toNat) ?_ n _ ⟨0, by omega, rfl⟩ (by simp; omega)
  rintro kk d ⟨i, hi, rfl⟩ ih
  simp only [F60_l2, Bk.dig_len, Int.toNat_natCast]
  by_cases hil : i < 8 * L
  · have e1 : IntKind.wrap .i64 ((i : Int).tdiv 8) = ((i / 8 : Nat) : Int) := by
      rw [show (8 : Int) = ((8 : Nat) : Int) from rfl, Bk.tdivN, w64 (by omega) (by omega)]
    have e2 : (i : Int).tmod 8 = ((i % 8 : Nat) : Int) := by rw [show (8 : Int) = ((8 : Nat) : Int) from rfl, Bk.tmodN]
    have e3 : IntKind.wrap .u64 ((i % 8 : Nat) : Int) = ((i % 8 : Nat) : Int) := by rw [u64w]; omega
    have hfi := hf i
    have hi7 : i % 8 ≤ 7 := by omega
    have hp : (2 : Nat) ^ (i % 8) ≤ 2 ^ 7 := Nat.pow_le_pow_right (by omega) hi7
    have e4 : IntKind.wrap .u8 (((((Bk.dig f (8 * L)).getD i 0).toNat : Nat) : Int) - 48) = ((f i : Nat) : Int) := by
      rw [Bk.dig_get f _ _ hil hfi, u8w]; omega
    have hm2 : f i * 2 ^ (i % 8) ≤ 1 * 2 ^ (i % 8) := Nat.mul_le_mul_right _ (by omega)
    have e5 : shlI .u8 ((f i : Nat) : Int) ((i % 8 : Nat) : Int) = ((f i * 2 ^ (i % 8) : Nat) : Int) := by
      unfold shlI
      rw [Int.toNat_natCast, Nat.min_eq_left (by show i % 8 ≤ 8; omega)]
      have e : ((f i : Nat) : Int) * 2 ^ (i % 8) = ((f i * 2 ^ (i % 8) : Nat) : Int) := by simp
      rw [e, u8w]
      omega
    have hnm := Bk.nm_lt (fun k => f (8 * (i / 8) + k)) (fun _ => hf _) (i % 8)
    rw [decide_eq_true (show (i : Int) < ((8 * L : Nat) : Int) by omega), e1, e2, e3, e4, e5, stI_len, inb_true (by omega) (by omega), inb_true (by omega) (by omega), decide_eq_true (show 0 ≤ ((i % 8 : Nat) : Int) by omega), w64 (n := (i : Int) + 1) (by omega) (by omega)]
    simp only [cond_true, Int.toNat_natCast]
    rw [stI_get f L i (i / 8) (by omega), show min 8 (i - 8 * (i / 8)) = i % 8 by omega, or8 _ _ _ hnm (by omega), stI_set f L i hil]
    exact ih _ ⟨i + 1, by omega, rfl⟩ (by simp only; omega)
  · obtain rfl : i = 8 * L := by omega
    rw [decide_eq_false (by omega)]
    simp only [cond_false]
    rw [stI_end, Bk.strOf_packI]
def byV (row : Tx) : Tx × Int := if onlyB row [48, 49] = false then ([], 1) else if row.length % 8 ≠ 0 then ([], 4) else (Bk.pack (fun k => (row.getD k 0).toNat - 48) (row.length / 8), 0)
theorem len8 (L : Nat) (h : L ≤ 1048576) : IntKind.wrap .i64 (((L : Nat) : Int).tdiv 8) = ((L / 8 : Nat) : Int) ∧ (((L : Nat) : Int).tmod 8 != 0) = decide (L % 8 ≠ 0) := by
  refine ⟨by rw [show (8 : Int) = ((8 : Nat) : Int) from rfl, Bk.tdivN, w64 (by omega) (by omega)], ?_⟩
  rw [show (8 : Int) = ((8 : Nat) : Int) from rfl, Bk.tmodN]
  by_cases h : L % 8 = 0
  · rw [h]; rfl
  · rw [decide_eq_true h]
    exact bne_iff_ne.2 (by omega)
theorem bytesPV (n : Nat) (hn : 140737488355338 < n) (row : Tx) (hs : row.length ≤ 1048576) : F60 n row = some (byV row) := by
  obtain ⟨e1, e2⟩ := len8 row.length hs
  unfold F60 byV
  rw [isP n row _ (by omega) (by decide) (by decide)]
  simp only [Option.bind_some]
  cases ho : onlyB row [48, 49] with
  | false => rfl
  | true =>
    obtain ⟨h1, h2⟩ := dig_of row ho
    simp only [Bool.not_true, cond_false, e1, e2]
    by_cases h8 : row.length % 8 = 0
    · have hb := bytesP n (fun k => (row.getD k 0).toNat - 48) (row.length / 8) h2 (by omega) (by omega)
      rw [show 8 * (row.length / 8) = row.length by omega, ← h1] at hb
      rw [decide_eq_false (by omega), decide_eq_true (by omega), Int.toNat_natCast, hb]
      simp [h8]
    · rw [decide_eq_true h8]; simp [h8]
end Go.Proofs.YtbpjinefbnlenaaGreatDoor
