import Derived.Test.YtbpjinefbnlenaaGreatDoorSWireA
import Derived.Test.YtbpjinefbnlenaaGreatDoorSPiecesB
/- Data packets, written and read; what is sent and heard by the program: in plain Lean (for TopWire). -/
namespace Go.Proofs.YtbpjinefbnlenaaGreatDoor
open Go Go.RowKit
open Bk
set_option linter.unusedVariables false
set_option maxRecDepth 100000

theorem u16w (x : Int) : IntKind.wrap .u16 x = x % 65536 := by
  have e : IntKind.wrap .u16 x = if IntKind.u16.signed = true ∧ x % 65536 ≥ 32768 then x % 65536 - 65536 else x % 65536 := by simp [IntKind.wrap, IntKind.bits, IntKind.signed]
  rw [e, if_neg (by simp [IntKind.signed])]
theorem xor16 (a b : Int) : 0 ≤ bitsI .xor .u16 a b ∧ bitsI .xor .u16 a b < 65536 := by
  show 0 ≤ IntKind.wrap .u16 _ ∧ IntKind.wrap .u16 _ < 65536
  rw [u16w]; omega
theorem feedT (n : Nat) (hn : 20 < n) (r v : Int) (h : 0 ≤ r ∧ r < 65536) : ∃ c, F90 n r 40961 v 8 = some c ∧ 0 ≤ c ∧ c < 65536 := by
  unfold F90
  refine loopF_post (F90_l2 n 40961 v 8) (fun d => (0 ≤ d.1 ∧ d.1 < 65536) ∧ ∃ k : Nat, d.2 = (k : Int) ∧ k ≤ 8) (fun _ c => 0 ≤ c ∧ c < 65536) (fun d => 8 - d.2.toNat) ?_ n (r, 0) ⟨h, 0, rfl, by omega⟩ (by simp; omega)
  rintro kk ⟨r, _⟩ ⟨hr, k, rfl, hk⟩ ih
  simp only at hr
  simp only [F90_l2]
  by_cases hk8 : k < 8
  · have hs : shrI .u16 r 1 = r / 2 := shr_div .u16 r 1 (by decide)
    have e8 : IntKind.wrap .u64 (k : Int) = (k : Int) := by rw [u64w]; omega
    rw [decide_eq_true (show (k : Int) < 8 by omega), e8, decide_eq_true (show (0 : Int) ≤ (k : Int) by omega), w64 (n := (k : Int) + 1) (by omega) (by omega), hs]
    simp only [cond_true]
    have hx := xor16 (r / 2) 40961
    cases (bitsI .and .u16 r 1 != bitsI .and .u16 (shrI .u16 v (k : Int)) 1) with
    | true => exact ih _ ⟨hx, k + 1, by simp, by omega⟩ (by simp only [Int.toNat_natCast]; omega)
    | false => exact ih _ ⟨by simp only; omega, k + 1, by simp, by omega⟩ (by simp only [Int.toNat_natCast]; omega)
  · rw [decide_eq_false (by omega)]
    exact ⟨r, rfl, hr⟩
theorem sixT (n : Nat) (hn : 5000 < n) (s : Tx) (hs : s.length ≤ 64) : ∃ c : Nat, c < 65536 ∧ F23 n s = some (c : Int) := by
  have main : ∃ c, F46 n 0 s = some c ∧ 0 ≤ c ∧ c < 65536 := by
    unfold F46
    refine loopF_post (F46_l2 n s) (fun d => (0 ≤ d.1 ∧ d.1 < 65536) ∧ ∃ k : Nat, d.2 = (k : Int) ∧ k ≤ s.length) (fun _ c => 0 ≤ c ∧ c < 65536) (fun d => s.length - d.2.toNat) ?_ n _ ⟨xor16 _ _, 0, rfl, by omega⟩ (by simp; omega)
    rintro kk ⟨r, _⟩ ⟨hr, k, rfl, hk⟩ ih
    simp only at hr
    simp only [F46_l2]
    by_cases hkl : k < s.length
    · rw [decide_eq_true (show (k : Int) < ((s.length : Nat) : Int) by omega), inb_true (by omega) (by omega), w64 (n := (k : Int) + 1) (by omega) (by omega)]
      simp only [cond_true]
      obtain ⟨c, hc, hr2⟩ := feedT n (by omega) r (IntKind.wrap .u16 ((((s.getD (k : Int).toNat 0).toNat : Nat) : Int))) hr
      rw [hc, Option.bind_some]
      exact ih _ ⟨hr2, k + 1, by simp, by omega⟩ (by simp only [Int.toNat_natCast]; omega)
    · rw [decide_eq_false (by omega)]
      exact ⟨_, rfl, xor16 _ _⟩
  obtain ⟨c, hc, h0, h1⟩ := main
  refine ⟨c.toNat, by omega, ?_⟩
  unfold F23
  rw [hc, Option.bind_some, Int.toNat_of_nonneg h0]
theorem ofN (x : Nat) : UInt8.ofNat (IntKind.wrap .u8 (x : Int)).toNat = UInt8.ofNat x := by
  have e : IntKind.wrap .u8 (x : Int) = ((x % 256 : Nat) : Int) := by rw [u8w]; omega
  rw [e, Int.toNat_natCast]
  apply UInt8.toNat_inj.1
  simp
theorem wordV (n c : Nat) : F22 n (c : Int) = some [UInt8.ofNat c, UInt8.ofNat (c / 256)] := by
  have e : shrI .u16 (c : Int) 8 = ((c / 256 : Nat) : Int) := by
    have := shr_div .u16 (c : Int) 8 (by decide)
    rw [show ((8 : Nat) : Int) = 8 from rfl] at this
    rw [this]; omega
  unfold F22
  rw [e]
  simp only [strOf, List.map_cons, List.map_nil, ofN]
/-- a data packet's bytes -/
def pktV (k : Int) (d : Tx) (c : Nat) : Tx := (if k = 3 then 195 else 75) :: (d ++ [UInt8.ofNat c, UInt8.ofNat (c / 256)])
theorem chkW (n : Nat) (k : Int) (hk : k = 3 ∨ k = 11) (d : Tx) (hd : d.length ≤ 64) : F18 n k 0 0 0 d = some 0 := by
  have e : F18 n k 0 0 0 d = (bif (!(d == ([] : Tx))) then (bif decide (((d.length : Nat) : Int) > 64) then some 2 else some 0) else (bif decide (((d.length : Nat) : Int) > 64) then some 2 else some 0)) := by
    rcases hk with rfl | rfl <;> rfl
  rw [e, decide_eq_false (show ¬ ((d.length : Nat) : Int) > 64 by omega)]
  cases (d == ([] : Tx)) <;> rfl
theorem pktW (n : Nat) (k : Int) (hk : k = 3 ∨ k = 11) (d : Tx) (hd : d.length ≤ 64) (c : Nat) (hc : F23 n d = some (c : Int)) : F6 n k 0 0 0 d = some (pktV k d c, 0) := by
  have key : ∀ (k : Int) (hb : UInt8) , k = 3 ∨ k = 11 → strOf [IntKind.wrap .u8 (bitsI .or .i64 k (shlI .i64 (bitsI .xor .i64 k 15) 4))] = [hb] → F19 n k = some false → (k == 5) = false → F21 n k = some true → F6 n k 0 0 0 d = some (hb :: (d ++ [UInt8.ofNat c, UInt8.ofNat (c / 256)]), 0) := by
    intro k hb hk h1 h2 h3 h4
    unfold F6
    rw [chkW n k hk d hd, h1, h2, h3, h4, hc]
    simp only [Option.bind_some, bne_self_eq_false, cond_false, cond_true, wordV]
    rw [decide_eq_true (show ([hb] : Tx).length + d.length ≤ 9223372036854775807 by simp; omega), decide_eq_true (show (([hb] : Tx) ++ d).length + ([UInt8.ofNat c, UInt8.ofNat (c / 256)] : Tx).length ≤ 9223372036854775807 by simp; omega)]
    simp
  rcases hk with rfl | rfl
  · exact key 3 195 (.inl rfl) (by decide +kernel) rfl rfl rfl
  · exact key 11 75 (.inr rfl) (by decide +kernel) rfl rfl rfl
theorem or16 (a b : Nat) (ha : a < 65536) (hb : b < 65536) : bitsI .or .u16 (a : Int) (b : Int) = ((a ||| b : Nat) : Int) := by
  have hx : a ||| b < 2 ^ 16 := Nat.or_lt_two_pow (by omega) (by omega)
  have bv : ∀ x : Nat, x < 65536 → (BitVec.ofInt 16 (x : Int)).toNat = x := fun x h => by rw [BitVec.toNat_ofInt]; omega
  show IntKind.u16.wrap ((BitVec.ofInt 16 (a : Int) ||| BitVec.ofInt 16 (b : Int)).toNat : Int) = _
  rw [BitVec.toNat_or, bv a ha, bv b hb, u16w]; omega
theorem two16 (c : Nat) (hc : c < 65536) : bitsI .or .u16 (IntKind.wrap .u16 (((UInt8.ofNat c).toNat : Nat) : Int)) (shlI .u16 (IntKind.wrap .u16 (((UInt8.ofNat (c / 256)).toNat : Nat) : Int)) 8) = (c : Int) := by
  have e1 : (UInt8.ofNat c).toNat = c % 256 := by simp
  have e2 : (UInt8.ofNat (c / 256)).toNat = c / 256 := by simp; omega
  have e3 : shlI .u16 ((c / 256 : Nat) : Int) 8 = ((c / 256 * 256 : Nat) : Int) := by
    show IntKind.u16.wrap (((c / 256 : Nat) : Int) * 2 ^ 8) = _
    rw [u16w]; omega
  rw [e1, e2, u16w, show ((c % 256 : Nat) : Int) % 65536 = ((c % 256 : Nat) : Int) by omega, u16w, show ((c / 256 : Nat) : Int) % 65536 = ((c / 256 : Nat) : Int) by omega, e3, or16 _ _ (by omega) (by omega)]
  have h := Nat.shiftLeft_add_eq_or_of_lt (i := 8) (b := c % 256) (by omega) (c / 256)
  rw [Nat.shiftLeft_eq] at h
  rw [Nat.or_comm, ← h]; omega
theorem pktR (n : Nat) (k : Int) (hk : k = 3 ∨ k = 11) (d : Tx) (hd : d.length ≤ 64) (c : Nat) (hc : F23 n d = some (c : Int)) (hc2 : c < 65536) : F12 n (pktV k d c) = some (k, 0, 0, 0, d, 0) := by
  have hl : (d ++ [UInt8.ofNat c, UInt8.ofNat (c / 256)]).length = d.length + 2 := by simp
  have key : ∀ (k : Int) (hb : UInt8), k = 3 ∨ k = 11 → IntKind.wrap .i64 (bitsI .and .u8 ((hb.toNat : Nat) : Int) 15) = k → F12 n (hb :: (d ++ [UInt8.ofNat c, UInt8.ofNat (c / 256)])) = (bif inb 0 ((hb :: (d ++ [UInt8.ofNat c, UInt8.ofNat (c / 256)])).length) then (bif subB ((hb :: (d ++ [UInt8.ofNat c, UInt8.ofNat (c / 256)])).length) (some 1) none then F12_j2 n (hb :: (d ++ [UInt8.ofNat c, UInt8.ofNat (c / 256)])) (2, 66) else none) else none) →
      F12 n (hb :: (d ++ [UInt8.ofNat c, UInt8.ofNat (c / 256)])) = some (k, 0, 0, 0, d, 0) := by
    intro k hb hk h1 h2
    rw [h2, inb_true (by omega) (by simp only [List.length_cons]; omega), show subB ((hb :: (d ++ [UInt8.ofNat c, UInt8.ofNat (c / 256)])).length) (some 1) none = true by simp [subB]; omega]
    simp only [cond_true]
    unfold F12_j2
    simp only []
    rw [show (hb :: (d ++ [UInt8.ofNat c, UInt8.ofNat (c / 256)])).drop 1 = d ++ [UInt8.ofNat c, UInt8.ofNat (c / 256)] from rfl, show (hb :: (d ++ [UInt8.ofNat c, UInt8.ofNat (c / 256)])).getD 0 0 = hb from rfl, h1, hl]
    have w1 : IntKind.wrap .i64 (((d.length + 2 : Nat) : Int) - 2) = ((d.length : Nat) : Int) := by rw [w64 (by omega) (by omega)]; omega
    have w2 : IntKind.wrap .i64 (((d.length : Nat) : Int) + 1) = ((d.length + 1 : Nat) : Int) := by rw [w64 (by omega) (by omega)]; omega
    rw [w1, w2, Int.toNat_natCast, Int.toNat_natCast]
    rw [decide_eq_false (show ¬ ((d.length + 2 : Nat) : Int) < 2 by omega), decide_eq_false (show ¬ ((d.length + 2 : Nat) : Int) > 66 by omega), inb_true (show (0 : Int) ≤ ((d.length : Nat) : Int) by omega) (by omega), inb_true (show (0 : Int) ≤ ((d.length + 1 : Nat) : Int) by omega) (by omega)]
    have hdat : F21 n k = some true := by rcases hk with rfl | rfl <;> rfl
    have g1 : (d ++ [UInt8.ofNat c, UInt8.ofNat (c / 256)]).getD d.length 0 = UInt8.ofNat c := by simp [List.getD_eq_getElem?_getD]
    have g2 : (d ++ [UInt8.ofNat c, UInt8.ofNat (c / 256)]).getD (d.length + 1) 0 = UInt8.ofNat (c / 256) := by simp [List.getD_eq_getElem?_getD]
    have g3 : (d ++ [UInt8.ofNat c, UInt8.ofNat (c / 256)]).take d.length = d := by simp
    rw [hdat, g1, g2, g3, two16 c hc2, hc, show subB (d.length + 2) none (some ((d.length : Nat) : Int)) = true by simp [subB]; omega]
    simp only [cond_true, cond_false, Option.bind_some, bne_self_eq_false]
    rfl
  unfold pktV
  rcases hk with rfl | rfl
  · exact key 3 195 (.inl rfl) (by decide +kernel) (by kernel_rfl)
  · exact key 11 75 (.inr rfl) (by decide +kernel) (by kernel_rfl)
/-- the kind of packet number i -/
def kdI (i : Nat) : Int := if i % 2 = 0 then 3 else 11
theorem kdI_two (i : Nat) : kdI i = 3 ∨ kdI i = 11 := by
  unfold kdI
  split
  · exact .inl rfl
  · exact .inr rfl
theorem kdE (i : Nat) : bitsI .or .i64 3 (shlI .i64 ((i : Int).tmod 2) 3) = kdI i := by
  have e : (i : Int).tmod 2 = ((i % 2 : Nat) : Int) := by rw [Int.tmod_eq_emod_of_nonneg (by omega)]; omega
  rw [e]
  unfold kdI
  rcases Nat.mod_two_eq_zero_or_one i with h | h
  · rw [h, if_pos rfl]; decide +kernel
  · rw [h, if_neg (by omega)]; decide +kernel
/-- what is sent -/
theorem sendV (n : Nat) (hn : 140737488355338 < n) (s : Tx) (h1 : s ≠ []) (h2 : s.length ≤ 80) : F7 n s = some (sendL s ++ [48, 48, 74], 0) := by
  unfold F7
  have hb := row_bits s
  have hb2 := st_bits _ 0 hb
  have hlen : (pat8 ++ dig (tb s) (8 * s.length)).length = 8 + 8 * s.length := by rw [List.length_append, dig_len]; rfl
  have hst := stF_len (pat8 ++ dig (tb s) (8 * s.length)) 0
  rw [show (s == ([] : Tx)) = false from beq_eq_false_iff_ne.2 h1, decide_eq_false (show ¬ ((s.length : Nat) : Int) > 80 by omega), bitsP n s (by omega) (by omega)]
  simp only [cond_false, Option.bind_some]
  rw [decide_eq_true (show ([48, 48, 48, 48, 48, 48, 48, 49] : Tx).length + (dig (tb s) (8 * s.length)).length ≤ 9223372036854775807 by rw [dig_len]; simp only [List.length_cons, List.length_nil]; omega)]
  simp only [cond_true]
  have e1 : stV (([48, 48, 48, 48, 48, 48, 48, 49] : Tx) ++ dig (tb s) (8 * s.length)) = (stF 0 (pat8 ++ dig (tb s) (8 * s.length)), 0) := by
    unfold stV
    rw [if_neg (by rw [bits_only hb]; decide)]
  rw [stuffPV n hn _ (by rw [hlen]; omega), e1, Option.bind_some]
  have e2 : turnV (stF 0 (pat8 ++ dig (tb s) (8 * s.length))) 74 = (sendL s, 0) := by
    unfold turnV
    rw [if_neg (by rw [bits_only hb2]; simp)]
    rfl
  have hsl := send_len s h2
  rw [turnPV n hn _ 74 (by simp only; omega)]
  simp only [e2, Option.bind_some]
  rw [decide_eq_true (show (sendL s).length + ([48, 48, 74] : Tx).length ≤ 9223372036854775807 by simp only [List.length_cons, List.length_nil]; omega)]
  rfl
def jk0 (x : UInt8) : Prop := x = 74 ∨ x = 75 ∨ x = 48
theorem trimN (n : Nat) (s : Tx) (hs : s.length ≤ 1048576) (h : ∀ x ∈ s, jk0 x) : F28 n s ([74, 75, 48] : Tx) = some (Lib.trimS s [74, 75, 48]) ∧ (Lib.trimS s [74, 75, 48] == []) = true := by
  refine ⟨?_, ?_⟩
  · unfold F28
    rw [decide_eq_true (show s.length ≤ 9223372036854775807 ∧ ([74, 75, 48] : Tx).length < 4294967281 ∧ (([74, 75, 48] : Tx).all fun b => decide (b.toNat < 128)) = true from ⟨by omega, by decide, by decide⟩)]
    rfl
  · rw [trim_only]
    refine List.all_eq_true.2 fun x hx => ?_
    rcases h x hx with rfl | rfl | rfl <;> rfl
theorem hearF (n : Nat) (hn : 140737488355338 < n) (r0 lv : Tx) (h1 : ∀ x ∈ r0, jk0 x) (h2 : ∀ x ∈ lv, jk0 x) (hl : lv.length ≤ 1048576) (hr : r0.length ≤ 1048576) : F10 n r0 lv = some ((hearV r0 lv []).1, 0, (hearV r0 lv []).2) := by
  unfold F10
  obtain ⟨a1, a2⟩ := trimN n lv hl h2
  obtain ⟨b1, b2⟩ := trimN n r0 hr h1
  rw [a1, Option.bind_some, a2, b1, Option.bind_some, b2, decide_eq_true (show r0.length ≤ 140737488355328 by omega)]
  simp only [Bool.not_true, cond_false, cond_true]
  exact hearPV n hn lv r0 hl hr
end Go.Proofs.YtbpjinefbnlenaaGreatDoor

/- TopWire in plain Lean: the law. -/
namespace Go.Proofs.YtbpjinefbnlenaaGreatDoor
open Go Go.RowKit
open Bk
set_option linter.unusedVariables false
set_option maxRecDepth 100000

theorem strOf_by (s : Tx) : strOf (byI s) = s := by simp [strOf, byI, List.map_map, Function.comp_def]
theorem byI_len (s : Tx) : (byI s).length = s.length := by simp [byI]
theorem byI_app (a b : Tx) : byI (a ++ b) = byI a ++ byI b := by simp [byI]
section
variable (n : Nat) (L : List Tx)
/-- the checksum of a piece -/
def cOf (d : Tx) : Nat := ((F23 n d).getD 0).toNat
theorem cOf_ok (hn : 5000 < n) (d : Tx) (hd : d.length ≤ 64) : F23 n d = some (cOf n d : Int) ∧ cOf n d < 65536 := by
  obtain ⟨c, h1, h2⟩ := sixT n hn d hd
  unfold cOf
  rw [h2]
  exact ⟨by simp, by simpa using h1⟩
/-- the bytes of packet number i -/
def pkI (i : Nat) : Tx := pktV (kdI i) (L.getD i []) (cOf n (L.getD i []))
def pkts (m : Nat) : List Tx := (List.range m).map (pkI n L)
def wireT (m : Nat) : Tx := (pkts n L m).flatMap fun s => sendL s ++ [48, 48, 74]
theorem wire_succ (m : Nat) : wireT n L (m + 1) = wireT n L m ++ (sendL (pkI n L m) ++ [48, 48, 74]) := by
  simp [wireT, pkts, List.range_succ]
theorem pkI_len (i : Nat) (h : (L.getD i []).length ≤ 64) : pkI n L i ≠ [] ∧ (pkI n L i).length ≤ 80 := by
  unfold pkI pktV
  refine ⟨by simp, ?_⟩
  simp only [List.length_cons, List.length_append, List.length_nil]; omega
theorem wire_len (h : ∀ i, i < L.length → (L.getD i []).length ≤ 64) : ∀ m, m ≤ L.length → (wireT n L m).length ≤ 1000 * m
  | 0, _ => by simp [wireT, pkts]
  | m + 1, hm => by
    have h1 := wire_len h m (by omega)
    have h2 := send_len (pkI n L m) (pkI_len n L m (h m (by omega))).2
    rw [wire_succ, List.length_append, List.length_append]
    simp only [List.length_cons, List.length_nil]; omega
theorem wire_jk : ∀ m, ∀ x ∈ wireT n L m, jk0 x := fun m x hx => by
  obtain ⟨s, _, hs⟩ := List.mem_flatMap.1 hx
  rcases List.mem_append.1 hs with h | h
  · rcases lvT_jk _ x h with h | h
    · exact .inl h
    · exact .inr (.inl h)
  · simp only [List.mem_cons, List.not_mem_nil, or_false] at h
    rcases h with rfl | rfl | rfl
    · exact .inr (.inr rfl)
    · exact .inr (.inr rfl)
    · exact .inl rfl
/-- both halves of the wire -/
theorem hear_cut (hn : 140737488355338 < n) (h : ∀ i, i < L.length → (L.getD i []).length ≤ 64) (hL : L.length ≤ 200) (k : Nat) :
    ∃ (r1 : Tx) (o1 o2 : HOut), F10 n [] ((wireT n L L.length).take k) = some (r1, 0, o1) ∧ F10 n r1 ((wireT n L L.length).drop k) = some ([], 0, o2) ∧ o1 ++ o2 = (pkts n L L.length).map fun s => (s, (0 : Int)) := by
  have hwl := wire_len n L h L.length (by omega)
  have hjk := wire_jk n L L.length
  have hall := hear_all (pkts n L L.length) [] (fun s hs => by
    obtain ⟨i, hi, rfl⟩ := List.mem_map.1 hs
    exact pkI_len n L i (h i (by simpa using hi)))
  rw [List.nil_append] at hall
  have hall' : hearV [] (wireT n L L.length) [] = ([], (pkts n L L.length).map fun s => (s, (0 : Int))) := hall
  generalize wireT n L L.length = W at *
  have htk : ∀ x ∈ W.take k, jk0 x := fun x hx => hjk x (List.mem_of_mem_take hx)
  have hdk : ∀ x ∈ W.drop k, jk0 x := fun x hx => hjk x (List.mem_of_mem_drop hx)
  have hm := hear_mem jk0 (W.take k) [] [] htk (fun x hx => by cases hx)
  have hrl := hear_rest_le (W.take k) [] []
  have happ := hear_app (W.take k) [] (W.drop k) []
  rw [List.take_append_drop, hall', hear_out] at happ
  simp only [Prod.mk.injEq] at happ
  have htl : (W.take k).length ≤ W.length := by simp; omega
  have hdl : (W.drop k).length ≤ W.length := by simp
  refine ⟨(hearV [] (W.take k) []).1, (hearV [] (W.take k) []).2, (hearV (hearV [] (W.take k) []).1 (W.drop k) []).2, ?_, ?_, happ.2.symm⟩
  · exact hearF n hn [] (W.take k) (fun x hx => by cases hx) htk (by omega) (by simp)
  · rw [hearF n hn _ (W.drop k) hm hdk (by omega) (by simp only [List.length_nil] at hrl; omega), ← happ.1]
theorem cloneF (o : HOut) (h : o.length ≤ 1000000) : F11 n o = some o := by
  unfold F11
  rw [decide_eq_true (by simp; omega)]
  simp
variable (text : Tx) (size : Nat)
theorem joinF (hn : 140737488355338 < n) (h1 : 1 ≤ size) (h2 : size ≤ 64) (ht : text.length ≤ 4096) : F13 n (Ca.ps size text) (size : Int) = some (text, 0) := by
  have hg := Ca.good_ps h1 text.length text (Nat.le_refl _)
  have hl := Ca.ps_len h1 text.length text (Nat.le_refl _)
  have htot : Ca.tot (Ca.ps size text) = text.length := by rw [← Ca.flat_len, hg.2]
  have hd : text.length / size ≤ text.length := Nat.div_le_self _ _
  rw [Ca.t62 n (by omega) (Ca.ps size text) size h1 h2 (by omega) (by omega)]
  unfold Ca.joinR
  rw [if_neg (by omega), if_pos hg.1, hg.2]
theorem piece_len (h1 : 1 ≤ size) (h2 : size ≤ 64) : ∀ i, i < (Ca.ps size text).length → ((Ca.ps size text).getD i []).length ≤ 64 := fun i hi => by
  have hg := ((Ca.good_all size _).1 (Ca.good_ps h1 text.length text (Nat.le_refl _)).1).2 i hi
  by_cases h : i + 1 < (Ca.ps size text).length
  · have := hg.1 h; omega
  · have := hg.2 (by omega); omega
/-- what is read behind the ear -/
theorem tail (F : (Int × List Tx → Option Bool) → Int × List Tx → Option Bool) (hn : 140737488355338 < n) (h1 : 1 ≤ size) (h2 : size ≤ 64) (ht : text.length ≤ 4096) (hL : (Ca.ps size text).length ≤ 200) (o : HOut)
    (ho : o = (pkts n (Ca.ps size text) (Ca.ps size text).length).map fun s => (s, (0 : Int)))
    (hF : ∀ kk (x : Int) (m : List Tx), F kk (x, m) = (bif (decide (x < ((o.length : Nat) : Int))) then (bif inb x o.length then ((F12 n ((o.getD x.toNat (([] : List UInt8), (0 : Int))).1)).bind fun y => (bif ((o.getD x.toNat (([] : List UInt8), (0 : Int))).2 != (0 : Int)) then (some false) else (bif (y.2.2.2.2.2 != (0 : Int)) then (some false) else (bif (y.1 != (bitsI .or .i64 (3 : Int) (shlI .i64 (x.tmod (2 : Int)) (3 : Int)))) then (some false) else (bif (decide (m.length + [y.2.2.2.2.1].length ≤ 8796093022208)) then (kk ((IntKind.wrap .i64 (x + (1 : Int))), (m ++ [y.2.2.2.2.1]))) else none))))) else none) else ((F13 n m (size : Int)).bind fun y => (bif (y.2 == (0 : Int)) then (bif (y.1 == text) then (some true) else (some false)) else (some false))))) :
    loopF F n (0, []) = some true := by
  have hpl := piece_len text size h1 h2
  have hjoin := joinF n text size hn h1 h2 ht
  generalize Ca.ps size text = L at *
  have hol : o.length = L.length := by rw [ho]; simp [pkts]
  refine loopF_eq F (fun _ => some true) (fun d => ∃ i : Nat, d = ((i : Int), L.take i) ∧ i ≤ L.length) (fun d => L.length - d.1.toNat) ?_ n (0, []) ⟨0, by simp, by omega⟩ (by simp; omega)
  rintro kk d ⟨i, rfl, hi⟩ ih
  rw [hF, hol, Int.toNat_natCast, kdE]
  by_cases hil : i < L.length
  · have hget : o.getD i (([] : List UInt8), (0 : Int)) = (pkI n L i, 0) := by
      rw [ho, List.getD_eq_getElem?_getD]
      simp [pkts, hil]
    have hp := hpl i hil
    obtain ⟨c1, c2⟩ := cOf_ok n (by omega) (L.getD i []) hp
    have hrd : F12 n (pkI n L i) = some (kdI i, 0, 0, 0, L.getD i [], 0) := pktR n (kdI i) (kdI_two i) _ hp _ c1 c2
    rw [decide_eq_true (show (i : Int) < ((L.length : Nat) : Int) by omega), inb_true (by omega) (by omega), hget]
    simp only [cond_true]
    rw [hrd, Option.bind_some, w64 (n := (i : Int) + 1) (by omega) (by omega)]
    simp only [bne_self_eq_false, cond_false]
    rw [decide_eq_true (show (L.take i).length + [L.getD i []].length ≤ 8796093022208 by simp; omega)]
    simp only [cond_true]
    refine ih _ ⟨i + 1, ?_, by omega⟩ (by simp only; omega)
    rw [List.take_add_one, List.getD_eq_getElem?_getD, List.getElem?_eq_getElem hil]
    simp
  · obtain rfl : i = L.length := by omega
    rw [decide_eq_false (by omega), List.take_length, hjoin]
    simp
end
theorem beq_ear : Sh.beq (.st .str) ([] : Tx) ([] : List UInt8) = true := rfl
set_option maxHeartbeats 4000000 in
theorem topWireN (n : Nat) (hn : 140737488355338 < n) (text : Tx) (size cut : Int) : F3 n text size cut = some true := by
  have hj20 : ∀ y, F3_j20 n text size cut y true = some true := fun y => rfl
  unfold F3
  have hlives : F5 n = some true := rfl
  by_cases hs : size < 1
  · have : F4 n text size = some (1, []) := by unfold F4; rw [decide_eq_true hs]; rfl
    rw [this, hlives]; exact hj20 (1, [])
  by_cases hs2 : size > 64
  · have : F4 n text size = some (1, []) := by unfold F4; rw [decide_eq_false hs, decide_eq_true hs2]; rfl
    rw [this, hlives]; exact hj20 (1, [])
  by_cases ht : ((text.length : Nat) : Int) > 4096
  · have : F4 n text size = some (2, []) := by unfold F4; rw [decide_eq_false hs, decide_eq_false hs2, decide_eq_true ht]; rfl
    rw [this, hlives]; exact hj20 (2, [])
  obtain ⟨sz, rfl⟩ : ∃ z : Nat, size = (z : Int) := ⟨size.toNat, by omega⟩
  have h1 : 1 ≤ sz := by omega
  have h2 : sz ≤ 64 := by omega
  have h3 : text.length ≤ 4096 := by omega
  have hsp : F4 n text (sz : Int) = some (0, Ca.ps sz text) := by
    unfold F4; rw [decide_eq_false hs, decide_eq_false hs2, decide_eq_false ht]
    exact Ca.t60 n (by omega) text sz h1 h3
  rw [hsp, hlives]
  simp only [Option.bind_some, Bool.not_true, cond_false, bne_self_eq_false]
  by_cases hL : (Ca.ps sz text).length > 200
  · rw [decide_eq_true (show (((Ca.ps sz text).length : Nat) : Int) > 200 by omega)]; exact hj20 (0, Ca.ps sz text)
  rw [decide_eq_false (show ¬ (((Ca.ps sz text).length : Nat) : Int) > 200 by omega)]
  have hpl := piece_len text sz h1 h2
  have htail := fun F => tail n text sz F hn h1 h2 h3 (by omega)
  have hcut := hear_cut n (Ca.ps sz text) hn hpl (by omega)
  have hwl := wire_len n (Ca.ps sz text) hpl
  show loopF (F3_l31 n text (sz : Int) cut (0, Ca.ps sz text)) n (0, true, []) = some true
  generalize hLg : Ca.ps sz text = L at *
  refine loopF_eq (F3_l31 n text (sz : Int) cut (0, L)) (fun _ => some true) (fun d => ∃ (i : Nat) (b : Bool), d = ((i : Int), b, byI (wireT n L i)) ∧ i ≤ L.length) (fun d => L.length - d.1.toNat) ?_ n (0, true, []) ⟨0, true, by simp [wireT, pkts, byI], by omega⟩ (by simp; omega)
  rintro kk d ⟨i, b, rfl, hi⟩ ih
  simp only [F3_l31, strOf_by, kdE, Int.toNat_natCast]
  by_cases hil : i < L.length
  · have hp := hpl i hil
    obtain ⟨c1, c2⟩ := cOf_ok n (by omega) (L.getD i []) hp
    have hw : F6 n (kdI i) 0 0 0 (L.getD i []) = some (pkI n L i, 0) := pktW n (kdI i) (kdI_two i) _ hp _ c1
    obtain ⟨q1, q2⟩ := pkI_len n L i hp
    have hlen := hwl i (by omega)
    have hsl := send_len (pkI n L i) q2
    rw [decide_eq_true (show (i : Int) < ((L.length : Nat) : Int) by omega), inb_true (by omega) (by omega)]
    simp only [cond_true]
    rw [hw, Option.bind_some, sendV n hn _ q1 q2, Option.bind_some]
    simp only [bne_self_eq_false, cond_false]
    have hj : ∀ b' : Bool, F3_j35 n kk (i : Int) (byI (wireT n L i)) (sendL (pkI n L i) ++ [48, 48, 74], 0) b' = some true := fun b' => by
      unfold F3_j35
      simp only []
      rw [decide_eq_true (by rw [byI_len, List.length_append]; simp only [List.length_cons, List.length_nil]; omega), w64 (n := (i : Int) + 1) (by omega) (by omega)]
      simp only [cond_true]
      exact ih _ ⟨i + 1, b', by rw [wire_succ, byI_app (wireT n L i), show ((i + 1 : Nat) : Int) = (i : Int) + 1 by omega], by omega⟩ (by simp only; omega)
    cases b with
    | true => exact hj false
    | false => exact hj false
  · obtain rfl : i = L.length := by omega
    rw [decide_eq_false (by omega)]
    simp only [cond_false]
    have hj37 : ∀ k : Nat, k ≤ (wireT n L L.length).length → F3_j37 n text (sz : Int) (byI (wireT n L L.length)) (k : Int) = some true := by
      intro k hk
      obtain ⟨r1, o1, o2, e1, e2, e3⟩ := hcut k
      have hol : (o1 ++ o2).length = L.length := by rw [e3]; simp [pkts]
      have hol1 := hol
      rw [List.length_append] at hol1
      unfold F3_j37
      simp only [strOf_by, Int.toNat_natCast]
      rw [show subB (wireT n L L.length).length none (some (k : Int)) = true by simp [subB]; omega, show subB (wireT n L L.length).length (some (k : Int)) none = true by simp [subB]; omega, e1]
      simp only [cond_true, Option.bind_some]
      rw [e2, Option.bind_some, cloneF n o1 (by omega), Option.bind_some]
      simp only []
      rw [decide_eq_true (by omega)]
      simp only [cond_true]
      refine htail _ (o1 ++ o2) e3 ?_
      intro kk x m
      simp only [F3_l38, beq_ear]
    by_cases hc : cut < 0
    · rw [decide_eq_true hc]
      simp only [cond_true]
      obtain ⟨r1, o1, o2, e1, e2, e3⟩ := hcut 0
      have hol : (o1 ++ o2).length = L.length := by rw [e3]; simp [pkts]
      have hol1 := hol
      rw [List.length_append] at hol1
      rw [show subB (wireT n L L.length).length none (some 0) = true by simp [subB], show subB (wireT n L L.length).length (some 0) none = true by simp [subB], e1]
      simp only [cond_true, Option.bind_some]
      rw [e2, Option.bind_some, cloneF n o1 (by omega), Option.bind_some]
      simp only []
      rw [decide_eq_true (by omega)]
      simp only [cond_true]
      refine htail _ (o1 ++ o2) e3 ?_
      intro kk x m
      simp only [F3_l36, beq_ear]
    · rw [decide_eq_false hc]
      simp only [cond_false]
      by_cases hc2 : cut > (((wireT n L L.length).length : Nat) : Int)
      · rw [decide_eq_true hc2]
        exact hj37 0 (by omega)
      · rw [decide_eq_false hc2]
        have := hj37 cut.toNat (by omega)
        rw [Int.toNat_of_nonneg (by omega)] at this
        exact this
theorem topWire_says (a0 : Sh.T .str) (g0 : Sh.good .str a0) (a1 : Sh.T (.int .i64)) (g1 : Sh.good (.int .i64) a1) (a2 : Sh.T (.int .i64)) (g2 : Sh.good (.int .i64) a2) : ∃ n, F3 n a0 a1 a2 = some true :=
  ⟨1125899906842624, topWireN _ (by omega) a0 a1 a2⟩
end Go.Proofs.YtbpjinefbnlenaaGreatDoor
