/- Contracts: longAt (bulk), WordAt, lowNum (plugref), the two ReadStatus. -/
import Derived.Test.YtpiamcafkjdfpaaStatus
import Derived.Lib.SmallJoins
namespace Go.Proofs.Ytpiamcafkjdfpaa
open Go.RowKit
set_option linter.unusedVariables false
set_option maxRecDepth 100000

/-- four bytes, the lowest first -/
def numAt (s : ByteArray) (i : Nat) : Nat := (s.data.toList.getD i 0).toNat + 256 * (s.data.toList.getD (i + 1) 0).toNat + 65536 * (s.data.toList.getD (i + 2) 0).toNat + 16777216 * (s.data.toList.getD (i + 3) 0).toNat
theorem getB (s : ByteArray) (i : Nat) (h : i < s.size) : s.data.toList.getD i 0 = s[i] := by
  have h' : i < s.data.toList.length := by simpa using h
  rw [List.getD_eq_getElem?_getD, List.getElem?_eq_getElem h']
  rfl
theorem numAt_lt (s : ByteArray) (i : Nat) : numAt s i ≤ 4294967295 := by
  unfold numAt
  have := (s.data.toList.getD i 0).toNat_lt
  have := (s.data.toList.getD (i + 1) 0).toNat_lt
  have := (s.data.toList.getD (i + 2) 0).toNat_lt
  have := (s.data.toList.getD (i + 3) 0).toNat_lt
  omega
theorem or4 (a b c d : Nat) (ha : a < 256) (hb : b < 256) (hc : c < 256) (hd : d < 256) :
    Go.bits .or .i64 (Go.bits .or .i64 (Go.bits .or .i64 (a : Int) ((b : Int) * 256)) ((c : Int) * 65536)) ((d : Int) * 16777216) = ((a + 256 * b + 65536 * c + 16777216 * d : Nat) : Int) := by
  have e1 : Go.bits .or .i64 (a : Int) ((b : Int) * 256) = ((a + b * 256 : Nat) : Int) := by
    have := i64_or_nat a (b * 256) (by omega) (by omega)
    rw [or_add a b 8 ha] at this
    simpa using this
  rw [e1]
  have e2 : Go.bits .or .i64 ((a + b * 256 : Nat) : Int) ((c : Int) * 65536) = ((a + b * 256 + c * 65536 : Nat) : Int) := by
    have := i64_or_nat (a + b * 256) (c * 65536) (by omega) (by omega)
    rw [or_add (a + b * 256) c 16 (by omega)] at this
    simpa using this
  rw [e2]
  have e3 : Go.bits .or .i64 ((a + b * 256 + c * 65536 : Nat) : Int) ((d : Int) * 16777216) = ((a + b * 256 + c * 65536 + d * 16777216 : Nat) : Int) := by
    have := i64_or_nat (a + b * 256 + c * 65536) (d * 16777216) (by omega) (by omega)
    rw [or_add (a + b * 256 + c * 65536) d 24 (by omega)] at this
    simpa using this
  rw [e3]
  omega

set_option maxHeartbeats 1000000 in
theorem longAt_any (s : ByteArray) (i : Nat) (h : i + 3 < s.size) (hs : s.size ≤ maxLen) (w : World) :
    Calls Try.prog 55 #[.string s, .int .i64 i] w fun e w' => e = .returned (.int .i64 (numAt s i)) ∧ Below w.heap.size w w' := by
  unfold maxLen at hs
  have h0 : i < s.size := by omega
  have h1 : i + 1 < s.size := by omega
  have h2 : i + 2 < s.size := by omega
  have b0 : s[i].toNat < 256 := s[i].toNat_lt
  have b1 : s[i + 1].toNat < 256 := s[i + 1].toNat_lt
  have b2 : s[i + 2].toNat < 256 := s[i + 2].toNat_lt
  have b3 : s[i + 3].toNat < 256 := s[i + 3].toNat_lt
  have j0 : (0 : Int) ≤ i := by omega
  have j1 : (i : Int) < s.size := by omega
  have k1 : IntKind.i64.wrap ((i : Int) + 1) = (i : Int) + 1 := IntWalk.i64_in _ (by omega)
  have k2 : IntKind.i64.wrap ((i : Int) + 2) = (i : Int) + 2 := IntWalk.i64_in _ (by omega)
  have k3 : IntKind.i64.wrap ((i : Int) + 3) = (i : Int) + 3 := IntWalk.i64_in _ (by omega)
  have l1 : (0 : Int) ≤ (i : Int) + 1 := by omega
  have l2 : (0 : Int) ≤ (i : Int) + 2 := by omega
  have l3 : (0 : Int) ≤ (i : Int) + 3 := by omega
  have m1 : ((i : Int) + 1).toNat = i + 1 := by omega
  have m2 : ((i : Int) + 2).toNat = i + 2 := by omega
  have m3 : ((i : Int) + 3).toNat = i + 3 := by omega
  have n1 : (i : Int) + 1 < s.size := by omega
  have n2 : (i : Int) + 2 < s.size := by omega
  have n3 : (i : Int) + 3 < s.size := by omega
  go_enter Try.func55, Try.ntmps55
  go_wp2_with fail
  go_quiet (fail)
  go_wp2_with fail
  go_ret
  refine ⟨ret_i ?_, below_drewN _ _ _⟩
  rw [or4 _ _ _ _ b0 b1 b2 b3]
  unfold numAt
  rw [getB s i h0, getB s (i + 1) h1, getB s (i + 2) h2, getB s (i + 3) h]

set_option maxHeartbeats 1000000 in
theorem wordAt_any (s : ByteArray) (i : Nat) (h : i + 1 < s.size) (hs : s.size ≤ maxLen) (w : World) :
    Calls Try.prog 89 #[.string s, .int .i64 i] w fun e w' => e = .returned (.int .i64 ((s.data.toList.getD i 0).toNat + 256 * (s.data.toList.getD (i + 1) 0).toNat : Nat)) ∧ Below w.heap.size w w' := by
  unfold maxLen at hs
  have h0 : i < s.size := by omega
  have b0 : s[i].toNat < 256 := s[i].toNat_lt
  have b1 : s[i + 1].toNat < 256 := s[i + 1].toNat_lt
  have j0 : (0 : Int) ≤ i := by omega
  have j1 : (i : Int) < s.size := by omega
  have k1 : IntKind.i64.wrap ((i : Int) + 1) = (i : Int) + 1 := IntWalk.i64_in _ (by omega)
  have l1 : (0 : Int) ≤ (i : Int) + 1 := by omega
  have m1 : ((i : Int) + 1).toNat = i + 1 := by omega
  have n1 : (i : Int) + 1 < s.size := by omega
  rw [getB s i h0, getB s (i + 1) h]
  go_enter Try.func89, Try.ntmps89
  go_wp2_with fail
  go_quiet (fail)
  go_wp2_with fail
  go_ret
  exact ⟨ret_i (by omega), below_drewN _ _ _⟩
-- FROM HERE BY rel_read.py
def c12 (s : ByteArray) : Nat := (s.data.toList.getD 12 0).toNat
theorem bytes_ext {a b : ByteArray} (h : a.data.toList = b.data.toList) : a = b := by
  apply ByteArray.ext
  exact Array.toList_inj.1 h
def rdP (s : ByteArray) : ByteArray := ⟨(stL (numAt s 4) (numAt s 8) (c12 s)).toArray⟩
def rdV (s : ByteArray) : Value := if c12 s ≤ 2 ∧ rdP s = s then .tuple #[.agg #[.int .i64 (numAt s 4), .int .i64 (numAt s 8), .int .i64 (c12 s)], .int .i64 0] else .tuple #[.agg #[.int .i64 0, .int .i64 0, .int .i64 0], .int .i64 4]
theorem stabAlloc {B : Nat} {v : Value} {w w' : World} {C : Array Value} {T : TypeId} (h : ∃ b, v = .pointer (some ⟨b, 0, none⟩) ∧ B ≤ b ∧ w.heap[b]? = some (.cells C T (0, 0))) (hle : Below w.heap.size w w') :
    ∃ b, v = .pointer (some ⟨b, 0, none⟩) ∧ B ≤ b ∧ w'.heap[b]? = some (.cells C T (0, 0)) := by
  obtain ⟨b, h1, h2, h3⟩ := h
  have hb : b < w.heap.size := by
    rcases Nat.lt_or_ge b w.heap.size with hlt | hge
    · exact hlt
    · rw [Array.getElem?_eq_none hge] at h3; cases h3
  exact ⟨b, h1, h2, by rw [hle.block b hb]; exact h3⟩
theorem ret_agg {a : Array Value} {c d : Int} (h : c = d) : Ending.returned (.tuple #[.agg a, .int .i64 c]) = Ending.returned (.tuple #[.agg a, .int .i64 d]) := by rw [h]

set_option maxHeartbeats 1000000 in
theorem readP_short (s : ByteArray) (h : s.size < 13) (w : World) :
    Calls Try.prog 16 #[.string s] w fun e w' => e = .returned (.tuple #[.agg #[.int .i64 0, .int .i64 0, .int .i64 0], .int .i64 3]) ∧ Below w.heap.size w w' := by
  go_enter Try.func16, Try.ntmps16
  go_wp2
  refine bodyPost_ret (v := .tuple #[.agg #[.int .i64 0, .int .i64 0, .int .i64 0], .int .i64 3]) (by simp [results, Try.results16, go_sem]) rfl ⟨rfl, ?_⟩
  go_grown

set_option maxHeartbeats 4000000 in
theorem readP_long (s : ByteArray) (h : 13 ≤ s.size) (hs : s.size ≤ maxLen) (w : World) :
    Calls Try.prog 16 #[.string s] w fun e w' => e = .returned (rdV s) ∧ Below w.heap.size w w' := by
  have h4 := longAt_any s 4 (by omega) hs
  have h8 := longAt_any s 8 (by omega) hs
  simp only [Int.cast_ofNat_Int] at h4 h8
  have G4 := Lib.hid h4
  have G8 := Lib.hid h8
  have hc : c12 s = s[12].toNat := by unfold c12; rw [getB s 12 (by omega)]
  have hclt : s[12].toNat < 256 := s[12].toNat_lt
  have l4 := numAt_lt s 4
  have l8 := numAt_lt s 8
  unfold maxLen at hs
  have HW : Hid (∀ w, Calls Try.prog 14 #[.agg #[.int .i64 (numAt s 4), .int .i64 (numAt s 8), .int .i64 (c12 s)]] w fun e w' => e = .returned (.tuple #[.string (if c12 s ≤ 2 then rdP s else ⟨#[]⟩), .int .i64 (if c12 s ≤ 2 then 0 else 1)]) ∧ Below w.heap.size w w') := by
    intro w
    by_cases hh : c12 s ≤ 2
    · simp only [if_pos hh]
      exact writeStatus_yes (numAt s 4) (numAt s 8) (c12 s) l4 l8 hh w
    · simp only [if_neg hh]
      exact writeStatus_no (numAt s 4) (numAt s 8) (c12 s) (by simp [goodSt]; omega) w
  have hwr : IntKind.i64.wrap (s[12].toNat : Int) = s[12].toNat := wrap_small _ (by omega)
  have j12 : (12 : Int) < s.size := by omega
  have h13 : (13 : Int) ≤ s.size := by omega
  generalize hn4 : numAt s 4 = n4 at *
  generalize hn8 : numAt s 8 = n8 at *
  rw [hc] at HW
  have HC := Lib.hid hc
  have HN4 := Lib.hid hn4
  have HN8 := Lib.hid hn8
  clear hc hn4 hn8 h4 h8
  go_enter Try.func16, Try.ntmps16
  go_wp2_with fail
  have hz0 : w.heap.size + 1 ≤ (w.alloc (.cells #[.int .i64 0, .int .i64 0, .int .i64 0] 23)).heap.size := by simp
  refine wp_region_relT _ _ (List.take_append_drop 9 _).symm (by kernel_rfl) (by rfl) (fun w' => Below (w.heap.size + 1) (w.alloc (.cells #[.int .i64 0, .int .i64 0, .int .i64 0] 23)) w')
    (fun i v w' => match i with
      | 0 => v = .string s
      | 1 => v = .int .i64 n4
      | 2 => v = .string s
      | 3 => v = .int .i64 n8
      | 4 => v = .string s
      | 5 => v = .int .u8 s[12].toNat
      | 6 => v = .int .i64 s[12].toNat
      | 7 => v = .agg #[.int .i64 n4, .int .i64 n8, .int .i64 s[12].toNat]
      | 8 => ∃ b, v = .pointer (some ⟨b, 0, none⟩) ∧ w.heap.size + 1 ≤ b ∧ w'.heap[b]? = some (.cells #[.int .i64 0, .int .i64 0, .int .i64 0] 23 (0, 0))
      | _ => True) ?_ ?_ ?_ ?_
  · intro i v wq w2 h hS hS' hle
    match i, h with
    | 0, h => exact h
    | 1, h => exact h
    | 2, h => exact h
    | 3, h => exact h
    | 4, h => exact h
    | 5, h => exact h
    | 6, h => exact h
    | 7, h => exact h
    | 8, h => exact stabAlloc h hle
    | n + 9, h => trivial
  · exact (Below.refl _ _).drew
  · refine ⟨?_, ?_, ?_, ?_, ?_, ?_, ?_, ?_, ?_, trivial⟩
    · refine ok_run rfl (fun x wq hS hd => ⟨.string s, wq, ?_, rfl, hS, Below.refl _ _⟩)
      simp [putAll, Act.put, go_sem]
    · refine ok_call rfl (fun x wq hS hd => ⟨55, #[.string s, .int .i64 4], ?_, (G4.out wq).mono ?_⟩)
      · have d0 : (x 0) = .string s := hd.1 rfl
        simp [putAll, Act.put, go_sem, d0]
      · rintro e w2 ⟨rfl, hb⟩
        exact ⟨_, rfl, rfl, hS.trans (hb.mono (Nat.le_trans hz0 hS.size)), hb⟩
    · refine ok_run rfl (fun x wq hS hd => ⟨.string s, wq, ?_, rfl, hS, Below.refl _ _⟩)
      simp [putAll, Act.put, go_sem]
    · refine ok_call rfl (fun x wq hS hd => ⟨55, #[.string s, .int .i64 8], ?_, (G8.out wq).mono ?_⟩)
      · have d2 : (x 2) = .string s := hd.1 rfl
        have d1 : (x 1) = .int .i64 n4 := hd.2.1 rfl
        simp [putAll, Act.put, go_sem, d1, d2]
      · rintro e w2 ⟨rfl, hb⟩
        exact ⟨_, rfl, rfl, hS.trans (hb.mono (Nat.le_trans hz0 hS.size)), hb⟩
    · refine ok_run rfl (fun x wq hS hd => ⟨.string s, wq, ?_, rfl, hS, Below.refl _ _⟩)
      simp [putAll, Act.put, go_sem]
    · refine ok_run rfl (fun x wq hS hd => ⟨.int .u8 s[12].toNat, wq, ?_, rfl, hS, Below.refl _ _⟩)
      have d4 : (x 4) = .string s := hd.1 rfl
      simp [putAll, Act.put, go_sem, d4, j12]
    · refine ok_run rfl (fun x wq hS hd => ⟨.int .i64 s[12].toNat, wq, ?_, rfl, hS, Below.refl _ _⟩)
      have d5 : (x 5) = .int .u8 s[12].toNat := hd.1 rfl
      simp [putAll, Act.put, go_sem, d5, hwr]
    · refine ok_run rfl (fun x wq hS hd => ⟨.agg #[.int .i64 n4, .int .i64 n8, .int .i64 s[12].toNat], wq, ?_, rfl, hS, Below.refl _ _⟩)
      have d1 : (x 1) = .int .i64 n4 := hd.1 rfl
      have d3 : (x 3) = .int .i64 n8 := hd.2.1 rfl
      have d6 : (x 6) = .int .i64 s[12].toNat := hd.2.2.1 rfl
      simp [putAll, Act.put, go_sem, d1, d3, d6]
    · refine ok_run rfl (fun x wq hS hd => ⟨.pointer (some ⟨wq.heap.size, 0, none⟩), wq.alloc (.cells #[.int .i64 0, .int .i64 0, .int .i64 0] 23), ?_, ⟨_, rfl, Nat.le_trans hz0 hS.size, heap_alloc_new _ _⟩, Below.alloc hS (Nat.le_trans hz0 hS.size) _, (Below.refl _ _).alloc (Nat.le_refl _) _⟩)
      simp [putAll, Act.put, go_sem]
  · intro x wq hS hall
    have q7 : (x 7) = .agg #[.int .i64 n4, .int .i64 n8, .int .i64 s[12].toNat] := hall.2.2.2.2.2.2.2.1
    have q8 : ∃ b, (x 8) = .pointer (some ⟨b, 0, none⟩) ∧ w.heap.size + 1 ≤ b ∧ wq.heap[b]? = some (.cells #[.int .i64 0, .int .i64 0, .int .i64 0] 23 (0, 0)) := hall.2.2.2.2.2.2.2.2.1
    clear hall
    obtain ⟨b, q8, hb1, hb2⟩ := q8
    simp only [putAll, List.take_succ_cons, List.take_zero, List.drop_succ_cons, List.drop_zero, Act.put, List.setIfInBounds_toArray, List.set_cons_succ, List.set_cons_zero, Nat.zero_add, Nat.reduceAdd, q7, q8]
    have e0 := Joins.cell_of_block hb2 0
    have e1 := Joins.cell_of_block hb2 1
    have e2 := Joins.cell_of_block hb2 2
    have u0 := Joins.unfrozen_of_block hb2 0
    have u1 := Joins.unfrozen_of_block hb2 1
    have u2 := Joins.unfrozen_of_block hb2 2
    clear hwr
    go_wp2_with fail
    have hblt : b < wq.heap.size := by
      rcases Nat.lt_or_ge b wq.heap.size with hlt | hge
      · exact hlt
      · rw [Array.getElem?_eq_none hge] at hb2; cases hb2
    have hW3 : Below (w.heap.size + 1) (w.alloc (.cells #[.int .i64 0, .int .i64 0, .int .i64 0] 23)) (((wq.setCell ⟨b, 0, none⟩ (.int .i64 n4)).setCell ⟨b, 1, none⟩ (.int .i64 n8)).setCell ⟨b, 2, none⟩ (.int .i64 s[12].toNat)) :=
      ((hS.setCell hb1 _).setCell hb1 _).setCell hb1 _
    have f0 : (((wq.setCell ⟨b, 0, none⟩ (.int .i64 n4)).setCell ⟨b, 1, none⟩ (.int .i64 n8)).setCell ⟨b, 2, none⟩ (.int .i64 s[12].toNat)).cell? ⟨b, 0, none⟩ = some (.int .i64 n4) := by go_simp
    have f1 : (((wq.setCell ⟨b, 0, none⟩ (.int .i64 n4)).setCell ⟨b, 1, none⟩ (.int .i64 n8)).setCell ⟨b, 2, none⟩ (.int .i64 s[12].toNat)).cell? ⟨b, 1, none⟩ = some (.int .i64 n8) := by go_simp
    have f2 : (((wq.setCell ⟨b, 0, none⟩ (.int .i64 n4)).setCell ⟨b, 1, none⟩ (.int .i64 n8)).setCell ⟨b, 2, none⟩ (.int .i64 s[12].toNat)).cell? ⟨b, 2, none⟩ = some (.int .i64 s[12].toNat) := by go_simp
    have hz3 : b < (((wq.setCell ⟨b, 0, none⟩ (.int .i64 n4)).setCell ⟨b, 1, none⟩ (.int .i64 n8)).setCell ⟨b, 2, none⟩ (.int .i64 s[12].toNat)).heap.size := by simpa using hblt
    clear e0 e1 e2 u0 u1 u2 hb2 hS
    generalize (((wq.setCell ⟨b, 0, none⟩ (.int .i64 n4)).setCell ⟨b, 1, none⟩ (.int .i64 n8)).setCell ⟨b, 2, none⟩ (.int .i64 s[12].toNat)) = w3 at *
    by_cases hgood : s[12].toNat ≤ 2 ∧ rdP s = s
    · have HW2 := HW.out w3
      simp only [if_pos hgood.1, hgood.2] at HW2
      have HG := Lib.hid hgood
      clear hgood HW
      refine HW2.mono ?_
      rintro e w5 ⟨rfl, hb5⟩
      have g0 := (hb5.cell (p := ⟨b, 0, none⟩) hz3).trans f0
      have g1 := (hb5.cell (p := ⟨b, 1, none⟩) hz3).trans f1
      have g2 := (hb5.cell (p := ⟨b, 2, none⟩) hz3).trans f2
      have hW5 := hW3.trans (hb5.mono (Nat.le_trans hz0 hW3.size))
      have k0 : w5.cell? ⟨w.heap.size, 0, none⟩ = some (.int .i64 0) := (hW5.cell (by simp)).trans (by simp)
      have k1 : w5.cell? ⟨w.heap.size, 1, none⟩ = some (.int .i64 0) := (hW5.cell (by simp)).trans (by simp)
      have k2 : w5.cell? ⟨w.heap.size, 2, none⟩ = some (.int .i64 0) := (hW5.cell (by simp)).trans (by simp)
      have v0 : w5.frozen? ⟨w.heap.size, 0, none⟩ = false := (hW5.frozen (by simp)).trans (by simp)
      have v1 : w5.frozen? ⟨w.heap.size, 1, none⟩ = false := (hW5.frozen (by simp)).trans (by simp)
      have v2 : w5.frozen? ⟨w.heap.size, 2, none⟩ = false := (hW5.frozen (by simp)).trans (by simp)
      have z5 := hW5.size
      have z6 : w.heap.size < w5.heap.size := by simp at z5; omega
      have hbel : Below w.heap.size w w5 := Below.trans ((Below.refl _ _).alloc (Nat.le_refl _) _) (hW5.mono (by omega))
      clear f0 f1 f2 HW2 hW3 hW5 hb5 z5
      go_wp2_with fail
      refine bodyPost_ret (v := .tuple #[.agg #[.int .i64 n4, .int .i64 n8, .int .i64 s[12].toNat], .int .i64 0]) (by simp [results, Try.results16, go_sem, k0, k1, k2]) rfl ⟨?_, ?_⟩
      · exact congrArg Ending.returned (by have h := HG.out; rw [← HC.out] at h; unfold rdV; rw [if_pos h, HN4.out, HN8.out, HC.out])
      · exact ((hbel.setCell (Nat.le_refl _) _).setCell (Nat.le_refl _) _).setCell (Nat.le_refl _) _
    · have HW2 := HW.out w3
      have hbool : ¬ s[12].toNat ≤ 2 ∨ (s[12].toNat ≤ 2 ∧ rdP s ≠ s) := by
        by_cases h2 : s[12].toNat ≤ 2
        · exact .inr ⟨h2, fun e => hgood ⟨h2, e⟩⟩
        · exact .inl h2
      have HG := Lib.hid hgood
      clear hgood HW
      rcases hbool with hn | ⟨hn, hne⟩
      · simp only [if_neg hn] at HW2
        clear hn
        refine HW2.mono ?_
        rintro e w5 ⟨rfl, hb5⟩
        have hW5 := hW3.trans (hb5.mono (Nat.le_trans hz0 hW3.size))
        have k0 : w5.cell? ⟨w.heap.size, 0, none⟩ = some (.int .i64 0) := (hW5.cell (by simp)).trans (by simp)
        have k1 : w5.cell? ⟨w.heap.size, 1, none⟩ = some (.int .i64 0) := (hW5.cell (by simp)).trans (by simp)
        have k2 : w5.cell? ⟨w.heap.size, 2, none⟩ = some (.int .i64 0) := (hW5.cell (by simp)).trans (by simp)
        have v0 : w5.frozen? ⟨w.heap.size, 0, none⟩ = false := (hW5.frozen (by simp)).trans (by simp)
        have v1 : w5.frozen? ⟨w.heap.size, 1, none⟩ = false := (hW5.frozen (by simp)).trans (by simp)
        have v2 : w5.frozen? ⟨w.heap.size, 2, none⟩ = false := (hW5.frozen (by simp)).trans (by simp)
        have z5 := hW5.size
        have z6 : w.heap.size < w5.heap.size := by simp at z5; omega
        have hbel : Below w.heap.size w w5 := Below.trans ((Below.refl _ _).alloc (Nat.le_refl _) _) (hW5.mono (by omega))
        clear f0 f1 f2 HW2 hW3 hW5 hb5 z5
        go_wp2_with fail
        refine bodyPost_ret (v := .tuple #[.agg #[.int .i64 0, .int .i64 0, .int .i64 0], .int .i64 4]) (by simp [results, Try.results16, go_sem, k0, k1, k2]) rfl ⟨?_, ?_⟩
        · exact congrArg Ending.returned (by have h := HG.out; rw [← HC.out] at h; unfold rdV; rw [if_neg h])
        · exact ((hbel.setCell (Nat.le_refl _) _).setCell (Nat.le_refl _) _).setCell (Nat.le_refl _) _
      · simp only [if_pos hn] at HW2
        clear hn
        have hnb3 : (!(rdP s).toList == s.toList) = true := by
          simp only [Bool.not_eq_true', beq_eq_false_iff_ne, ne_eq]
          intro e
          rw [ByteArray.toList_eq, ByteArray.toList_eq] at e
          exact hne (bytes_ext e)
        clear hne
        refine HW2.mono ?_
        rintro e w5 ⟨rfl, hb5⟩
        have hW5 := hW3.trans (hb5.mono (Nat.le_trans hz0 hW3.size))
        have k0 : w5.cell? ⟨w.heap.size, 0, none⟩ = some (.int .i64 0) := (hW5.cell (by simp)).trans (by simp)
        have k1 : w5.cell? ⟨w.heap.size, 1, none⟩ = some (.int .i64 0) := (hW5.cell (by simp)).trans (by simp)
        have k2 : w5.cell? ⟨w.heap.size, 2, none⟩ = some (.int .i64 0) := (hW5.cell (by simp)).trans (by simp)
        have v0 : w5.frozen? ⟨w.heap.size, 0, none⟩ = false := (hW5.frozen (by simp)).trans (by simp)
        have v1 : w5.frozen? ⟨w.heap.size, 1, none⟩ = false := (hW5.frozen (by simp)).trans (by simp)
        have v2 : w5.frozen? ⟨w.heap.size, 2, none⟩ = false := (hW5.frozen (by simp)).trans (by simp)
        have z5 := hW5.size
        have z6 : w.heap.size < w5.heap.size := by simp at z5; omega
        have hbel : Below w.heap.size w w5 := Below.trans ((Below.refl _ _).alloc (Nat.le_refl _) _) (hW5.mono (by omega))
        clear f0 f1 f2 HW2 hW3 hW5 hb5 z5
        go_wp2_with fail
        refine bodyPost_ret (v := .tuple #[.agg #[.int .i64 0, .int .i64 0, .int .i64 0], .int .i64 4]) (by simp [results, Try.results16, go_sem, k0, k1, k2]) rfl ⟨?_, ?_⟩
        · exact congrArg Ending.returned (by have h := HG.out; rw [← HC.out] at h; unfold rdV; rw [if_neg h])
        · exact ((hbel.setCell (Nat.le_refl _) _).setCell (Nat.le_refl _) _).setCell (Nat.le_refl _) _
end Go.Proofs.Ytpiamcafkjdfpaa
