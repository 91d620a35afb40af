/- Contracts: lowNum, ReadStatus (plugref). -/
import Derived.Test.YtpiamcafkjdfpaaRead
namespace Go.Proofs.Ytpiamcafkjdfpaa
open Go.RowKit
set_option linter.unusedVariables false
set_option maxRecDepth 100000

theorem lowNum_any (s : ByteArray) (h : 3 < s.size) (hs : s.size ≤ maxLen) (w : World) :
    Calls Try.prog 56 #[.string s] w fun e w' => e = .returned (.int .i64 (numAt s 0)) ∧ Below w.heap.size w w' := by
  have h0 := wordAt_any s 0 (by omega) hs
  have h2 := wordAt_any s 2 (by omega) hs
  simp only [Int.cast_ofNat_Int] at h0 h2
  have e : numAt s 0 = ((s.data.toList.getD 0 0).toNat + 256 * (s.data.toList.getD 1 0).toNat) + 65536 * ((s.data.toList.getD 2 0).toNat + 256 * (s.data.toList.getD 3 0).toNat) := by unfold numAt; simp only [Nat.zero_add]; omega
  have b0 : (s.data.toList.getD 0 0).toNat + 256 * (s.data.toList.getD 1 0).toNat < 65536 := by
    have := (s.data.toList.getD 0 0).toNat_lt
    have := (s.data.toList.getD 1 0).toNat_lt
    omega
  have b2 : (s.data.toList.getD 2 0).toNat + 256 * (s.data.toList.getD 3 0).toNat < 65536 := by
    have := (s.data.toList.getD 2 0).toNat_lt
    have := (s.data.toList.getD 3 0).toNat_lt
    omega
  simp only [Nat.zero_add, Nat.reduceAdd] at h0 h2
  generalize (s.data.toList.getD 0 0).toNat + 256 * (s.data.toList.getD 1 0).toNat = x at *
  generalize (s.data.toList.getD 2 0).toNat + 256 * (s.data.toList.getD 3 0).toNat = y at *
  rw [e]
  clear e
  have H0 := Lib.hid h0
  have H2 := Lib.hid h2
  clear h0 h2
  go_enter Try.func56, Try.ntmps56
  go_wp2_with fail
  refine (H0.out _).mono ?_
  rintro e w1 ⟨rfl, hb1⟩
  go_wp2_with fail
  refine (H2.out _).mono ?_
  rintro e w2 ⟨rfl, hb2⟩
  go_wp2_with fail
  go_ret
  exact ⟨ret_i (by omega), hb1.trans (hb2.mono hb1.size)⟩

set_option maxHeartbeats 1000000 in
theorem readR_short (s : ByteArray) (h : s.size < 13) (w : World) :
    Calls Try.prog 17 #[.string s] w fun e w' => e = .returned (.tuple #[.agg #[.int .i64 0, .int .i64 0, .int .i64 0], .int .i64 3]) ∧ Below w.heap.size w w' := by
  go_enter Try.func17, Try.ntmps17
  go_wp2
  refine bodyPost_ret (v := .tuple #[.agg #[.int .i64 0, .int .i64 0, .int .i64 0], .int .i64 3]) (by simp [results, Try.results17, go_sem]) rfl ⟨rfl, ?_⟩
  go_grown
theorem extract_list (s : ByteArray) (a b : Nat) : (s.extract a b).data.toList = (s.data.toList.take b).drop a := by
  simp [ByteArray.data_extract, Array.toList_extract, List.extract_eq_take_drop, List.drop_take]
theorem numAt_extract (s : ByteArray) (k : Nat) (h : k ≤ s.size) : numAt (s.extract k s.size) 0 = numAt s k := by
  have e : (s.extract k s.size).data.toList = s.data.toList.drop k := by
    rw [extract_list, List.take_of_length_le (by simp)]
  unfold numAt
  rw [e]
  simp [List.getD_eq_getElem?_getD, List.getElem?_drop]
theorem lowL_num (a b c d : UInt8) : lowL (a.toNat + 256 * b.toNat + 65536 * c.toNat + 16777216 * d.toNat) = [a, b, c, d] := by
  have ha := a.toNat_lt
  have hb := b.toNat_lt
  have hc := c.toNat_lt
  have hd := d.toNat_lt
  unfold lowL
  have e1 : UInt8.ofNat (a.toNat + 256 * b.toNat + 65536 * c.toNat + 16777216 * d.toNat) = a := by apply UInt8.toNat.inj; simp <;> omega
  have e2 : UInt8.ofNat ((a.toNat + 256 * b.toNat + 65536 * c.toNat + 16777216 * d.toNat) / 256) = b := by apply UInt8.toNat.inj; simp <;> omega
  have e3 : UInt8.ofNat ((a.toNat + 256 * b.toNat + 65536 * c.toNat + 16777216 * d.toNat) / 65536) = c := by apply UInt8.toNat.inj; simp <;> omega
  have e4 : UInt8.ofNat ((a.toNat + 256 * b.toNat + 65536 * c.toNat + 16777216 * d.toNat) / 16777216) = d := by apply UInt8.toNat.inj; simp <;> omega
  rw [e1, e2, e3, e4]
theorem rd_iff (s : ByteArray) (h : 13 ≤ s.size) : (c12 s ≤ 2 ∧ rdP s = s) ↔ (s.size = 13 ∧ (s.extract 0 4).toList = [85, 83, 66, 83] ∧ c12 s ≤ 2) := by
  have hl : s.data.toList.length = s.size := by simp
  have key : rdP s = s ↔ stL (numAt s 4) (numAt s 8) (c12 s) = s.data.toList := by
    constructor
    · intro e
      have := congrArg (fun x : ByteArray => x.data.toList) e
      simpa [rdP] using this
    · intro e
      apply bytes_ext
      simpa [rdP] using e
  rw [key, ByteArray.toList_eq, extract_list, List.drop_zero]
  unfold numAt c12
  generalize s.data.toList = l at *
  rw [← hl] at h ⊢
  match l, h with
  | a0 :: a1 :: a2 :: a3 :: a4 :: a5 :: a6 :: a7 :: a8 :: a9 :: a10 :: a11 :: a12 :: t, _ =>
    simp only [stL, List.getD_cons_succ, List.getD_cons_zero, Nat.reduceAdd, lowL_num]
    have e : UInt8.ofNat a12.toNat = a12 := by apply UInt8.toNat.inj; simp
    rw [e]
    constructor
    · rintro ⟨h1, h2⟩
      simp at h2
      obtain ⟨rfl, rfl, rfl, rfl, rfl⟩ := h2
      exact ⟨rfl, rfl, h1⟩
    · rintro ⟨h1, h2, h3⟩
      have ht : t = [] := by simpa using h1
      subst ht
      simp at h2
      obtain ⟨rfl, rfl, rfl, rfl⟩ := h2
      exact ⟨h3, rfl⟩
theorem rdV_no {s : ByteArray} (h : ¬ (c12 s ≤ 2 ∧ rdP s = s)) : rdV s = .tuple #[.agg #[.int .i64 0, .int .i64 0, .int .i64 0], .int .i64 4] := if_neg h
theorem rdV_yes {s : ByteArray} (h : c12 s ≤ 2 ∧ rdP s = s) : rdV s = .tuple #[.agg #[.int .i64 (numAt s 4), .int .i64 (numAt s 8), .int .i64 (c12 s)], .int .i64 0] := if_pos h

set_option maxHeartbeats 4000000 in
theorem readR_long (s : ByteArray) (h : 13 ≤ s.size) (hs : s.size ≤ maxLen) (w : World) :
    Calls Try.prog 17 #[.string s] w fun e w' => e = .returned (rdV s) ∧ Below w.heap.size w w' := by
  have h4 := lowNum_any (s.extract 4 s.size) (by simp; omega) (by simp; omega)
  have h8 := lowNum_any (s.extract 8 s.size) (by simp; omega) (by simp; omega)
  rw [numAt_extract s 4 (by omega)] at h4
  rw [numAt_extract s 8 (by omega)] at h8
  have G4 := Lib.hid h4
  have G8 := Lib.hid h8
  clear h4 h8
  have hc : c12 s = s[12].toNat := by unfold c12; rw [getB s 12 (by omega)]
  have hiff := rd_iff s h
  have hclt : s[12].toNat < 256 := s[12].toNat_lt
  unfold maxLen at hs
  have hwr : IntKind.i64.wrap (s[12].toNat : Int) = s[12].toNat := wrap_small _ (by omega)
  have j12 : (12 : Int) < s.size := by omega
  have h13 : (13 : Int) ≤ s.size := by omega
  have j4 : (4 : Int) ≤ s.size := by omega
  have j8 : (8 : Int) ≤ s.size := by omega
  have HC := Lib.hid hc
  have HI := Lib.hid hiff
  clear hc hiff
  go_enter Try.func17, Try.ntmps17
  go_wp2_with fail
  · have hno : ¬ (c12 s ≤ 2 ∧ rdP s = s) := by
      rw [HI.out, HC.out]
      rintro ⟨a, b, c⟩
      omega
    refine bodyPost_ret (v := .tuple #[.agg #[.int .i64 0, .int .i64 0, .int .i64 0], .int .i64 4]) (by simp [results, Try.results17, go_sem]) rfl ⟨congrArg Ending.returned (rdV_no hno).symm, ?_⟩
    go_grown
  · have hyes : c12 s ≤ 2 ∧ rdP s = s := by
      rw [HI.out, HC.out]
      refine ⟨by omega, by assumption, by omega⟩
    have hv := rdV_yes hyes
    rw [HC.out] at hv
    have HV := Lib.hid hv
    clear hv hyes
    have hz0 : w.heap.size + 1 ≤ (w.alloc (.cells #[.int .i64 0, .int .i64 0, .int .i64 0] 23)).heap.size := by simp
    refine wp_region_relT _ _ (List.take_append_drop 10 _).symm (by kernel_rfl) (by rfl) (fun w' => Below (w.heap.size + 1) (w.alloc (.cells #[.int .i64 0, .int .i64 0, .int .i64 0] 23)) w')
      (fun i v w' => match i with
        | 0 => v = .string s
        | 1 => v = .string (s.extract 4 s.size)
        | 2 => v = .int .i64 (numAt s 4)
        | 3 => v = .string s
        | 4 => v = .string (s.extract 8 s.size)
        | 5 => v = .int .i64 (numAt s 8)
        | 6 => v = .string s
        | 7 => v = .int .u8 s[12].toNat
        | 8 => v = .int .i64 s[12].toNat
        | 9 => v = .agg #[.int .i64 (numAt s 4), .int .i64 (numAt s 8), .int .i64 s[12].toNat]
        | _ => True) ?_ ?_ ?_ ?_
    · intro i v wq w2 h hS hS' hle
      match i, h with
      | 0, h => exact h
      | 1, h => exact h
      | 2, h => exact h
      | 3, h => exact h
      | 4, h => exact h
      | 5, h => exact h
      | 6, h => exact h
      | 7, h => exact h
      | 8, h => exact h
      | 9, h => exact h
      | n + 10, h => trivial
    · exact (Below.refl _ _).drew
    · refine ⟨?_, ?_, ?_, ?_, ?_, ?_, ?_, ?_, ?_, ?_, trivial⟩
      · refine ok_run rfl (fun x wq hS hd => ⟨.string s, wq, ?_, rfl, hS, Below.refl _ _⟩)
        simp [putAll, Act.put, go_sem]
      · refine ok_run rfl (fun x wq hS hd => ⟨.string (s.extract 4 s.size), wq, ?_, rfl, hS, Below.refl _ _⟩)
        have d0 : (x 0) = .string s := hd.1 rfl
        simp [putAll, Act.put, go_sem, d0, j4]
      · refine ok_call rfl (fun x wq hS hd => ⟨56, #[.string (s.extract 4 s.size)], ?_, (G4.out wq).mono ?_⟩)
        · have d1 : (x 1) = .string (s.extract 4 s.size) := hd.1 rfl
          simp [putAll, Act.put, go_sem, d1]
        · rintro e w2 ⟨rfl, hb⟩
          exact ⟨_, rfl, rfl, hS.trans (hb.mono (Nat.le_trans hz0 hS.size)), hb⟩
      · refine ok_run rfl (fun x wq hS hd => ⟨.string s, wq, ?_, rfl, hS, Below.refl _ _⟩)
        simp [putAll, Act.put, go_sem]
      · refine ok_run rfl (fun x wq hS hd => ⟨.string (s.extract 8 s.size), wq, ?_, rfl, hS, Below.refl _ _⟩)
        have d3 : (x 3) = .string s := hd.1 rfl
        simp [putAll, Act.put, go_sem, d3, j8]
      · refine ok_call rfl (fun x wq hS hd => ⟨56, #[.string (s.extract 8 s.size)], ?_, (G8.out wq).mono ?_⟩)
        · have d4 : (x 4) = .string (s.extract 8 s.size) := hd.1 rfl
          have d2 : (x 2) = .int .i64 (numAt s 4) := hd.2.1 rfl
          simp [putAll, Act.put, go_sem, d2, d4]
        · rintro e w2 ⟨rfl, hb⟩
          exact ⟨_, rfl, rfl, hS.trans (hb.mono (Nat.le_trans hz0 hS.size)), hb⟩
      · refine ok_run rfl (fun x wq hS hd => ⟨.string s, wq, ?_, rfl, hS, Below.refl _ _⟩)
        simp [putAll, Act.put, go_sem]
      · refine ok_run rfl (fun x wq hS hd => ⟨.int .u8 s[12].toNat, wq, ?_, rfl, hS, Below.refl _ _⟩)
        have d6 : (x 6) = .string s := hd.1 rfl
        simp [putAll, Act.put, go_sem, d6, j12]
      · refine ok_run rfl (fun x wq hS hd => ⟨.int .i64 s[12].toNat, wq, ?_, rfl, hS, Below.refl _ _⟩)
        have d7 : (x 7) = .int .u8 s[12].toNat := hd.1 rfl
        simp [putAll, Act.put, go_sem, d7, hwr]
      · refine ok_run rfl (fun x wq hS hd => ⟨.agg #[.int .i64 (numAt s 4), .int .i64 (numAt s 8), .int .i64 s[12].toNat], wq, ?_, rfl, hS, Below.refl _ _⟩)
        have d2 : (x 2) = .int .i64 (numAt s 4) := hd.1 rfl
        have d5 : (x 5) = .int .i64 (numAt s 8) := hd.2.1 rfl
        have d8 : (x 8) = .int .i64 s[12].toNat := hd.2.2.1 rfl
        simp [putAll, Act.put, go_sem, d2, d5, d8]
    · intro x wq hS hall
      have q9 : (x 9) = .agg #[.int .i64 (numAt s 4), .int .i64 (numAt s 8), .int .i64 s[12].toNat] := hall.2.2.2.2.2.2.2.2.2.1
      clear hall
      simp only [putAll, List.take_succ_cons, List.take_zero, List.drop_succ_cons, List.drop_zero, Act.put, List.setIfInBounds_toArray, List.set_cons_succ, List.set_cons_zero, Nat.zero_add, Nat.reduceAdd, q9]
      have k0 : wq.cell? ⟨w.heap.size, 0, none⟩ = some (.int .i64 0) := (hS.cell (by simp)).trans (by simp)
      have k1 : wq.cell? ⟨w.heap.size, 1, none⟩ = some (.int .i64 0) := (hS.cell (by simp)).trans (by simp)
      have k2 : wq.cell? ⟨w.heap.size, 2, none⟩ = some (.int .i64 0) := (hS.cell (by simp)).trans (by simp)
      have v0 : wq.frozen? ⟨w.heap.size, 0, none⟩ = false := (hS.frozen (by simp)).trans (by simp)
      have v1 : wq.frozen? ⟨w.heap.size, 1, none⟩ = false := (hS.frozen (by simp)).trans (by simp)
      have v2 : wq.frozen? ⟨w.heap.size, 2, none⟩ = false := (hS.frozen (by simp)).trans (by simp)
      have hbel : Below w.heap.size w wq := Below.trans ((Below.refl _ _).alloc (Nat.le_refl _) _) (hS.mono (by omega))
      clear hwr
      go_wp2_with fail
      refine bodyPost_ret (v := .tuple #[.agg #[.int .i64 (numAt s 4), .int .i64 (numAt s 8), .int .i64 s[12].toNat], .int .i64 0]) (by simp [results, Try.results17, go_sem, k0, k1, k2]) rfl ⟨congrArg Ending.returned HV.out.symm, ?_⟩
      exact ((hbel.setCell (Nat.le_refl _) _).setCell (Nat.le_refl _) _).setCell (Nat.le_refl _) _
  · have hno : ¬ (c12 s ≤ 2 ∧ rdP s = s) := by
      rw [HI.out]
      rintro ⟨a, b, c⟩
      exact absurd b (by assumption)
    refine bodyPost_ret (v := .tuple #[.agg #[.int .i64 0, .int .i64 0, .int .i64 0], .int .i64 4]) (by simp [results, Try.results17, go_sem]) rfl ⟨congrArg Ending.returned (rdV_no hno).symm, ?_⟩
    go_grown
  · have hno : ¬ (c12 s ≤ 2 ∧ rdP s = s) := by
      rw [HI.out]
      rintro ⟨a, b, c⟩
      omega
    refine bodyPost_ret (v := .tuple #[.agg #[.int .i64 0, .int .i64 0, .int .i64 0], .int .i64 4]) (by simp [results, Try.results17, go_sem]) rfl ⟨congrArg Ending.returned (rdV_no hno).symm, ?_⟩
    go_grown
end Go.Proofs.Ytpiamcafkjdfpaa
