/- The walk of the law PacketReads. -/
import Derived.Test.YtbeilpecdimheaaRRead
import Derived.Test.YtbeilpecdimheaaKCls
namespace Go.Proofs.Ytbeilpecdimheaa
open Go.RowKit
set_option linter.unusedVariables false
set_option maxRecDepth 100000

theorem ext_list (s : ByteArray) (a b : Nat) : (s.extract a b).data.toList = (s.data.toList.take b).drop a := by
  simp [ByteArray.data_extract, Array.toList_extract, List.extract_eq_take_drop, List.drop_take]
theorem bytes_eq {a b : ByteArray} (h : a.data.toList = b.data.toList) : a = b := by
  cases a; cases b; simp at h; simp [h]
theorem ext_get (s : ByteArray) (a i : Nat) (h : i < (s.extract a s.size).size) (h2 : i + a < s.size) : (s.extract a s.size)[i] = s[i + a] := by
  have h3 : (s.extract a s.size).data.toList[i]? = s.data.toList[i + a]? := by
    rw [ext_list, List.take_of_length_le (by simp), List.getElem?_drop, Nat.add_comm]
  have e1 : (s.extract a s.size).data.toList[i]? = some (s.extract a s.size)[i] := by
    rw [Array.getElem?_toList]
    exact Array.getElem?_eq_getElem h
  have e2 : s.data.toList[i + a]? = some s[i + a] := by
    rw [Array.getElem?_toList]
    exact Array.getElem?_eq_getElem h2
  rw [e1, e2] at h3
  exact Option.some.inj h3
theorem two_same (lo hi : UInt8) (c : Nat) (hc : c < 65536) : ([lo, hi] = twoL c) ↔ (lo.toNat + 256 * hi.toNat = c) := by
  have h1 := lo.toNat_lt
  have h2 := hi.toNat_lt
  unfold twoL
  constructor
  · intro h
    simp at h
    obtain ⟨rfl, rfl⟩ := h
    simp at *
    omega
  · intro h
    subst h
    have e1 : UInt8.ofNat (lo.toNat + 256 * hi.toNat) = lo := by apply UInt8.toNat.inj; simp <;> omega
    have e2 : UInt8.ofNat ((lo.toNat + 256 * hi.toNat) / 256) = hi := by apply UInt8.toNat.inj; simp <;> omega
    rw [e1, e2]
def RetPkt (k a e f : Int) (d : ByteArray) (err : Int) : Value := .tuple #[.agg #[.int .i64 k, .int .i64 a, .int .i64 e, .int .i64 f, .string d], .int .i64 err]
/-- both answer the same -/
def Both (s : ByteArray) : Prop := ∃ (k a e f : Int) (d : ByteArray) (err : Int),
  (∀ w, Calls Try.prog 15 #[.string s] w fun r w' => r = .returned (RetPkt k a e f d err) ∧ Below w.heap.size w w') ∧
  (∀ w, Calls Try.prog 16 #[.string s] w fun r w' => r = .returned (RetPkt k a e f d err) ∧ Below w.heap.size w w')
theorem five_lt (n : Nat) : fiveC n < 32 := by
  unfold fiveC
  split
  · decide
  · exact Nat.xor_lt_two_pow (n := 5) (feedN_lt (m := 5) (by decide) (by decide) 11) (by decide)
theorem both_ts (s : ByteArray) (h0 : 0 < s.size) (hs : s.size ≤ maxLen) (h3 : s.size = 3) (b k q : Nat) (hqk : q + k = 15) (tk br : Bool) (hF : HeadF s h0 b k q true tk false) (hR : HeadR s h0 b k q true false false)
    (hcls : (tk = true ∧ ((k : Int) == 5) = false) ∨ (tk = false ∧ ((k : Int) == 5) = true)) : Both s := by
  have hz : (s.extract 1 s.size).size = 2 := by simp <;> omega
  have hF1 := fiveP_any ((s[1].toNat + 256 * s[2].toNat) % 2048) (by omega)
  have hR1 := fiveR_any ((s[1].toNat + 256 * s[2].toNat) % 2048) (by omega)
  rw [← five_same] at hR1
  have hf := five_lt ((s[1].toNat + 256 * s[2].toNat) % 2048)
  have e1 : (s.extract 1 s.size)[0].toNat = s[1].toNat := by rw [ext_get s 1 0 (by omega) (by omega)]
  have e2 : (s.extract 1 s.size)[0 + 1].toNat = s[2].toNat := by rw [ext_get s 1 1 (by omega) (by omega)]
  generalize hn : s[1].toNat + 256 * s[2].toNat = n at *
  generalize fiveC (n % 2048) = f at *
  simp only [Int.natCast_emod, Int.cast_ofNat_Int] at hF1 hR1
  by_cases hc : (n : Int) / 2048 = f
  · have c1 : (((n : Int) / 2048) != (f : Int)) = false := by simp [hc]
    have c2 : ((f : Int) != ((n : Int) / 2048)) = false := by simp [hc]
    rcases hcls with ⟨rfl, h5⟩ | ⟨rfl, h5⟩
    · exact ⟨_, _, _, _, _, _, pread_tok_ok s h0 b k q hF hqk _ rfl 0 hz (by decide) _ _ n e1 e2 hn rfl f hf _ hF1 h5 c1, rread_tok_ok s h0 hs b k q hR hqk (by omega) (by omega) _ _ n rfl rfl hn f hf _ hR1 h5 c2⟩
    · exact ⟨_, _, _, _, _, _, pread_sof_ok s h0 b k q hF hqk _ rfl 0 hz (by decide) _ _ n e1 e2 hn rfl f hf _ hF1 h5 c1, rread_sof_ok s h0 hs b k q hR hqk (by omega) (by omega) _ _ n rfl rfl hn f hf _ hR1 h5 c2⟩
  · have c1 : (((n : Int) / 2048) != (f : Int)) = true := by simp [hc]
    have c2 : ((f : Int) != ((n : Int) / 2048)) = true := by simp; omega
    rcases hcls with ⟨rfl, h5⟩ | ⟨rfl, h5⟩
    · exact ⟨_, _, _, _, _, _, pread_tok_no s h0 b k q hF hqk _ rfl 0 hz (by decide) _ _ n e1 e2 hn rfl f hf _ hF1 c1, rread_ts_no s h0 hs b k q hR hqk (by omega) (by omega) _ _ n rfl rfl hn f hf _ hR1 c2⟩
    · exact ⟨_, _, _, _, _, _, pread_sof_no s h0 b k q hF hqk _ rfl 0 hz (by decide) _ _ n e1 e2 hn rfl f hf _ hF1 h5 c1, rread_ts_no s h0 hs b k q hR hqk (by omega) (by omega) _ _ n rfl rfl hn f hf _ hR1 c2⟩
theorem both_dat (s : ByteArray) (h0 : 0 < s.size) (hs : s.size ≤ maxLen) (h3 : 3 ≤ s.size) (h67 : s.size ≤ 67) (b k q : Nat) (hqk : q + k = 15) (hF : HeadF s h0 b k q true false true) (hR : HeadR s h0 b k q true false true)
    (h5 : ((k : Int) == 5) = false) : Both s := by
  obtain ⟨m, hm⟩ : ∃ m, s.size = m + 3 := ⟨s.size - 3, by omega⟩
  have hz : (s.extract 1 s.size).size = m + 2 := by simp <;> omega
  have hd : (s.extract 1 s.size).extract 0 m = s.extract 1 (m + 1) := by
    apply bytes_eq
    rw [ext_list, ext_list, ext_list, List.drop_zero, List.take_of_length_le (l := s.data.toList) (by simp), List.drop_take]
    rfl
  have hds : (s.extract 1 (m + 1)).size = m := by simp <;> omega
  have h6 := sixteen_any (s.extract 1 (m + 1)) (by unfold maxLen; omega)
  have hM := moreR_any 0 (by decide) (s.extract 1 (m + 1)) (by omega)
  have hsame := more_same 0 (by decide) (s.extract 1 (m + 1)).data.toList
  rw [Nat.sub_zero] at hsame
  rw [← hsame] at hM
  have hlt : 65535 - moreC 65535 (s.extract 1 (m + 1)).data.toList < 65536 := by omega
  generalize hc : 65535 - moreC 65535 (s.extract 1 (m + 1)).data.toList = c at *
  have hT := twoBytes_any c (by omega)
  have e1 : (s.extract 1 s.size)[m].toNat = s[m + 1].toNat := by rw [ext_get s 1 m (by omega) (by omega)]
  have e2 : (s.extract 1 s.size)[m + 1].toNat = s[m + 2].toNat := by rw [ext_get s 1 (m + 1) (by omega) (by omega)]
  have e3 : (s.extract (m + 1) s.size).toList = [s[m + 1], s[m + 2]] := by
    rw [ByteArray.toList_eq, ext_list]
    apply List.ext_getElem?
    intro i
    rw [List.getElem?_drop]
    match i with
    | 0 => simp [hm]; rfl
    | 1 => simp [hm]; rfl
    | i + 2 => simp [hm]; omega
  have e4 : (⟨(twoL c).toArray⟩ : ByteArray).toList = twoL c := by rw [ByteArray.toList_eq]
  have hiff := two_same s[m + 1] s[m + 2] c hlt
  generalize hn : s[m + 1].toNat + 256 * s[m + 2].toNat = n at *
  by_cases hnc : n = c
  · have c1 : ((n : Int) != (c : Int)) = false := by simp [hnc]
    have c2 : ((s.extract (m + 1) s.size).toList == (⟨(twoL c).toArray⟩ : ByteArray).toList) = true := by rw [e3, e4, hiff.2 hnc]; simp
    exact ⟨_, _, _, _, _, _, pread_dat_ok s h0 b k q hF hqk _ rfl m hz (by omega) _ _ n e1 e2 hn h5 _ hd c h6 c1, rread_dat_ok s h0 hs b k q hR hqk m (by omega) (by omega) (by omega) _ _ rfl rfl c hlt _ hM hT c2⟩
  · have c1 : ((n : Int) != (c : Int)) = true := by simp; omega
    have c2 : ((s.extract (m + 1) s.size).toList == (⟨(twoL c).toArray⟩ : ByteArray).toList) = false := by
      rw [e3, e4]
      simp only [beq_eq_false_iff_ne, ne_eq]
      exact fun e => hnc (hiff.1 e)
    exact ⟨_, _, _, _, _, _, pread_dat_no s h0 b k q hF hqk _ rfl m hz (by omega) _ _ n e1 e2 hn h5 _ hd c h6 c1, rread_dat_no s h0 hs b k q hR hqk m (by omega) (by omega) (by omega) _ _ rfl rfl c hlt _ hM hT c2⟩
theorem both_any (s : ByteArray) (hs : s.size ≤ maxLen) : Both s := by
  by_cases h0 : 0 < s.size
  · obtain ⟨b, k, q, hF, hR⟩ : ∃ b k q, HeadF s h0 b k q (knownK k) (tokK k) (datK k) ∧ HeadR s h0 b k q (knownK k) (bareK k) (datK k) := ⟨_, _, _, headF s h0, headR s h0⟩
    by_cases hqk : q + k = 15
    · rcases kcls (k : Int) with ⟨h1, h2, h3, h4, h5, h6, h7⟩ | ⟨h1, h2, h3, h4, h5, h6, h7⟩ | ⟨h1, h2, h3, h4, h5, h6, h7⟩ | ⟨h1, h2, h3, h4, h5, h6, h7⟩ | ⟨h1, h2, h3, h4, h5, h6, h7⟩
      all_goals rw [h4, h1, h2] at hF
      all_goals rw [h4, h3, h2] at hR
      · rcases Nat.lt_trichotomy s.size 3 with hl | hl | hl
        · exact ⟨_, _, _, _, _, _, pread_tok_short s h0 hs b k q hF hqk hl, rread_short s h0 hs b k q _ hR hqk hl⟩
        · exact both_ts s h0 hs hl b k q hqk _ false hF hR (.inl ⟨rfl, h5⟩)
        · exact ⟨_, _, _, _, _, _, pread_tok_long s h0 hs b k q hF hqk hl, rread_long s h0 hs b k q hR hqk hl⟩
      · by_cases hl : s.size < 3
        · exact ⟨_, _, _, _, _, _, pread_dat_short s h0 hs b k q hF hqk hl h5, rread_short s h0 hs b k q _ hR hqk hl⟩
        · by_cases hl2 : 67 < s.size
          · exact ⟨_, _, _, _, _, _, pread_dat_long s h0 hs b k q hF hqk hl2 h5, rread_dat_long s h0 hs b k q hR hqk hl2⟩
          · exact both_dat s h0 hs (by omega) (by omega) b k q hqk hF hR h5
      · by_cases hl : 1 < s.size
        · exact ⟨_, _, _, _, _, _, pread_bare_long s h0 hs b k q hF hqk h5 hl, rread_bare_long s h0 hs b k q _ hR hqk hl⟩
        · exact ⟨_, _, _, _, _, _, pread_bare s h0 hs b k q hF hqk h5 (by omega), rread_bare s h0 hs b k q _ hR hqk (by omega)⟩
      · rcases Nat.lt_trichotomy s.size 3 with hl | hl | hl
        · exact ⟨_, _, _, _, _, _, pread_sof_short s h0 hs b k q hF hqk hl h5, rread_short s h0 hs b k q _ hR hqk hl⟩
        · exact both_ts s h0 hs hl b k q hqk _ false hF hR (.inr ⟨rfl, h5⟩)
        · exact ⟨_, _, _, _, _, _, pread_sof_long s h0 hs b k q hF hqk hl h5, rread_long s h0 hs b k q hR hqk hl⟩
      · exact ⟨_, _, _, _, _, _, pread_unknown s h0 hs b k q _ _ hF hqk, rread_unknown s h0 hs b k q _ _ hR hqk⟩
    · exact ⟨_, _, _, _, _, _, pread_odd s h0 hs b k q _ _ _ hF hqk, rread_odd s h0 hs b k q _ _ _ hR hqk⟩
  · obtain rfl : s = ⟨#[]⟩ := by
      apply ByteArray.ext
      have : s.data.size = 0 := by
        have : s.data.size = s.size := rfl
        omega
      exact Array.eq_empty_of_size_eq_zero this
    exact ⟨_, _, _, _, _, _, pread_empty, rread_empty⟩

set_option maxHeartbeats 1000000 in
theorem packetReads_walk (s : ByteArray) (hs : s.size ≤ maxLen) (w : World) :
    Calls Try.prog 3 #[.string s] w fun e w' => e = .returned (.bool true) ∧ Below w.heap.size w w' := by
  obtain ⟨k, a, e, f, d, err, hP, hR⟩ := both_any s hs
  unfold RetPkt at hP hR
  have HP := Lib.hid hP
  have HR := Lib.hid hR
  clear hP hR hs
  go_enter Try.func3, Try.ntmps3
  go_wp2_with fail
  refine (HP.out _).mono ?_
  rintro r_w1 w1 ⟨rfl, hb_w1⟩
  have B_w1 : Below w.heap.size w w1 := by first | exact hb_w1 | exact ((Below.refl _ _).alloc (Nat.le_refl _) _).trans (hb_w1.mono (by simp)) | exact (((Below.refl _ _).alloc (Nat.le_refl _) _).alloc (by simp) _).trans (hb_w1.mono (by simp; omega)) | exact Below.trans (by go_grown) (hb_w1.mono (by simp; omega))
  clear hb_w1
  go_wp2_with fail
  refine (HR.out _).mono ?_
  rintro r_w2 w2 ⟨rfl, hb_w2⟩
  have B_w2 : Below w.heap.size w w2 := by first | exact B_w1.trans (hb_w2.mono B_w1.size) | exact (B_w1.alloc B_w1.size _).trans (hb_w2.mono (by have := B_w1.size; simp; omega)) | exact ((B_w1.alloc B_w1.size _).alloc (by have := B_w1.size; simp; omega) _).trans (hb_w2.mono (by have := B_w1.size; simp; omega)) | (have := B_w1.size; exact Below.trans (by go_grown) (hb_w2.mono (by simp; omega)))
  have z_w2_0 : w1.heap.size < w2.heap.size := by have := hb_w2.size; first | omega | (simp at this; omega)
  have c_w2_0_0 : w2.cell? ⟨w1.heap.size, 0, none⟩ = some (.int .i64 k) := (hb_w2.cell (by first | assumption | (simp; done) | (simp; omega))).trans (by first | assumption | (simp; done) | (simp [go_sem]; done) | (simp [*]; done) | ((repeat rw [World.cell?_alloc_lt _ _ _ (by first | (simp; done) | (simp; omega) | omega)]); first | assumption | (simp; done)))
  have c_w2_0_1 : w2.cell? ⟨w1.heap.size, 1, none⟩ = some (.int .i64 a) := (hb_w2.cell (by first | assumption | (simp; done) | (simp; omega))).trans (by first | assumption | (simp; done) | (simp [go_sem]; done) | (simp [*]; done) | ((repeat rw [World.cell?_alloc_lt _ _ _ (by first | (simp; done) | (simp; omega) | omega)]); first | assumption | (simp; done)))
  have c_w2_0_2 : w2.cell? ⟨w1.heap.size, 2, none⟩ = some (.int .i64 e) := (hb_w2.cell (by first | assumption | (simp; done) | (simp; omega))).trans (by first | assumption | (simp; done) | (simp [go_sem]; done) | (simp [*]; done) | ((repeat rw [World.cell?_alloc_lt _ _ _ (by first | (simp; done) | (simp; omega) | omega)]); first | assumption | (simp; done)))
  have c_w2_0_3 : w2.cell? ⟨w1.heap.size, 3, none⟩ = some (.int .i64 f) := (hb_w2.cell (by first | assumption | (simp; done) | (simp; omega))).trans (by first | assumption | (simp; done) | (simp [go_sem]; done) | (simp [*]; done) | ((repeat rw [World.cell?_alloc_lt _ _ _ (by first | (simp; done) | (simp; omega) | omega)]); first | assumption | (simp; done)))
  have c_w2_0_4 : w2.cell? ⟨w1.heap.size, 4, none⟩ = some (.string d) := (hb_w2.cell (by first | assumption | (simp; done) | (simp; omega))).trans (by first | assumption | (simp; done) | (simp [go_sem]; done) | (simp [*]; done) | ((repeat rw [World.cell?_alloc_lt _ _ _ (by first | (simp; done) | (simp; omega) | omega)]); first | assumption | (simp; done)))
  clear B_w1 hb_w2
  go_wp2_with fail
  go_ret
  exact ⟨rfl, B_w2.alloc B_w2.size _⟩
end Go.Proofs.Ytbeilpecdimheaa
