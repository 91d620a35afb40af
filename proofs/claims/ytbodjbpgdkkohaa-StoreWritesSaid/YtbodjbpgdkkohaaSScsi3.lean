/- Commands of a disk: what is written, what is told; in plain Lean. -/
import Derived.Test.YtbodjbpgdkkohaaSScsi2
namespace Go.Proofs.Ytbodjbpgdkkohaa
open Go Go.RowKit
set_option linter.unusedVariables false

def pc (data : DTx) (k : Nat) : DTx := (data.take ((k + 1) * 16)).drop (k * 16)
def pcs (data : DTx) (k : Nat) : List DTx := (List.range k).map (pc data)
theorem pcs_len (data : DTx) (k : Nat) : (pcs data k).length = k := by simp [pcs]
theorem pcs_succ (data : DTx) (k : Nat) : pcs data (k + 1) = pcs data k ++ [pc data k] := by simp [pcs, List.range_succ]
theorem pc_len (data : DTx) (k : Nat) (h : (k + 1) * 16 ≤ data.length) : (pc data k).length = 16 := by
  unfold pc; rw [List.length_drop, List.length_take]; omega
theorem pcs_flat (data : DTx) : ∀ (k : Nat), k * 16 ≤ data.length → (pcs data k).flatten = data.take (k * 16)
  | 0, _ => by simp [pcs]
  | k + 1, h => by
    rw [pcs_succ, List.flatten_append, pcs_flat data k (by omega)]
    simp only [List.flatten_cons, List.flatten_nil, List.append_nil, pc]
    have e : data.take ((k + 1) * 16) = (data.take ((k + 1) * 16)).take (k * 16) ++ (data.take ((k + 1) * 16)).drop (k * 16) := (List.take_append_drop _ _).symm
    rw [e, List.take_take, show min (k * 16) ((k + 1) * 16) = k * 16 by omega]
    congr 1
    rw [List.drop_append_of_le_length (by rw [List.length_take]; omega), List.drop_of_length_le (by rw [List.length_take]; omega), List.nil_append]
def newD (D : List DTx) (l k : Nat) (data : DTx) : List DTx := D.take l ++ pcs data k ++ D.drop (l + k)
theorem newD_len (D : List DTx) (l k : Nat) (data : DTx) (h : l + k ≤ D.length) : (newD D l k data).length = D.length := by
  simp only [newD, List.length_append, List.length_take, pcs_len, List.length_drop]; omega
theorem newD_set (D : List DTx) (l k : Nat) (data : DTx) (h : l + k < D.length) : (newD D l k data).set (l + k) (pc data k) = newD D l (k + 1) data := by
  unfold newD
  have hl : (D.take l ++ pcs data k).length = l + k := by rw [List.length_append, List.length_take, pcs_len]; omega
  rw [dropE D (l + k) [] h, List.set_append_right _ _ (by omega), hl, Nat.sub_self, List.set_cons_zero, pcs_succ]
  simp [Nat.add_assoc]
theorem all16_iff (D : List DTx) : all16 D = true ↔ ∀ b ∈ D, b.length = 16 := by simp [all16]
theorem flat_len : ∀ (D : List DTx), (∀ b ∈ D, b.length = 16) → D.flatten.length = 16 * D.length
  | [], _ => rfl
  | b :: D, h => by
    rw [List.flatten_cons, List.length_append, flat_len D (fun x hx => h x (List.mem_cons_of_mem _ hx)), h b (List.mem_cons_self ..), List.length_cons]; omega
theorem flat_take (D : List DTx) (h : ∀ b ∈ D, b.length = 16) (k : Nat) (hk : k ≤ D.length) : D.flatten.take (16 * k) = (D.take k).flatten := by
  have e : D.flatten = (D.take k).flatten ++ (D.drop k).flatten := by rw [← List.flatten_append, List.take_append_drop]
  have hl : (D.take k).flatten.length = 16 * k := by
    rw [flat_len _ (fun b hb => h b (List.mem_of_mem_take hb)), List.length_take, Nat.min_eq_left hk]
  rw [e, List.take_append_of_le_length (by omega), List.take_of_length_le (by omega)]
theorem flat_drop (D : List DTx) (h : ∀ b ∈ D, b.length = 16) (k : Nat) (hk : k ≤ D.length) : D.flatten.drop (16 * k) = (D.drop k).flatten := by
  have e : D.flatten = (D.take k).flatten ++ (D.drop k).flatten := by rw [← List.flatten_append, List.take_append_drop]
  have hl : (D.take k).flatten.length = 16 * k := by
    rw [flat_len _ (fun b hb => h b (List.mem_of_mem_take hb)), List.length_take, Nat.min_eq_left hk]
  rw [e, List.drop_append_of_le_length (by omega), List.drop_of_length_le (by omega), List.nil_append]
theorem join_flat (D : List DTx) : Lib.join D [] = D.flatten := by
  unfold Lib.join
  induction D with
  | nil => rfl
  | cons x D ih =>
    cases D with
    | nil => simp [List.intercalate]
    | cons y D => simp [List.intercalate] at ih ⊢; exact ih
/-- what a command tells -/
def outV (D : List DTx) (sn : Int) (c : DTx) : DTx :=
  if by' c 0 = 3 then ([112, 0, UInt8.ofNat (if sn = 0 then 0 else 5), 0, 0, 0, 0, 10, 0, 0, 0, 0, UInt8.ofNat sn.toNat, 0, 0, 0, 0, 0] : DTx).take (by' c 4)
  else if by' c 0 = 18 then ([0, 128, 4, 2, 31, 0, 0, 0, 112, 108, 117, 103, 116, 114, 101, 101, 100, 105, 115, 107, 32, 32, 32, 32, 32, 32, 32, 32, 32, 32, 32, 32, 49, 32, 32, 32] : DTx).take (by' c 4)
  else if by' c 0 = 26 then ([3, 0, 0, 0] : DTx).take (by' c 4)
  else if by' c 0 = 37 then [0, 0, 0, UInt8.ofNat (D.length - 1), 0, 0, 0, 16]
  else if by' c 0 = 40 then ((D.take (lbaV c + cntV c)).drop (lbaV c)).flatten
  else []
def doV (D : List DTx) (sn : Int) (c data : DTx) : List DTx × Int × DTx × Int :=
  if diskV D sn ≠ 0 then (D, sn, [], diskV D sn)
  else if (senV D c data).1 ≠ 0 then (D, (senV D c data).1, [], 14)
  else (if by' c 0 = 42 then newD D (lbaV c) (cntV c) data else D, 0, outV D sn c, 0)
theorem firstP (n : Nat) (s : DTx) (hs : s.length ≤ 1000) (v : Nat) (hv : v < 256) : F54 n s (v : Int) = some (s.take v) := by
  unfold F54
  rw [w64n v (by omega)]
  by_cases h : (v : Int) < ((s.length : Nat) : Int)
  · rw [if_pos h, show subB s.length none (some (v : Int)) = true by simp [subB]; omega]; rfl
  · rw [if_neg h, show subB s.length none (some ((s.length : Nat) : Int)) = true by simp [subB], Int.toNat_natCast, List.take_of_length_le (Nat.le_refl _), List.take_of_length_le (by omega)]; rfl
theorem longP (n : Nat) (x : Nat) (hx : x < 256) : F55 n (x : Int) = some [0, 0, 0, UInt8.ofNat x] := by
  unfold F55
  have s1 : shrI .i64 (x : Int) 24 = 0 := by
    have := shr_div .i64 (x : Int) 24 (by simp [IntKind.bits])
    rw [show ((24 : Nat) : Int) = 24 from rfl] at this
    rw [this, show (2 : Int) ^ 24 = 16777216 from rfl]; omega
  have s2 : shrI .i64 (x : Int) 16 = 0 := by
    have := shr_div .i64 (x : Int) 16 (by simp [IntKind.bits])
    rw [show ((16 : Nat) : Int) = 16 from rfl] at this
    rw [this, show (2 : Int) ^ 16 = 65536 from rfl]; omega
  have s3 : shrI .i64 (x : Int) 8 = 0 := by
    have := shr_div .i64 (x : Int) 8 (by simp [IntKind.bits])
    rw [show ((8 : Nat) : Int) = 8 from rfl] at this
    rw [this, show (2 : Int) ^ 8 = 256 from rfl]; omega
  rw [s1, s2, s3, show IntKind.wrap .u8 (x : Int) = (x : Int) by rw [u8w]; omega]
  rfl
theorem high1 (n : Nat) (hn : 100 < n) (x : Nat) (hx : x < 256) : F27 n (x : Int) 1 = some [UInt8.ofNat x] := by
  obtain ⟨q, rfl⟩ : ∃ q, n = q + 10 := ⟨n - 10, by omega⟩
  have e : ∀ y : Int, F27 (q + 10) y 1 = some (strOf [IntKind.wrap .u8 (y.tmod 256)] ++ []) := fun y => by kernel_rfl
  rw [e, Int.tmod_eq_emod_of_nonneg (by omega), show IntKind.wrap .u8 ((x : Int) % 256) = (x : Int) by rw [u8w]; omega]; rfl
theorem high4 (n : Nat) (hn : 100 < n) (x : Nat) (hx : x < 256) : F27 n (x : Int) 4 = some [0, 0, 0, UInt8.ofNat x] := by
  obtain ⟨q, rfl⟩ : ∃ q, n = q + 10 := ⟨n - 10, by omega⟩
  have e : ∀ y : Int, F27 (q + 10) y 4 = some (strOf [IntKind.wrap .u8 ((IntKind.wrap .i64 ((IntKind.wrap .i64 ((IntKind.wrap .i64 (y.tdiv 256)).tdiv 256)).tdiv 256)).tmod 256)] ++ (strOf [IntKind.wrap .u8 ((IntKind.wrap .i64 ((IntKind.wrap .i64 (y.tdiv 256)).tdiv 256)).tmod 256)] ++ (strOf [IntKind.wrap .u8 ((IntKind.wrap .i64 (y.tdiv 256)).tmod 256)] ++ (strOf [IntKind.wrap .u8 (y.tmod 256)] ++ [])))) := fun y => by kernel_rfl
  rw [e, show (x : Int).tdiv 256 = 0 by rw [Int.tdiv_eq_ediv_of_nonneg (by omega)]; omega, Int.tmod_eq_emod_of_nonneg (show (0 : Int) ≤ (x : Int) by omega), show IntKind.wrap .u8 ((x : Int) % 256) = (x : Int) by rw [u8w]; omega]
  rfl
theorem sub16h (m : Nat) (h : 16 ≤ m) : subB m none (some 16) = true := by simp [subB]; omega
theorem sub16l (m : Nat) (h : 16 ≤ m) : subB m (some 16) none = true := by simp [subB]; omega
theorem chunkL (n : Nat) (hn : 2000 < n) (o : DTx) (E : List DTx) (hE : ∀ b ∈ E, b.length = 16) (hl : E.length ≤ 64) : loopF (F9_l7 n o) n (E.flatten, []) = some (E, 0, o, 0) := by
  refine loopF_eq (F9_l7 n o) (fun _ => some (E, 0, o, 0)) (fun d => ∃ k : Nat, k ≤ E.length ∧ d = ((E.drop k).flatten, E.take k)) (fun d => d.1.length) ?_ n (E.flatten, []) ⟨0, by omega, by simp⟩ (by simp only; rw [flat_len E hE]; omega) |> fun h => h
  rintro kk d ⟨k, hk, rfl⟩ ih
  simp only [F9_l7]
  by_cases hkl : k < E.length
  · have hb : (E.getD k []).length = 16 := by
      rw [List.getD_eq_getElem?_getD, List.getElem?_eq_getElem hkl]; exact hE _ (List.getElem_mem hkl)
    have ed : (E.drop k).flatten = E.getD k [] ++ (E.drop (k + 1)).flatten := by rw [dropE E k [] hkl, List.flatten_cons]
    have hne : ((E.drop k).flatten == []) = false := beq_eq_false_iff_ne.2 (by rw [ed]; intro h; have := congrArg List.length h; simp only [List.length_append, List.length_nil] at this; omega)
    have hlen : 16 ≤ (E.drop k).flatten.length := by rw [ed, List.length_append]; omega
    have et : (E.drop k).flatten.take 16 = E.getD k [] := by rw [ed, List.take_append_of_le_length (by omega), List.take_of_length_le (by omega)]
    have er : (E.drop k).flatten.drop 16 = (E.drop (k + 1)).flatten := by rw [ed, List.drop_append_of_le_length (by omega), List.drop_of_length_le (by omega), List.nil_append]
    rw [hne, sub16h _ hlen, sub16l _ hlen, et, er, decide_eq_true (by simp only [List.length_take, List.length_cons, List.length_nil]; omega)]
    simp only [Bool.not_false, cond_true]
    refine ih _ ⟨k + 1, by omega, ?_⟩ ?_
    · rw [List.take_add_one, List.getD_eq_getElem?_getD]; simp [hkl]
    · simp only; rw [ed, List.length_append]; omega
  · obtain rfl : k = E.length := by omega
    rw [List.drop_of_length_le (Nat.le_refl _), List.take_of_length_le (Nat.le_refl _)]; rfl
theorem j5P (n : Nat) (hn : 2000 < n) (c : DTx) (E : List DTx) (hE : ∀ b ∈ E, b.length = 16) (hl : E.length ≤ 64) (o : DTx) (ho : o.length ≤ 2000) :
    F9_j5 n c (E.flatten, o) = some (E, 0, if c.length = 6 then o.take (by' c 4) else o, 0) := by
  have hb := by_lt c 4
  have hb2 : (c.getD 4 0).toNat = by' c 4 := rfl
  simp only [F9_j5, hb2, Int.toNat_natCast]
  by_cases h6 : c.length = 6
  · rw [show (((c.length : Nat) : Int) == 6) = true from beq_iff_eq.2 (by omega), inb_true (by omega) (by omega), if_pos h6, w64n _ (by omega)]
    simp only [cond_true]
    by_cases hgt : by' c 4 < o.length
    · rw [decide_eq_true (by omega), show subB o.length none (some ((by' c 4 : Nat) : Int)) = true by simp [subB]; omega]
      simp only [cond_true, F9_j6]
      exact chunkL n hn _ E hE hl
    · rw [decide_eq_false (by omega), List.take_of_length_le (by omega)]
      simp only [cond_false, F9_j6]
      exact chunkL n hn _ E hE hl
  · rw [show (((c.length : Nat) : Int) == 6) = false from beq_eq_false_iff_ne.2 (by omega), if_neg h6]
    simp only [cond_false]
    have : F9_l8 n o = F9_l7 n o := rfl
    rw [this]
    exact chunkL n hn _ E hE hl
theorem writeL (n : Nat) (hn : 70000 < n) (D : List DTx) (c data : DTx) (h1 : lbaV c + cntV c ≤ D.length) (hD : D.length ≤ 64) (hd : data.length = 16 * cntV c) : loopF (F8_l34 n c data) n (0, D) = some (newD D (lbaV c) (cntV c) data, 0, [], 0) := by
  refine loopF_eq (F8_l34 n c data) (fun _ => some (newD D (lbaV c) (cntV c) data, 0, [], 0)) (fun d => ∃ k : Nat, k ≤ cntV c ∧ d = ((k : Int), newD D (lbaV c) k data)) (fun d => cntV c - d.1.toNat) ?_ n (0, D) ⟨0, by omega, by simp [newD, pcs]⟩ (by simp; omega)
  rintro kk d ⟨k, hk, rfl⟩ ih
  simp only [F8_l34, cntBits, lbaBits]
  by_cases hkc : k < cntV c
  · have e1 : IntKind.wrap .i64 (IntKind.wrap .i64 ((k : Int) + 1) * 16) = (((k + 1) * 16 : Nat) : Int) := by rw [w64 (n := (k : Int) + 1) (by omega) (by omega), w64 (by omega) (by omega)]; omega
    have e2 : IntKind.wrap .i64 ((k : Int) * 16) = ((k * 16 : Nat) : Int) := by rw [w64 (by omega) (by omega)]; omega
    have e3 : IntKind.wrap .i64 (((lbaV c : Nat) : Int) + (k : Int)) = ((lbaV c + k : Nat) : Int) := by rw [w64 (by omega) (by omega)]; omega
    have hln := newD_len D (lbaV c) k data (by omega)
    rw [decide_eq_true (show (k : Int) < ((cntV c : Nat) : Int) by omega), e1, e2, e3, w64 (n := (k : Int) + 1) (by omega) (by omega), show subB data.length (some ((k * 16 : Nat) : Int)) (some (((k + 1) * 16 : Nat) : Int)) = true by simp [subB]; omega, inb_true (by omega) (by rw [hln]; omega)]
    simp only [cond_true, Int.toNat_natCast]
    refine ih _ ⟨k + 1, by omega, ?_⟩ (by simp only [Int.toNat_natCast]; omega)
    rw [← newD_set D (lbaV c) k data (by omega)]; rfl
  · obtain rfl : k = cntV c := by omega
    rw [decide_eq_false (by omega)]; rfl
theorem newD_flat (D : List DTx) (hD : ∀ b ∈ D, b.length = 16) (l k : Nat) (data : DTx) (h : l + k ≤ D.length) (hd : data.length = 16 * k) : (newD D l k data).flatten = D.flatten.take (16 * l) ++ data ++ D.flatten.drop (16 * (l + k)) := by
  unfold newD
  rw [List.flatten_append, List.flatten_append, pcs_flat data k (by omega), List.take_of_length_le (l := data) (i := k * 16) (by omega), flat_take D hD l (by omega), flat_drop D hD (l + k) h]
theorem newD_16 (D : List DTx) (hD : ∀ b ∈ D, b.length = 16) (l k : Nat) (data : DTx) (hd : data.length = 16 * k) : ∀ b ∈ newD D l k data, b.length = 16 := by
  intro b hb
  unfold newD at hb
  rcases List.mem_append.1 hb with hb | hb
  · rcases List.mem_append.1 hb with hb | hb
    · exact hD b (List.mem_of_mem_take hb)
    · simp only [pcs, List.mem_map, List.mem_range] at hb
      obtain ⟨i, hi, rfl⟩ := hb
      exact pc_len data i (by omega)
  · exact hD b (List.mem_of_mem_drop hb)
theorem disk0 {D : List DTx} {sn : Int} (h : diskV D sn = 0) : (1 ≤ D.length ∧ D.length ≤ 64) ∧ (∀ b ∈ D, b.length = 16) ∧ (sn = 0 ∨ sn = 32 ∨ sn = 33 ∨ sn = 36) := by
  unfold diskV at h
  split at h
  · simp at h
  rename_i h1
  split at h
  · simp at h
  rename_i h2
  split at h
  · rename_i h3
    refine ⟨by omega, (all16_iff D).1 (by simpa using h2), ?_⟩
    simpa using h3
  · simp at h
/-- a command whose form is right -/
theorem form0 {c : DTx} (h : formV c = 0) : c ≠ [] ∧ (by' c 0 = 0 ∨ by' c 0 = 3 ∨ by' c 0 = 18 ∨ by' c 0 = 26 ∨ by' c 0 = 37 ∨ by' c 0 = 40 ∨ by' c 0 = 42 ∨ by' c 0 = 53) ∧ c.length = (if by' c 0 < 32 then 6 else 10) := by
  unfold formV at h
  split at h
  · simp at h
  rename_i h0
  split at h
  · simp at h
  rename_i u m hcl
  obtain ⟨_, hm, _⟩ := cls_ok hcl
  split at h
  · simp at h
  rename_i hl
  refine ⟨h0, ?_, ?_⟩
  · unfold cls at hcl
    repeat' split at hcl
    all_goals first | omega | cases hcl
  · rw [show c.length = m.length by omega, hm]
    by_cases h32 : by' c 0 < 32
    · rw [if_pos h32, if_pos (by omega)]
    · rw [if_neg h32, if_neg (by omega)]
end Go.Proofs.Ytbodjbpgdkkohaa
