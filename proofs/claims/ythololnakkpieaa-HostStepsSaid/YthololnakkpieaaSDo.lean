/- The law SlotsDo, in plain Lean (first part: the searches). -/
import Derived.Test.YthololnakkpieaaSBoardV
namespace Go.Proofs.Ythololnakkpieaa
open Go Go.RowKit
open Classical
set_option linter.unusedVariables false

abbrev BB (x y : Slots) : Bool := Sh.beq (.st (.arr 9 (.st (.pair (.int .i64) (.pair (.int .i64) (.pair (.arr 32 (.int .i64)) (.arr 32 (.int .i64)))))))) x y
theorem bb_iff (x y : Slots) : BB x y = true ↔ ∀ k, k < 9 → eqS (sl x k) (sl y k) = true := by
  unfold BB
  simp only [Sh.beq, List.all_eq_true, List.mem_range]
  exact Iff.rfl
theorem eqS_refl (s : Slot) : eqS s s = true := Sh.beq_self _ _
theorem eqS_iff (s t : Slot) : eqS s t = true ↔ s.1 = t.1 ∧ s.2.1 = t.2.1 ∧ (∀ k, k < 32 → en s k = en t k) ∧ (∀ k, k < 32 → mk' s k = mk' t k) := by
  unfold eqS
  simp only [Sh.beq, Sh.dflt, Bool.and_eq_true, List.all_eq_true, beq_iff_eq, List.mem_range]
  exact Iff.rfl
theorem sl_set (b : Slots) (i k : Nat) (s : Slot) (hi : i < b.length) : sl (b.set i s) k = if i = k then s else sl b k := by
  unfold sl
  rw [List.getD_eq_getElem?_getD, List.getElem?_set]
  by_cases h : i = k
  · subst h; simp [hi]
  · simp [h]
theorem bb_set (b : Slots) (i : Nat) (s t : Slot) (hi : i < b.length) (h : eqS s t = true) : BB (b.set i s) (b.set i t) = true := by
  rw [bb_iff]
  intro k hk
  rw [sl_set b i k s hi, sl_set b i k t hi]
  by_cases e : i = k
  · rw [if_pos e, if_pos e]; exact h
  · rw [if_neg e, if_neg e]; exact eqS_refl _
theorem bb_refl (b : Slots) : BB b b = true := Sh.beq_self _ _
theorem leastEx (P : Nat → Prop) : ∀ n, P n → ∃ m, m ≤ n ∧ P m ∧ ∀ j, j < m → ¬ P j := by
  intro n
  induction n using Nat.strongRecOn with
  | _ n ih =>
    intro h
    by_cases q : ∃ j, j < n ∧ P j
    · obtain ⟨j, hj, pj⟩ := q
      obtain ⟨m, m1, m2⟩ := ih j hj pj
      exact ⟨m, by omega, m2⟩
    · exact ⟨n, Nat.le_refl n, h, fun j hj pj => q ⟨j, hj, pj⟩⟩
/-- does a list hold a number? -/
theorem idx (n : Nat) (l : List Int) (v : Int) (hl : l.length < n) (hs : l.length < 1000) : ∃ r, F107 n l v = some r ∧ (0 ≤ r ↔ v ∈ l) := by
  unfold F107
  refine loopF_post (F107_l2 n l v) (fun x => ∃ k : Nat, x = (k : Int) ∧ k ≤ l.length ∧ ∀ j, j < k → l.getD j 0 ≠ v) (fun _ r => 0 ≤ r ↔ v ∈ l) (fun x => l.length - x.toNat) ?_ n 0 ⟨0, rfl, by omega, fun j h => by omega⟩ (by simp; omega)
  rintro kk x ⟨k, rfl, hk, hall⟩ ih
  simp only [F107_l2, Int.toNat_natCast]
  by_cases hka : k < l.length
  · rw [decide_eq_true (show (k : Int) < ((l.length : Nat) : Int) by omega), inb_true (show (0 : Int) ≤ k by omega) (show (k : Int) < (l.length : Nat) by omega), w64 (n := (k : Int) + 1) (by omega) (by omega)]
    simp only [cond_true]
    by_cases q : l.getD k 0 = v
    · rw [show (v == l.getD k 0) = true by simpa using q.symm]
      refine ⟨_, rfl, fun _ => ?_, fun _ => by omega⟩
      rw [← q, List.getD_eq_getElem?_getD, List.getElem?_eq_getElem hka]
      exact List.getElem_mem hka
    · rw [show (v == l.getD k 0) = false by rw [beq_eq_false_iff_ne]; exact fun h => q h.symm]
      exact ih _ ⟨k + 1, by omega, by omega, fun j a2 => by
        rcases Nat.lt_succ_iff_lt_or_eq.1 a2 with h2 | h2
        · exact hall j h2
        · subst h2; exact q⟩ (by omega)
  · rw [decide_eq_false (show ¬ (k : Int) < ((l.length : Nat) : Int) by omega)]
    refine ⟨-1, rfl, fun h => by omega, fun h => ?_⟩
    obtain ⟨j, hj, e⟩ := List.getElem_of_mem h
    refine absurd ?_ (hall j (by omega))
    rw [List.getD_eq_getElem?_getD, List.getElem?_eq_getElem hj]; exact e
theorem contains (n : Nat) (l : List Int) (v : Int) (hl : l.length < n) (hs : l.length < 1000) : F105 n l v = some (decide (v ∈ l)) := by
  unfold F105
  obtain ⟨r, e, h⟩ := idx n l v hl hs
  rw [e, Option.bind_some, Option.some.injEq, Bool.eq_iff_iff, decide_eq_true_iff, decide_eq_true_iff]
  exact h
theorem least (n : Nat) (l : List Int) (L : Nat) (hl : l.length < n) (hs : l.length < 1000) (h0 : 1 ≤ L) (hL : L < n) (hm : L < 1000) (h1 : (L : Int) ∉ l) (h2 : ∀ a : Nat, 1 ≤ a → a < L → (a : Int) ∈ l) : F96 n l = some (L : Int) := by
  unfold F96
  refine loopF_eq (F96_l2 n l) (fun _ => some (L : Int)) (fun x => ∃ k : Nat, x = (k : Int) ∧ 1 ≤ k ∧ k ≤ L) (fun x => L - x.toNat) ?_ n 1 ⟨1, rfl, by omega, by omega⟩ (by simp; omega)
  rintro kk x ⟨k, rfl, hk1, hk⟩ ih
  simp only [F96_l2, contains n l _ hl hs, Option.bind_some]
  by_cases e : k = L
  · subst e
    rw [decide_eq_false h1]; rfl
  · rw [decide_eq_true (h2 k hk1 (by omega)), w64 (n := (k : Int) + 1) (by omega) (by omega)]
    exact ih _ ⟨k + 1, by omega, by omega, by omega⟩ (by omega)
/-- the numbers of the slots that are on, and their addresses -/
def onK (b : Slots) (k : Nat) : List Int := ((List.range k).filter fun i => (sl b i).1 != 0).map fun i => Int.ofNat i
def adK (b : Slots) (k : Nat) : List Int := ((List.range k).filter fun i => (sl b i).1 != 0).map fun (i : Nat) => (sl b i).2.1
theorem onK_len (b : Slots) (k : Nat) : (onK b k).length ≤ k := by
  unfold onK
  rw [List.length_map]
  exact Nat.le_trans (List.length_filter_le _ _) (by simp)
theorem adK_len (b : Slots) (k : Nat) : (adK b k).length ≤ k := by
  unfold adK
  rw [List.length_map]
  exact Nat.le_trans (List.length_filter_le _ _) (by simp)
theorem onK_succ (b : Slots) (k : Nat) : onK b (k + 1) = if (sl b k).1 != 0 then onK b k ++ [(k : Int)] else onK b k := by
  unfold onK
  rw [List.range_succ, List.filter_append, List.map_append]
  cases h : (sl b k).1 != 0 <;> simp [h]
theorem adK_succ (b : Slots) (k : Nat) : adK b (k + 1) = if (sl b k).1 != 0 then adK b k ++ [(sl b k).2.1] else adK b k := by
  unfold adK
  rw [List.range_succ, List.filter_append, List.map_append]
  cases h : (sl b k).1 != 0 <;> simp [h]
theorem onK_mem (b : Slots) (a : Nat) : (a : Int) ∈ onK b 9 ↔ a < 9 ∧ (sl b a).1 ≠ 0 := by
  unfold onK
  simp only [List.mem_map, List.mem_filter, List.mem_range, bne_iff_ne]
  constructor
  · rintro ⟨i, h, e⟩
    obtain rfl : i = a := Int.ofNat.inj e
    exact h
  · intro h
    exact ⟨a, h, rfl⟩
theorem adK_mem (b : Slots) (a : Int) : a ∈ adK b 9 ↔ ∃ k, k < 9 ∧ (sl b k).1 ≠ 0 ∧ (sl b k).2.1 = a := by
  unfold adK
  simp only [List.mem_map, List.mem_filter, List.mem_range, bne_iff_ne, and_assoc]
theorem c65 (n : Nat) (hn : 100 < n) (b : Slots) (K S E A : Int) : F78 n b K S E A = F78_l2 n b K S E A (fun _ => none) (9, onK b 9, adK b 9) := by
  unfold F78
  refine loopF_eq (F78_l2 n b K S E A) (fun _ => F78_l2 n b K S E A (fun _ => none) (9, onK b 9, adK b 9)) (fun d => ∃ k : Nat, d = ((k : Int), onK b k, adK b k) ∧ k ≤ 9) (fun d => 9 - d.1.toNat) ?_ n (0, [], []) ⟨0, rfl, by omega⟩ (by simp; omega)
  rintro kk d ⟨k, rfl, hk⟩ ih
  by_cases hka : k < 9
  · have step : F78_l2 n b K S E A kk ((k : Int), onK b k, adK b k) = kk (((k + 1 : Nat) : Int), onK b (k + 1), adK b (k + 1)) := by
      simp only [F78_l2, Int.toNat_natCast]
      have l1 := onK_len b k
      have l2 := adK_len b k
      rw [decide_eq_true (show (k : Int) < 9 by omega), inb_true (show (0 : Int) ≤ k by omega) (show (k : Int) < (9 : Nat) by omega), w64 (n := (k : Int) + 1) (by omega) (by omega), onK_succ, adK_succ]
      simp only [cond_true]
      rw [decide_eq_true (show (onK b k).length + [(k : Int)].length ≤ 17592186044416 by simp only [List.length_singleton]; omega), decide_eq_true (show (adK b k).length + [(b.getD k zeroS).2.1].length ≤ 17592186044416 by simp only [List.length_singleton]; omega)]
      show (bif (sl b k).1 != 0 then kk ((k : Int) + 1, onK b k ++ [(k : Int)], adK b k ++ [(sl b k).2.1]) else kk ((k : Int) + 1, onK b k, adK b k)) = _
      cases (sl b k).1 != 0 <;> rfl
    rw [step]
    exact ih _ ⟨k + 1, rfl, by omega⟩ (by simp only [Int.toNat_natCast]; omega)
  · obtain rfl : k = 9 := by omega
    rfl
def pick (b : Slots) (code slot : Int) (m : Slots) : Option (Slots × Int × Int) := some (if code = 1 then m else b, code, slot)
theorem j71 (n : Nat) (b : Slots) (c code : Int) (m : Slots) : F49_j71 n b c (code, m) = pick b code c m := by
  unfold pick
  show (bif code != 1 then some (b, code, c) else some (m, code, c)) = _
  by_cases h : code = 1
  · rw [show (code != 1) = false by simpa using h, if_pos h]; rfl
  · rw [show (code != 1) = true by simpa using h, if_neg h]; rfl
/-- the slot that is enabled -/
theorem firstOff (b : Slots) : ∃ i : Nat, 1 ≤ i ∧ i ≤ 9 ∧ (i < 9 → (sl b i).1 = 0) ∧ ∀ j, 1 ≤ j → j < i → (sl b j).1 ≠ 0 := by
  obtain ⟨i, h9, ⟨h1, h2⟩, h3⟩ := leastEx (fun i => 1 ≤ i ∧ (i = 9 ∨ (sl b i).1 = 0)) 9 ⟨by omega, .inl rfl⟩
  refine ⟨i, h1, h9, fun h => ?_, fun j k1 k2 k3 => h3 j k2 ⟨k1, .inr k3⟩⟩
  rcases h2 with h4 | h4
  · omega
  · exact h4
theorem enableD (n : Nat) (hn : 100 < n) (b : Slots) (i : Nat) (h1 : 1 ≤ i) (h9 : i ≤ 9) (hi : i < 9 → (sl b i).1 = 0) (hall : ∀ j, 1 ≤ j → j < i → (sl b j).1 ≠ 0) :
    loopF (F49_l49 n b) n 1 = if i < 9 then some (b.set i (1, (sl b i).2), 1, (i : Int)) else some (b, 9, 0) := by
  refine loopF_eq (F49_l49 n b) (fun _ => if i < 9 then some (b.set i (1, (sl b i).2), 1, (i : Int)) else some (b, 9, 0)) (fun x => ∃ k : Nat, x = (k : Int) ∧ 1 ≤ k ∧ k ≤ i) (fun x => 9 - x.toNat) ?_ n 1 ⟨1, rfl, by omega, by omega⟩ (by simp; omega)
  rintro kk x ⟨k, rfl, hk1, hk⟩ ih
  simp only [F49_l49, Int.toNat_natCast]
  by_cases hka : k < 9
  · rw [decide_eq_true (show (k : Int) < 9 by omega), inb_true (show (0 : Int) ≤ k by omega) (show (k : Int) < (9 : Nat) by omega), w64 (n := (k : Int) + 1) (by omega) (by omega)]
    simp only [cond_true]
    show (bif (sl b k).1 == 0 then some (b.set k (1, (sl b k).2), 1, (k : Int)) else kk ((k : Int) + 1)) = _
    by_cases e : k = i
    · subst e
      rw [show ((sl b k).1 == 0) = true by simpa using hi hka, if_pos hka]; rfl
    · rw [show ((sl b k).1 == 0) = false by simpa using hall k hk1 (by omega)]
      exact ih _ ⟨k + 1, by omega, by omega, by omega⟩ (by omega)
  · rw [decide_eq_false (show ¬ (k : Int) < 9 by omega), if_neg (by omega)]; rfl
/-- the address that is given -/
theorem freeAddr (b : Slots) (hb : ∀ k, k < 9 → (sl b k).2.1 ≤ 127) : ∃ L : Nat, 1 ≤ L ∧ L ≤ 128 ∧ (∀ k, k < 9 → (sl b k).2.1 ≠ (L : Int)) ∧ ∀ a : Nat, 1 ≤ a → a < L → ∃ k, k < 9 ∧ (sl b k).2.1 = (a : Int) := by
  obtain ⟨i, h9, ⟨h1, h2⟩, h3⟩ := leastEx (fun a => 1 ≤ a ∧ ∀ k, k < 9 → (sl b k).2.1 ≠ (a : Int)) 128 ⟨by omega, fun k hk => by have := hb k hk; omega⟩
  refine ⟨i, h1, h9, h2, fun a k1 k2 => ?_⟩
  by_cases q : ∃ k, k < 9 ∧ (sl b k).2.1 = (a : Int)
  · exact q
  · exact absurd ⟨k1, fun k hk e => q ⟨k, hk, e⟩⟩ (h3 a k2)
theorem pass (n : Nat) (hn : 100 < n) (K : (Int × Bool) → Option (Slots × Int × Int)) (V : Option (Slots × Int × Int)) (b : Slots) (L a : Nat) (ha1 : 1 ≤ a) (haL : a ≤ L) (hm : L ≤ 128) (h1 : ∀ k, k < 9 → (sl b k).2.1 ≠ (L : Int)) (h2 : ∀ a : Nat, 1 ≤ a → a < L → ∃ k, k < 9 ∧ (sl b k).2.1 = (a : Int))
    (hK1 : a = L → K ((a : Int), false) = V) (hK2 : ∀ a' : Nat, a < a' → a' ≤ L → K ((a' : Int), true) = V) : loopF (F49_l80 n K b) n ((a : Int), false, 0) = V := by
  refine loopF_eq (F49_l80 n K b) (fun _ => V) (fun d => ∃ a' k : Nat, d = ((a' : Int), decide (a' ≠ a), (k : Int)) ∧ k ≤ 9 ∧ a ≤ a' ∧ a' ≤ L ∧ (a' = a → ∀ j, j < k → (sl b j).2.1 ≠ (a : Int))) (fun d => 9 - d.2.2.toNat) ?_ n _ ⟨a, 0, by simp, by omega, by omega, by omega, fun _ j h => by omega⟩ (by simp; omega)
  rintro kk d ⟨a', k, rfl, hk, ha, haL', hall⟩ ih
  simp only [F49_l80, Int.toNat_natCast]
  by_cases hka : k < 9
  · rw [decide_eq_true (show (k : Int) < 9 by omega), inb_true (show (0 : Int) ≤ k by omega) (show (k : Int) < (9 : Nat) by omega), w64 (n := (k : Int) + 1) (by omega) (by omega), w64 (n := (a' : Int) + 1) (by omega) (by omega)]
    simp only [cond_true]
    show (bif (sl b k).2.1 == (a' : Int) then kk ((a' : Int) + 1, true, (k : Int) + 1) else kk ((a' : Int), decide (a' ≠ a), (k : Int) + 1)) = _
    by_cases q : (sl b k).2.1 = (a' : Int)
    · rw [show ((sl b k).2.1 == (a' : Int)) = true by simpa using q]
      have : a' ≠ L := fun e => h1 k hka (by rw [q, e])
      refine ih _ ⟨a' + 1, k + 1, ?_, by omega, by omega, by omega, fun e => by omega⟩ (by simp only [Int.toNat_natCast]; omega)
      rw [decide_eq_true (show a' + 1 ≠ a by omega)]; rfl
    · rw [show ((sl b k).2.1 == (a' : Int)) = false by simpa using q]
      refine ih _ ⟨a', k + 1, rfl, by omega, by omega, by omega, fun e j a2 => ?_⟩ (by simp only [Int.toNat_natCast]; omega)
      rcases Nat.lt_succ_iff_lt_or_eq.1 a2 with h3 | h3
      · exact hall e j h3
      · subst h3; rw [← e]; exact q
  · rw [decide_eq_false (show ¬ (k : Int) < 9 by omega)]
    simp only [cond_false]
    by_cases e : a' = a
    · rw [decide_eq_false (show ¬ a' ≠ a by simpa using e), e]
      refine hK1 ?_
      by_cases hL : a = L
      · exact hL
      · obtain ⟨j, j1, j2⟩ := h2 a ha1 (by omega)
        exact absurd j2 (hall e j (by omega))
    · rw [decide_eq_true e]; exact hK2 a' (by omega) haL'
end Go.Proofs.Ythololnakkpieaa
