/- Keyboard reports, one behind the other; in plain Lean. -/
import Derived.Test.YtnhdocmdjlijkaaSKeyD
namespace Go.Proofs.Ytnhdocmdjlijkaa
open Go Go.RowKit
set_option linter.unusedVariables false

abbrev Tx := List UInt8
/-- a set of a list of codes -/
structure SetOf (b : BitsL) (L : List Nat) : Prop where
  good : G4 b
  same : ∀ d, d < 256 → tb b d = L.contains d
theorem SetOf.zero : SetOf (List.replicate 4 (0 : Int)) [] := ⟨zero_good, fun d _ => by rw [tb_zero]; rfl⟩
theorem natContains_app (l m : List Nat) (d : Nat) : (l ++ m).contains d = (l.contains d || m.contains d) := by
  simp only [List.contains_eq_mem, List.mem_append, Bool.decide_or]
theorem SetOf.add {b : BitsL} {L : List Nat} (h : SetOf b L) (c : Nat) (hc : c < 256) : SetOf (addB b c) (L ++ [c]) := by
  refine ⟨add_good h.good c, fun d hd => ?_⟩
  rw [tb_add h.good c d hc hd, natContains_app, ← h.same d hd]
  by_cases e : d = c
  · subst e; simp
  · rw [if_neg e]; simp [e]
theorem addB_eq {b : BitsL} (hb : G4 b) (c : Nat) : b.set (c / 64) (bitsI .or .u64 (b.getD (c / 64) 0) (shlI .u64 1 ((c % 64 : Nat) : Int))) = addB b c := by
  obtain ⟨e1, e2⟩ := hb.word (c / 64)
  rw [e1, kShl _ (Nat.mod_lt _ (by omega)), kOr _ _ e2 (two64 _ (Nat.mod_lt _ (by omega)))]; rfl
theorem SetOf.keys {b b' : BitsL} {L : List Nat} (h : SetOf b L) (h' : KeyS (L.map fun c => ((c : Nat) : Int)) b') : b' = b := by
  refine G4.ext h'.1 h.good fun c hc => ?_
  rw [h'.2 c hc, h.same c hc, List.contains_eq_mem, List.contains_eq_mem]
  have : (((c : Nat) : Int) ∈ L.map fun c => ((c : Nat) : Int)) ↔ c ∈ L := by
    rw [List.mem_map]
    exact ⟨fun ⟨d, h1, h2⟩ => by obtain rfl : d = c := by omega
                                 exact h1, fun h => ⟨c, h, rfl⟩⟩
  exact decide_eq_decide.2 this
/-- the shift keys and their like, from the first byte -/
def modsL (x : Nat) (k : Nat) : List Nat := ((List.range k).filter fun j => x.testBit j).map fun j => 224 + j
theorem modsL_succ (x k : Nat) : modsL x (k + 1) = modsL x k ++ if x.testBit k = true then [224 + k] else [] := by
  unfold modsL
  rw [List.range_succ, List.filter_append, List.map_append]
  cases h : x.testBit k <;> simp [h]
theorem modsL_len (x k : Nat) : (modsL x k).length ≤ k := by
  unfold modsL
  rw [List.length_map]
  exact Nat.le_trans (List.length_filter_le _ _) (by simp)
def keysL (s : Tx) (i : Nat) : List Nat := (((s.drop 2).take (i - 2)).filter fun c => decide (c.toNat > 3)).map (·.toNat)
theorem take_snoc (s : Tx) (i : Nat) (h2 : 2 ≤ i) (hi : i < s.length) : (s.drop 2).take (i + 1 - 2) = (s.drop 2).take (i - 2) ++ [s.getD i 0] := by
  rw [show i + 1 - 2 = (i - 2) + 1 by omega, List.take_add_one]
  congr 1
  rw [List.getElem?_drop, show 2 + (i - 2) = i by omega, List.getElem?_eq_getElem hi]
  simp [List.getD_eq_getElem?_getD, hi]
theorem keysL_succ (s : Tx) (i : Nat) (h2 : 2 ≤ i) (hi : i < s.length) : keysL s (i + 1) = keysL s i ++ if (s.getD i 0).toNat > 3 then [(s.getD i 0).toNat] else [] := by
  unfold keysL
  rw [take_snoc s i h2 hi, List.filter_append, List.map_append]
  obtain ⟨c, hc⟩ : ∃ c, s.getD i 0 = c := ⟨_, rfl⟩
  rw [hc]
  by_cases h : c.toNat > 3 <;> simp [h]
theorem keysL_len (s : Tx) (i : Nat) : (keysL s i).length ≤ i := by
  unfold keysL
  rw [List.length_map]
  refine Nat.le_trans (List.length_filter_le _ _) ?_
  rw [List.length_take]; omega
/-- what a report of eight bytes says -/
def has1 (s : Tx) (v : Nat) : Bool := (s.drop 2).any fun c => c.toNat == v
theorem u8bit (x : UInt8) (k : Nat) (hk : k < 8) : (bitsI .and .u8 (shrI .u8 ((x.toNat : Nat) : Int) (k : Int)) 1 == 1) = x.toNat.testBit k := by
  have hx : x.toNat < 256 := x.toNat_lt
  have hd : x.toNat / 2 ^ k ≤ x.toNat := Nat.div_le_self _ _
  rw [shr_div .u8 _ k (by simp [IntKind.bits]; omega)]
  have e : ((x.toNat : Nat) : Int) / 2 ^ k = ((x.toNat / 2 ^ k : Nat) : Int) := by simp
  rw [e]
  have e2 : ∀ y : Nat, y < 256 → bitsI .and .u8 ((y : Nat) : Int) 1 = ((y &&& 1 : Nat) : Int) := by
    intro y hy
    have h1 : y &&& 1 < 2 := by
      rw [Nat.and_one_is_mod]; omega
    show IntKind.u8.wrap ((BitVec.ofInt 8 ((y : Nat) : Int) &&& BitVec.ofInt 8 1).toNat : Int) = _
    rw [BitVec.toNat_and, u8w]
    have h2 : (BitVec.ofInt 8 ((y : Nat) : Int)).toNat = y := by
      rw [BitVec.toNat_ofInt]; omega
    have h3 : (BitVec.ofInt 8 1).toNat = 1 := by decide
    rw [h2, h3]
    omega
  rw [e2 _ (by omega), and_one, Nat.testBit_div_two_pow, Nat.zero_add]
def SV (s : Tx) : List Nat := modsL (s.getD 0 0).toNat 8 ++ keysL s 8
/-- what both sides answer: a set of these codes, or an error -/
def ReadQ (s : Tx) (r : BitsL × Int) : Prop :=
  if has1 s 1 = true then r = (List.replicate 4 0, 11) else if ((s.getD 1 0).toNat ≠ 0 ∨ has1 s 2 = true ∨ has1 s 3 = true) then r = (List.replicate 4 0, 4) else r.2 = 0 ∧ SetOf r.1 (SV s)
def anyTo (s : Tx) (v i : Nat) : Bool := ((s.drop 2).take (i - 2)).any fun c => c.toNat == v
theorem anyTo_succ (s : Tx) (v i : Nat) (h2 : 2 ≤ i) (hi : i < s.length) : anyTo s v (i + 1) = (anyTo s v i || (s.getD i 0).toNat == v) := by
  unfold anyTo
  rw [take_snoc s i h2 hi, List.any_append]
  simp
theorem anyTo_all (s : Tx) (v : Nat) (h8 : s.length = 8) : anyTo s v 8 = has1 s v := by
  unfold anyTo has1
  rw [List.take_of_length_le (by rw [List.length_drop, h8]; exact Nat.le_refl _)]
theorem readP8 (n : Nat) (hn : 20 < n) (s : Tx) (h8 : s.length = 8) : ∃ r, F12 n s = some r ∧ ReadQ s r := by
  unfold F12
  rw [h8, decide_eq_false (by omega), decide_eq_false (by omega), inb_true (by omega) (by omega)]
  simp only [cond_true, cond_false]
  refine loopF_post (F12_l5 n s) (fun d => ∃ k : Nat, d.1 = (k : Int) ∧ k ≤ 8 ∧ SetOf d.2 (modsL (s.getD 0 0).toNat k)) (fun _ r => ReadQ s r) (fun d => 8 - d.1.toNat) ?_ n _ ⟨0, rfl, by omega, SetOf.zero⟩ (by simp; omega)
  rintro kk ⟨x, b⟩ ⟨k, hx, hk, hS⟩ ih
  simp only at hx hS
  subst hx
  simp only [F12_l5, h8]
  by_cases hlt : k < 8
  · have ek : ((k : Int) + 1).toNat = k + 1 := by omega
    have e224 : (224 : Int) + (k : Int) = ((224 + k : Nat) : Int) := by omega
    rw [decide_eq_true (show (k : Int) < 8 by omega), inb_true (by omega) (by omega), ku64 k (by omega), decide_eq_true (show (0 : Int) ≤ (k : Int) by omega), u8bit _ k hlt, w64 (n := (k : Int) + 1) (by omega) (by omega), e224, w64 (n := ((224 + k : Nat) : Int)) (by omega) (by omega), tdiv64, tmod64,
      w64 (n := (((224 + k) / 64 : Nat) : Int)) (by omega) (by omega), inb_true (by omega) (by omega), ku64 ((224 + k) % 64) (by omega), decide_eq_true (show (0 : Int) ≤ (((224 + k) % 64 : Nat) : Int) by omega), Int.toNat_natCast, addB_eq hS.good]
    simp only [cond_true]
    cases h : (s.getD 0 0).toNat.testBit k with
    | true =>
      exact ih _ ⟨k + 1, by simp, by omega, by rw [modsL_succ, if_pos h]; exact hS.add (224 + k) (by omega)⟩ (by simp only [Int.toNat_natCast, ek]; omega)
    | false =>
      exact ih _ ⟨k + 1, by simp, by omega, by rw [modsL_succ, h]; simpa using hS⟩ (by simp only [Int.toNat_natCast, ek]; omega)
  · obtain rfl : k = 8 := by omega
    rw [decide_eq_false (by omega)]
    simp only [cond_false]
    refine loopF_post (F12_l6 n s) (fun d => ∃ i : Nat, d.2.2.1 = (i : Int) ∧ 2 ≤ i ∧ i ≤ 8 ∧ SetOf d.2.2.2 (modsL (s.getD 0 0).toNat 8 ++ keysL s i) ∧ d.1 = (decide ((s.getD 1 0).toNat ≠ 0) || (anyTo s 2 i || anyTo s 3 i)) ∧ d.2.1 = anyTo s 1 i) (fun _ r => ReadQ s r) (fun d => 8 - d.2.2.1.toNat) ?_ n _ ⟨2, rfl, by omega, by omega, by simpa [keysL] using hS, by
      simp only [anyTo, Nat.sub_self, List.take_zero, List.any_nil, Bool.or_false]
      by_cases h : (s.getD 1 0).toNat = 0
      · rw [h]; rfl
      · rw [decide_eq_true h]; exact bne_iff_ne.2 (by omega), by simp [anyTo]⟩ (by simp; omega)
    rintro kk2 ⟨bad, full, x, b2⟩ ⟨i, hx, hi2, hi8, hS2, hbad, hfull⟩ ih2
    simp only at hx hS2 hbad hfull
    subst hx
    simp only [F12_l6, h8]
    by_cases hil : i < 8
    · have ek : ((i : Int) + 1).toNat = i + 1 := by omega
      rw [decide_eq_true (show (i : Int) < 8 by omega), inb_true (by omega) (by omega), w64 (n := (i : Int) + 1) (by omega) (by omega)]
      simp only [cond_true, Int.toNat_natCast]
      have hks := keysL_succ s i hi2 (by omega)
      have a1 := anyTo_succ s 1 i hi2 (by omega)
      have a2 := anyTo_succ s 2 i hi2 (by omega)
      have a3 := anyTo_succ s 3 i hi2 (by omega)
      obtain ⟨c, hc⟩ : ∃ c, (s.getD i 0).toNat = c := ⟨_, rfl⟩
      have hc256 : c < 256 := by rw [← hc]; exact UInt8.toNat_lt _
      rw [hc] at hks a1 a2 a3
      simp only [hc]
      have go : ∀ (bad' full' : Bool) (b' : BitsL), SetOf b' (modsL (s.getD 0 0).toNat 8 ++ keysL s (i + 1)) → bad' = (decide ((s.getD 1 0).toNat ≠ 0) || (anyTo s 2 (i + 1) || anyTo s 3 (i + 1))) → full' = anyTo s 1 (i + 1) → ∃ r, kk2 (bad', full', (i : Int) + 1, b') = some r ∧ ReadQ s r := fun bad' full' b' g1 g2 g3 =>
        ih2 _ ⟨i + 1, by simp, by omega, by omega, g1, g2, g3⟩ (by simp only [Int.toNat_natCast, ek]; omega)
      by_cases c1 : c = 1
      · subst c1
        refine go _ _ _ (by rw [hks]; simpa using hS2) (by rw [a2, a3, hbad]; simp) (by rw [a1]; simp)
      · rw [show (((c : Nat) : Int) == 1) = false from beq_eq_false_iff_ne.2 (by omega)]
        simp only [cond_false]
        have a1' : anyTo s 1 (i + 1) = anyTo s 1 i := by rw [a1, show (c == 1) = false from beq_eq_false_iff_ne.2 c1, Bool.or_false]
        by_cases c2 : c = 2
        · subst c2
          refine go _ _ _ (by rw [hks]; simpa using hS2) (by rw [a2, a3]; simp) (by rw [a1']; exact hfull)
        · rw [show (((c : Nat) : Int) == 2) = false from beq_eq_false_iff_ne.2 (by omega)]
          simp only [cond_false]
          have a2' : anyTo s 2 (i + 1) = anyTo s 2 i := by rw [a2, show (c == 2) = false from beq_eq_false_iff_ne.2 c2, Bool.or_false]
          by_cases c3 : c = 3
          · subst c3
            refine go _ _ _ (by rw [hks]; simpa using hS2) (by rw [a2, a3]; simp) (by rw [a1']; exact hfull)
          · rw [show (((c : Nat) : Int) == 3) = false from beq_eq_false_iff_ne.2 (by omega)]
            simp only [cond_false]
            have a3' : anyTo s 3 (i + 1) = anyTo s 3 i := by rw [a3, show (c == 3) = false from beq_eq_false_iff_ne.2 c3, Bool.or_false]
            by_cases c4 : c > 3
            · rw [decide_eq_true (show ((c : Nat) : Int) > 3 by omega), w64 (n := ((c : Nat) : Int)) (by omega) (by omega), tdiv64, tmod64, w64 (n := ((c / 64 : Nat) : Int)) (by omega) (by omega), inb_true (by omega) (by omega), ku64 (c % 64) (by omega), decide_eq_true (show (0 : Int) ≤ ((c % 64 : Nat) : Int) by omega), Int.toNat_natCast, addB_eq hS2.good]
              simp only [cond_true]
              exact go _ _ _ (by rw [hks, if_pos c4, ← List.append_assoc]; exact hS2.add c hc256) (by rw [a2', a3']; exact hbad) (by rw [a1']; exact hfull)
            · rw [decide_eq_false (show ¬ ((c : Nat) : Int) > 3 by omega)]
              simp only [cond_false]
              exact go _ _ _ (by rw [hks, if_neg c4, List.append_nil]; exact hS2) (by rw [a2', a3']; exact hbad) (by rw [a1']; exact hfull)
    · obtain rfl : i = 8 := by omega
      rw [decide_eq_false (by omega)]
      rw [anyTo_all s 1 h8] at hfull
      rw [anyTo_all s 2 h8, anyTo_all s 3 h8] at hbad
      simp only [cond_false]
      subst hfull
      unfold ReadQ
      cases hf : has1 s 1 with
      | true => exact ⟨_, rfl, by rw [if_pos rfl]⟩
      | false =>
        simp only [Bool.false_eq_true, if_false]
        cases hbb : bad with
        | true =>
          rw [hbb] at hbad
          refine ⟨_, rfl, ?_⟩
          rw [if_pos]
          have := hbad.symm
          simp only [Bool.or_eq_true, decide_eq_true_eq] at this
          exact this
        | false =>
          rw [hbb] at hbad
          refine ⟨_, rfl, ?_⟩
          rw [if_neg]
          · exact ⟨rfl, hS2⟩
          · have := hbad.symm
            simp only [Bool.or_eq_false_iff, decide_eq_false_iff_not] at this
            rintro (h | h | h)
            · exact this.1 h
            · rw [this.2.1] at h; cases h
            · rw [this.2.2] at h; cases h
theorem SetOf.ofKeys {b : BitsL} {L : List Nat} (h : KeyS (L.map fun c => ((c : Nat) : Int)) b) : SetOf b L := by
  refine ⟨h.1, fun c hc => ?_⟩
  rw [h.2 c hc, List.contains_eq_mem, List.contains_eq_mem]
  refine decide_eq_decide.2 ?_
  rw [List.mem_map]
  exact ⟨fun ⟨d, h1, h2⟩ => by obtain rfl : d = c := by omega
                               exact h1, fun h => ⟨c, h, rfl⟩⟩
theorem twoP (n k : Nat) (hk : k < 8) (hn : 20 < n) : F46 n (k : Int) = some ((2 ^ k : Nat) : Int) := by
  unfold F46
  refine (loopF_eq (F46_l2 n (k : Int)) (fun d => some ((2 ^ k : Nat) : Int)) (fun d => ∃ j : Nat, d = (((2 ^ j : Nat) : Int), (j : Int)) ∧ j ≤ k) (fun d => k - d.2.toNat) ?_ n (1, 0) ⟨0, rfl, by omega⟩ (by simp; omega))
  rintro kk d ⟨j, rfl, hj⟩ ih
  simp only [F46_l2]
  have hp : 2 ^ j ≤ 2 ^ 8 := Nat.pow_le_pow_right (by omega) (by omega)
  have hp0 : (0 : Int) ≤ ((2 ^ j : Nat) : Int) := Int.natCast_nonneg _
  by_cases h : j < k
  · rw [decide_eq_true (show (j : Int) < (k : Int) by omega), w64 (n := ((2 ^ j : Nat) : Int) * 2) (by omega) (by omega), w64 (n := (j : Int) + 1) (by omega) (by omega)]
    exact ih _ ⟨j + 1, by rw [Nat.pow_succ]; simp, by omega⟩ (by simp; omega)
  · obtain rfl : j = k := by omega
    rw [decide_eq_false (by omega)]; rfl
theorem ix_ge : ∀ (c : Tx) (b : UInt8), (Lib.indexByte c b = -1 ∨ 0 ≤ Lib.indexByte c b) ∧ (decide (Lib.indexByte c b ≥ 0) = c.any fun x => x == b)
  | [], b => by simp [Lib.indexByte]
  | a :: c, b => by
    obtain ⟨h1, h2⟩ := ix_ge c b
    unfold Lib.indexByte
    by_cases h : a = b
    · subst h; simp
    · rw [show (a == b) = false from beq_eq_false_iff_ne.2 h]
      simp only [Bool.false_eq_true, if_false, List.any_cons, show (a == b) = false from beq_eq_false_iff_ne.2 h, Bool.false_or]
      rw [← h2]
      rcases h1 with h1 | h1
      · rw [h1]; simp
      · rw [show (Lib.indexByte c b == -1) = false from beq_eq_false_iff_ne.2 (by omega)]
        simp only [Bool.false_eq_true, if_false]
        exact ⟨.inr (by omega), by rw [decide_eq_true (by omega), decide_eq_true (by omega)]⟩
theorem hasIx (s : Tx) (v : Nat) (hv : v < 256) : decide (Lib.indexByte (s.drop 2) ((v : Nat) : Int).toNat.toUInt8 ≥ 0) = has1 s v := by
  rw [(ix_ge _ _).2]
  unfold has1
  congr 1
  funext c
  rw [Int.toNat_natCast]
  have : (c == v.toUInt8) = (c.toNat == v) := by
    by_cases h : c.toNat = v
    · rw [beq_iff_eq.2 h]
      refine beq_iff_eq.2 (UInt8.toNat.inj ?_)
      rw [h, Nat.toUInt8_eq, UInt8.toNat_ofNat_of_lt' (by simpa using hv)]
    · rw [beq_eq_false_iff_ne.2 h]
      refine beq_eq_false_iff_ne.2 fun e => h ?_
      rw [e, Nat.toUInt8_eq, UInt8.toNat_ofNat_of_lt' (by simpa using hv)]
  exact this
def keys0 (s : Tx) (i : Nat) : List Nat := (((s.drop 2).take (i - 2)).filter fun c => decide (c.toNat > 0)).map (·.toNat)
theorem keys0_succ (s : Tx) (i : Nat) (h2 : 2 ≤ i) (hi : i < s.length) : keys0 s (i + 1) = keys0 s i ++ if (s.getD i 0).toNat > 0 then [(s.getD i 0).toNat] else [] := by
  unfold keys0
  rw [take_snoc s i h2 hi, List.filter_append, List.map_append]
  obtain ⟨c, hc⟩ : ∃ c, s.getD i 0 = c := ⟨_, rfl⟩
  rw [hc]
  by_cases h : c.toNat > 0 <;> simp [h]
theorem keys0_len (s : Tx) (i : Nat) : (keys0 s i).length ≤ i := by
  unfold keys0
  rw [List.length_map]
  refine Nat.le_trans (List.length_filter_le _ _) ?_
  rw [List.length_take]; omega
theorem keys0_eq (s : Tx) (h1 : has1 s 1 = false) (h2 : has1 s 2 = false) (h3 : has1 s 3 = false) : keys0 s 8 = keysL s 8 := by
  unfold keys0 keysL
  congr 1
  refine List.filter_congr fun c hc => ?_
  have hm := List.mem_of_mem_take hc
  have g : ∀ v, has1 s v = false → c.toNat ≠ v := fun v h e => by
    unfold has1 at h
    rw [List.any_eq_false] at h
    exact h c hm (beq_iff_eq.2 e)
  have g1 := g 1 h1
  have g2 := g 2 h2
  have g3 := g 3 h3
  exact decide_eq_decide.2 (by omega)
theorem readR8 (n : Nat) (hn : 400 < n) (s : Tx) (h8 : s.length = 8) : ∃ r, F13 n s = some r ∧ ReadQ s r := by
  have q1 := hasIx s 1 (by omega)
  have q2 := hasIx s 2 (by omega)
  have q3 := hasIx s 3 (by omega)
  unfold F13 F45
  rw [h8, decide_eq_false (by omega), decide_eq_false (by omega), show subB 8 (some 2) none = true from rfl]
  simp only [cond_true, cond_false, Option.bind_some]
  rw [show (1 : Int) = ((1 : Nat) : Int) from rfl, q1]
  unfold ReadQ
  cases hf : has1 s 1 with
  | true => exact ⟨_, rfl, by rw [if_pos rfl]⟩
  | false =>
    simp only [cond_false, Bool.false_eq_true, if_false]
    rw [show inb ((1 : Nat) : Int) 8 = true from rfl]
    simp only [cond_true]
    have bad : (((s.getD 1 0).toNat ≠ 0) ∨ has1 s 2 = true ∨ has1 s 3 = true) → ∃ r, F13_j5 n s true = some r ∧ (if ((s.getD 1 0).toNat ≠ 0 ∨ has1 s 2 = true ∨ has1 s 3 = true) then r = (List.replicate 4 0, 4) else r.2 = 0 ∧ SetOf r.1 (SV s)) := fun h =>
      ⟨_, rfl, by rw [if_pos h]⟩
    by_cases h1 : (s.getD 1 0).toNat > 0
    · rw [decide_eq_true (show (((s.getD 1 0).toNat : Nat) : Int) > 0 by omega)]
      exact bad (.inl (by omega))
    · rw [decide_eq_false (show ¬ (((s.getD 1 0).toNat : Nat) : Int) > 0 by omega)]
      simp only [cond_false]
      rw [show (2 : Int) = ((2 : Nat) : Int) from rfl, show (3 : Int) = ((3 : Nat) : Int) from rfl, q2, q3]
      cases h2 : has1 s 2 with
      | true => rw [h2] at bad; exact bad (.inr (.inl rfl))
      | false =>
        simp only [cond_false]
        cases h3 : has1 s 3 with
        | true => rw [h2, h3] at bad; exact bad (.inr (.inr rfl))
        | false =>
          clear bad
          suffices key : ∃ r, F13_j5 n s false = some r ∧ (r.2 = 0 ∧ SetOf r.1 (SV s)) by
            obtain ⟨r, ka, kb⟩ := key
            refine ⟨r, ka, ?_⟩
            rw [if_neg]
            · exact kb
            · rintro (h | h | h)
              · exact h1 (by omega)
              · cases h
              · cases h
          simp only [F13_j5, cond_false]
          refine loopF_post (F13_l7 n s) (fun d => ∃ k : Nat, d.1 = (k : Int) ∧ k ≤ 8 ∧ d.2 = (modsL (s.getD 0 0).toNat k).map fun c => ((c : Nat) : Int)) (fun _ r => r.2 = 0 ∧ SetOf r.1 (SV s)) (fun d => 8 - d.1.toNat) ?_ n _ ⟨0, rfl, by omega, rfl⟩ (by simp; omega)
          rintro kk ⟨x, m⟩ ⟨k, hx, hk, hm⟩ ih
          simp only at hx hm
          subst hx; subst hm
          simp only [F13_l7, h8]
          by_cases hlt : k < 8
          · have ek : ((k : Int) + 1).toNat = k + 1 := by omega
            have hb : (s.getD 0 0).toNat < 256 := UInt8.toNat_lt _
            have hp : 2 ^ k ≤ 2 ^ 8 := Nat.pow_le_pow_right (by omega) (by omega)
            have hp0 : 0 < 2 ^ k := Nat.pow_pos (by omega)
            have hml := modsL_len (s.getD 0 0).toNat k
            have hdv : (s.getD 0 0).toNat / 2 ^ k ≤ (s.getD 0 0).toNat := Nat.div_le_self _ _
            have hd0 : (0 : Int) ≤ (((s.getD 0 0).toNat / 2 ^ k : Nat) : Int) := Int.natCast_nonneg _
            have hd1 : (((s.getD 0 0).toNat / 2 ^ k : Nat) : Int) ≤ 255 := Int.ofNat_le.2 (show (s.getD 0 0).toNat / 2 ^ k ≤ 255 by omega)
            rw [decide_eq_true (show (k : Int) < 8 by omega), inb_true (by omega) (by omega), twoP n k hlt (by omega), w64 (n := (k : Int) + 1) (by omega) (by omega), w64 (n := (((s.getD 0 0).toNat : Nat) : Int)) (by omega) (by omega)]
            simp only [cond_true, Option.bind_some]
            rw [show ((((2 ^ k : Nat) : Int)) != 0) = true from bne_iff_ne.2 (by omega), Int.tdiv_eq_ediv_of_nonneg (Int.natCast_nonneg _), ← Int.natCast_ediv, w64 (n := (((s.getD 0 0).toNat / 2 ^ k : Nat) : Int)) (Int.le_trans (by decide) hd0) (Int.le_trans hd1 (by decide)), Int.tmod_eq_emod_of_nonneg (Int.natCast_nonneg _)]
            have hbit : ((((s.getD 0 0).toNat / 2 ^ k : Nat) : Int) % 2 == 1) = (s.getD 0 0).toNat.testBit k := by
              rw [Nat.testBit_eq_decide_div_mod_eq]
              by_cases h : (s.getD 0 0).toNat / 2 ^ k % 2 = 1
              · rw [decide_eq_true h]; exact beq_iff_eq.2 (by omega)
              · rw [decide_eq_false h]; exact beq_eq_false_iff_ne.2 (by omega)
            rw [hbit, show (224 : Int) + (k : Int) = ((224 + k : Nat) : Int) by omega, w64 (n := ((224 + k : Nat) : Int)) (by omega) (by omega)]
            simp only [cond_true]
            cases h : (s.getD 0 0).toNat.testBit k with
            | true =>
              simp only [cond_true]
              rw [decide_eq_true (show ((modsL (s.getD 0 0).toNat k).map fun c => ((c : Nat) : Int)).length + [((224 + k : Nat) : Int)].length ≤ 17592186044416 by rw [List.length_map]; simp only [List.length_cons, List.length_nil]; omega)]
              exact ih _ ⟨k + 1, by simp, by omega, by rw [modsL_succ, if_pos h, List.map_append]; rfl⟩ (by simp only [Int.toNat_natCast, ek]; omega)
            | false =>
              exact ih _ ⟨k + 1, by simp, by omega, by rw [modsL_succ, h]; simp⟩ (by simp only [Int.toNat_natCast, ek]; omega)
          · obtain rfl : k = 8 := by omega
            rw [decide_eq_false (by omega)]
            simp only [cond_false]
            have hml := modsL_len (s.getD 0 0).toNat 8
            refine loopF_post (F13_l8 n s) (fun d => ∃ i : Nat, d.1 = (i : Int) ∧ 2 ≤ i ∧ i ≤ 8 ∧ d.2 = (modsL (s.getD 0 0).toNat 8 ++ keys0 s i).map fun c => ((c : Nat) : Int)) (fun _ r => r.2 = 0 ∧ SetOf r.1 (SV s)) (fun d => 8 - d.1.toNat) ?_ n _ ⟨2, rfl, by omega, by omega, by simp [keys0]⟩ (by simp; omega)
            rintro kk2 ⟨x, m⟩ ⟨i, hx, hi2, hi8, hm⟩ ih2
            simp only at hx hm
            subst hx; subst hm
            simp only [F13_l8, h8]
            have hkl := keys0_len s i
            have hll : ((modsL (s.getD 0 0).toNat 8 ++ keys0 s i).map fun c => ((c : Nat) : Int)).length ≤ 16 := by rw [List.length_map, List.length_append]; omega
            by_cases hil : i < 8
            · have ek : ((i : Int) + 1).toNat = i + 1 := by omega
              have hb : (s.getD i 0).toNat < 256 := UInt8.toNat_lt _
              have hks := keys0_succ s i hi2 (by omega)
              rw [decide_eq_true (show (i : Int) < 8 by omega), inb_true (by omega) (by omega), w64 (n := (i : Int) + 1) (by omega) (by omega)]
              simp only [cond_true, Int.toNat_natCast]
              rw [w64 (n := (((s.getD i 0).toNat : Nat) : Int)) (by omega) (by omega)]
              by_cases h0 : (s.getD i 0).toNat > 0
              · rw [decide_eq_true (show (((s.getD i 0).toNat : Nat) : Int) > 0 by omega), decide_eq_true (show ((modsL (s.getD 0 0).toNat 8 ++ keys0 s i).map fun c => ((c : Nat) : Int)).length + [(((s.getD i 0).toNat : Nat) : Int)].length ≤ 17592186044416 by simp only [List.length_cons, List.length_nil]; omega)]
                exact ih2 _ ⟨i + 1, by simp, by omega, by omega, by rw [hks, if_pos h0]; simp⟩ (by simp only [Int.toNat_natCast, ek]; omega)
              · rw [decide_eq_false (show ¬ (((s.getD i 0).toNat : Nat) : Int) > 0 by omega)]
                exact ih2 _ ⟨i + 1, by simp, by omega, by omega, by rw [hks, if_neg h0, List.append_nil]⟩ (by simp only [Int.toNat_natCast, ek]; omega)
            · obtain rfl : i = 8 := by omega
              rw [decide_eq_false (by omega)]
              simp only [cond_false]
              obtain ⟨b', e1, e2⟩ := keySetP n ((modsL (s.getD 0 0).toNat 8 ++ keys0 s 8).map fun c => ((c : Nat) : Int)) (by omega) (by omega) (by omega)
              rw [e1]
              refine ⟨_, rfl, rfl, ?_⟩
              rw [keys0_eq s hf h2 h3] at e2
              exact SetOf.ofKeys e2
theorem SetOf.eq {a b : BitsL} {L : List Nat} (h : SetOf a L) (k : SetOf b L) : a = b := G4.ext h.good k.good fun c hc => by rw [h.same c hc, k.same c hc]
theorem readN (n : Nat) (hn : 400 < n) (s : Tx) (hs : s.length ≤ 4611686018427387904) : ∃ r, F12 n s = some r ∧ F13 n s = some r ∧ (r.2 = 0 → G4 r.1) := by
  by_cases h8 : s.length = 8
  · obtain ⟨r, h1, q1⟩ := readP8 n (by omega) s h8
    obtain ⟨r', h2, q2⟩ := readR8 n hn s h8
    unfold ReadQ at q1 q2
    split at q1
    · rename_i hh
      rw [if_pos hh] at q2
      exact ⟨r, h1, by rw [h2, q1, q2], fun h => by rw [q1] at h; cases h⟩
    · rename_i hh
      rw [if_neg hh] at q2
      split at q1
      · rename_i hh2
        rw [if_pos hh2] at q2
        exact ⟨r, h1, by rw [h2, q1, q2], fun h => by rw [q1] at h; cases h⟩
      · rename_i hh2
        rw [if_neg hh2] at q2
        exact ⟨r, h1, by rw [h2, show r' = r from Prod.ext (q2.2.eq q1.2) (by rw [q1.1, q2.1])], fun _ => q1.2.good⟩
  · unfold F12 F13
    by_cases h : s.length < 8
    · rw [decide_eq_true (show ((s.length : Nat) : Int) < 8 by omega)]
      exact ⟨_, rfl, rfl, fun h => by cases h⟩
    · rw [decide_eq_false (show ¬ ((s.length : Nat) : Int) < 8 by omega), decide_eq_true (show ((s.length : Nat) : Int) > 8 by omega)]
      exact ⟨_, rfl, rfl, fun h => by cases h⟩
end Go.Proofs.Ytnhdocmdjlijkaa
