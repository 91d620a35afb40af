import Derived.Test.YtekmnhplhoejdaaDoorFty
import Derived.Test.YtekmnhplhoejdaaDoorAm26
import Derived.Test.YtekmnhplhoejdaaDoorAm22
import Derived.Test.YtekmnhplhoejdaaDoorSKeyD
import Derived.Test.YtekmnhplhoejdaaDoorSUtfA
import Derived.Lib.SpaceU
/- The typist's signs, in plain Lean: what a key types, on both sides. -/
namespace Go.Proofs.YtekmnhplhoejdaaDoor
open Go Go.RowKit
set_option linter.unusedVariables false
set_option maxRecDepth 100000

/-- the fuel of the whole law -/
abbrev N0 : Nat := 5000
/-- what the key types: low, high; nothing: no sign -/
def chV (code : Int) : List UInt8 × List UInt8 := ((F59 N0 code).map fun r => (r.1, r.2.1)).getD ([], [])
def isCh (code : Int) : Bool := ((F59 N0 code).map fun r => r.2.2).getD false
def okCh (code : Int) : Bool :=
  F59 N0 code == some ((chV code).1, (chV code).2, isCh code) && (F58 N0 code false == some (chV code).1) && (F58 N0 code true == some (chV code).2)
    && ((chV code).1.isEmpty == !isCh code) && ((chV code).2.isEmpty == !isCh code) && (!isCh code || ((chV code).1.length == 1 && (chV code).2.length == 1))
theorem okCh_small : ∀ c : _root_.Fin 64, okCh ((c.val : Nat) : Int) = true := by decide +kernel
/-- the table -/
def tabT : List UInt8 := ([4, 97, 65, 5, 98, 66, 6, 99, 67, 7, 100, 68, 8, 101, 69, 9, 102, 70, 10, 103, 71, 11, 104, 72, 12, 105, 73, 13, 106, 74, 14, 107, 75, 15, 108, 76, 16, 109, 77, 17, 110, 78, 18, 111, 79, 19, 112, 80, 20, 113, 81, 21, 114, 82, 22, 115, 83, 23, 116, 84, 24, 117, 85, 25, 118, 86, 26, 119, 87, 27, 120, 88, 28, 121, 89, 29, 122, 90, 30, 49, 33, 31, 50, 64, 32, 51, 35, 33, 52, 36, 34, 53, 37, 35, 54, 94, 36, 55, 38, 37, 56, 42, 38, 57, 40, 39, 48, 41, 40, 10, 10, 44, 32, 32, 45, 45, 95, 54, 44, 60, 55, 46, 62] : List UInt8)
theorem tabT_lt : ∀ j : _root_.Fin 41, (tabT.getD (3 * j.val) 0).toNat < 64 := by decide +kernel
theorem tabT_len : tabT.length = 123 := rfl
theorem signs_far (n : Nat) (hn : 200 < n) (code : Int) (h : code < 0 ∨ 64 ≤ code) : F59 n code = some ([], [], false) := by
  unfold F59
  refine loopF_eq (F59_l2 n code) (fun _ => some ([], [], false)) (fun x => ∃ j : Nat, x = ((3 * j : Nat) : Int) ∧ j ≤ 41) (fun x => 123 - x.toNat) ?_ n 0 ⟨0, rfl, by omega⟩ (by simp; omega)
  rintro kk x ⟨j, rfl, hj⟩ ih
  simp only [F59_l2]
  rw [show ([4, 97, 65, 5, 98, 66, 6, 99, 67, 7, 100, 68, 8, 101, 69, 9, 102, 70, 10, 103, 71, 11, 104, 72, 12, 105, 73, 13, 106, 74, 14, 107, 75, 15, 108, 76, 16, 109, 77, 17, 110, 78, 18, 111, 79, 19, 112, 80, 20, 113, 81, 21, 114, 82, 22, 115, 83, 23, 116, 84, 24, 117, 85, 25, 118, 86, 26, 119, 87, 27, 120, 88, 28, 121, 89, 29, 122, 90, 30, 49, 33, 31, 50, 64, 32, 51, 35, 33, 52, 36, 34, 53, 37, 35, 54, 94, 36, 55, 38, 37, 56, 42, 38, 57, 40, 39, 48, 41, 40, 10, 10, 44, 32, 32, 45, 45, 95, 54, 44, 60, 55, 46, 62] : List UInt8) = tabT from rfl]
  by_cases hlt : j < 41
  · have ht := tabT_lt ⟨j, hlt⟩
    simp only at ht
    rw [decide_eq_true (show ((3 * j : Nat) : Int) < 123 by omega), inb_true (by omega) (show ((3 * j : Nat) : Int) < ((tabT.length : Nat) : Int) by rw [tabT_len]; omega)]
    simp only [cond_true, Int.toNat_natCast]
    generalize tabT.getD (3 * j) 0 = b at *
    rw [show (IntKind.wrap .i64 ((b.toNat : Nat) : Int) == code) = false by rw [w64 (by omega) (by omega), beq_eq_false_iff_ne]; omega]
    simp only [cond_false]
    refine ih _ ⟨j + 1, by rw [w64 (by omega) (by omega)]; omega, by omega⟩ ?_
    rw [w64 (by omega) (by omega)]
    simp only [Int.toNat_natCast]
    omega
  · obtain rfl : j = 41 := by omega
    rfl
theorem char_far (n : Nat) (code : Int) (h : code < 0 ∨ 64 ≤ code) (s : Bool) : F58 n code s = some [] := by
  unfold F58 F87
  rcases h with h | h
  · rw [decide_eq_false (show ¬ code ≥ 4 by omega)]
    simp only [cond_false, Option.bind_some]
    rw [decide_eq_false (show ¬ code ≥ 30 by omega)]
    rw [show (code == 44) = false by rw [beq_eq_false_iff_ne]; omega, show (code == 40) = false by rw [beq_eq_false_iff_ne]; omega, show (code == 45) = false by rw [beq_eq_false_iff_ne]; omega, show (code == 54) = false by rw [beq_eq_false_iff_ne]; omega, show (code == 55) = false by rw [beq_eq_false_iff_ne]; omega]
    cases s <;> rfl
  · rw [decide_eq_true (show code ≥ 4 by omega), decide_eq_false (show ¬ code ≤ 29 by omega)]
    simp only [cond_true, cond_false, Option.bind_some]
    rw [decide_eq_true (show code ≥ 30 by omega), decide_eq_false (show ¬ code ≤ 39 by omega)]
    rw [show (code == 44) = false by rw [beq_eq_false_iff_ne]; omega, show (code == 40) = false by rw [beq_eq_false_iff_ne]; omega, show (code == 45) = false by rw [beq_eq_false_iff_ne]; omega, show (code == 54) = false by rw [beq_eq_false_iff_ne]; omega, show (code == 55) = false by rw [beq_eq_false_iff_ne]; omega]
    cases s <;> rfl
/-- what a key types, for every number -/
theorem signs (code : Int) : F59 N0 code = some ((chV code).1, (chV code).2, isCh code) ∧ F58 N0 code false = some (chV code).1 ∧ F58 N0 code true = some (chV code).2
    ∧ (chV code).1.isEmpty = !isCh code ∧ (chV code).2.isEmpty = !isCh code ∧ (isCh code = true → (chV code).1.length = 1 ∧ (chV code).2.length = 1) := by
  by_cases h : code < 0 ∨ 64 ≤ code
  · have h1 := signs_far N0 (by decide) code h
    have e1 : chV code = ([], []) := by unfold chV; rw [h1]; rfl
    have e2 : isCh code = false := by unfold isCh; rw [h1]; rfl
    rw [e1, e2, h1, char_far N0 code h, char_far N0 code h]
    exact ⟨rfl, rfl, rfl, rfl, rfl, fun h => by cases h⟩
  · obtain ⟨c, rfl⟩ : ∃ c : Nat, code = (c : Int) := ⟨code.toNat, by omega⟩
    have := okCh_small ⟨c, by omega⟩
    simp only [okCh, Bool.and_eq_true, beq_iff_eq, Bool.or_eq_true, Bool.not_eq_true'] at this
    obtain ⟨⟨⟨⟨⟨a1, a2⟩, a3⟩, a4⟩, a5⟩, a6⟩ := this
    refine ⟨a1, a2, a3, a4, a5, fun h => ?_⟩
    rcases a6 with a6 | a6
    · rw [a6] at h; cases h
    · exact a6
end Go.Proofs.YtekmnhplhoejdaaDoor

/- Is a typist's state right? In plain Lean: both answer the same. -/
namespace Go.Proofs.YtekmnhplhoejdaaDoor
open Go Go.RowKit
set_option linter.unusedVariables false
set_option maxRecDepth 100000

theorem isCh_in (code : Int) (h : isCh code = true) : 0 ≤ code ∧ code < 64 := by
  by_cases q : code < 0 ∨ 64 ≤ code
  · have h1 := signs_far N0 (by decide) code q
    unfold isCh at h
    rw [h1] at h
    cases h
  · omega
theorem ch_nil (code : Int) : (!((chV code).1 == ([] : List UInt8))) = isCh code := by
  have h := (signs code).2.2.2.1
  cases e : (chV code).1 with
  | nil => rw [e] at h; simpa using h
  | cons a l => rw [e] at h; simpa using h
theorem printT (code : Int) : F23 N0 code = some (code == 42 || isCh code) := by
  unfold F23
  rw [(signs code).2.1]
  simp only [Option.bind_some, ch_nil]
  cases code == 42 <;> rfl
theorem typesT (code : Int) : F26 N0 code = some (code == 42 || isCh code) := by
  unfold F26
  rw [(signs code).1]
  simp only [Option.bind_some]
  cases isCh code <;> cases code == 42 <;> rfl
theorem hasT (n : Nat) (b : BitsL) (c : Nat) (hb : G4 b) (hc : c < 256) : F24 n b (c : Int) = some (tb b c) := hasP n b c hb hc
theorem low16 : ∀ r : _root_.Fin 16, decide (r.val ≠ 0) = (r.val.testBit 0 || r.val.testBit 1 || r.val.testBit 2 || r.val.testBit 3) := by decide
theorem lowT (b : BitsL) (hb : G4 b) : ((bitsI .and .u64 (b.getD 0 0) 15) != 0) = (tb b 0 || tb b 1 || tb b 2 || tb b 3) := by
  obtain ⟨h1, h2⟩ := hb.word 0
  have h3 : ∀ i, i < 4 → tb b i = (wd b 0 % 16).testBit i := fun i hi => by
    unfold tb
    rw [show i / 64 = 0 by omega, show i % 64 = i by omega, show (16 : Nat) = 2 ^ 4 from rfl, Nat.testBit_mod_two_pow]
    simp [hi]
  rw [h3 0 (by omega), h3 1 (by omega), h3 2 (by omega), h3 3 (by omega), h1, show (15 : Int) = ((15 : Nat) : Int) from rfl, kAnd _ _ h2 (by decide)]
  have e : wd b 0 &&& 15 = wd b 0 % 16 := Nat.and_two_pow_sub_one_eq_mod (wd b 0) 4
  rw [e]
  have := low16 ⟨wd b 0 % 16, by omega⟩
  simp only at this
  rw [← this]
  by_cases q : wd b 0 % 16 = 0
  · have h0 : ((wd b 0 % 16 : Nat) : Int) = 0 := by omega
    rw [h0, decide_eq_false (fun h => h q)]; rfl
  · rw [decide_eq_true q, bne_iff_ne]; omega
theorem betT (n : Nat) (v lo hi : Int) : F27 n v lo hi = some (decide (lo ≤ v ∧ v ≤ hi)) := by
  unfold F27
  by_cases h : lo ≤ v <;> simp [h]
/-- does a key repeat? -/
def repT (b : BitsL) (last wait : Int) : Bool := (last == 42 || isCh last) && tb b last.toNat && decide (1 ≤ wait ∧ wait ≤ 20)
def goodT (b : BitsL) (last wait : Int) : Bool := (last == 0 && wait == 0) || repT b last wait
def chkT (b : BitsL) (dead last wait : Int) (t : List UInt8) : Int :=
  if (tb b 0 || tb b 1 || tb b 2 || tb b 3) = true then 4 else if ¬ (0 ≤ dead ∧ dead ≤ 2) then 4 else if goodT b last wait = false then 4 else if 4096 < t.length then 2 else 0
theorem pr_in (last : Int) (h : (last == 42 || isCh last) = true) : 0 ≤ last ∧ last < 64 := by
  rcases Bool.or_eq_true_iff.1 h with h | h
  · rw [beq_iff_eq] at h; omega
  · exact isCh_in last h
theorem zeroT : (((0 : Int) == 42) || isCh 0) = false := by decide +kernel
theorem checkP (b : BitsL) (hb : G4 b) (caps : Bool) (dead last wait : Int) (t : List UInt8) : F9 N0 b caps dead last wait t = some (chkT b dead last wait t) := by
  have tail : ∀ g : Bool, F9_j2 N0 b dead t g = some (if (tb b 0 || tb b 1 || tb b 2 || tb b 3) = true then 4 else if ¬ (0 ≤ dead ∧ dead ≤ 2) then 4 else if g = false then 4 else if 4096 < t.length then 2 else 0) := fun g => by
    unfold F9_j2
    rw [lowT b hb]
    cases hl : (tb b 0 || tb b 1 || tb b 2 || tb b 3)
    · simp only [cond_false, Bool.false_eq_true, if_false]
      by_cases d1 : dead < 0
      · rw [decide_eq_true d1, if_pos (by omega)]; rfl
      · rw [decide_eq_false d1]
        by_cases d2 : dead > 2
        · rw [decide_eq_true d2, if_pos (by omega)]; rfl
        · rw [decide_eq_false d2, if_neg (by omega)]
          cases g
          · rfl
          · by_cases q : 4096 < t.length
            · rw [decide_eq_true (show ((t.length : Nat) : Int) > 4096 by omega), if_pos q]; rfl
            · rw [decide_eq_false (show ¬ ((t.length : Nat) : Int) > 4096 by omega), if_neg q]; rfl
    · rfl
  have rep : ((F23 N0 last).bind fun y_4 => (bif y_4 then ((F24 N0 b last).bind fun y_5 => (bif y_5 then (bif (decide (wait ≥ 1)) then (F9_j2 N0 b dead t (decide (wait ≤ 20))) else (F9_j2 N0 b dead t false)) else (F9_j2 N0 b dead t false))) else (F9_j2 N0 b dead t false))) = F9_j2 N0 b dead t (repT b last wait) := by
    rw [printT]
    simp only [Option.bind_some]
    unfold repT
    cases hp : (last == 42 || isCh last)
    · rfl
    · have hin := pr_in last hp
      obtain ⟨c, rfl⟩ : ∃ c : Nat, last = (c : Int) := ⟨last.toNat, by omega⟩
      rw [hasT N0 b c hb (by omega), Int.toNat_natCast]
      simp only [Option.bind_some, cond_true, Bool.true_and]
      cases tb b c
      · rfl
      · simp only [cond_true, Bool.true_and]
        by_cases w1 : wait ≥ 1
        · rw [decide_eq_true w1, cond_true]
          congr 1
          by_cases w2 : wait ≤ 20
          · rw [decide_eq_true w2, decide_eq_true (by omega)]
          · rw [decide_eq_false w2, decide_eq_false (by omega)]
        · rw [decide_eq_false w1, cond_false, decide_eq_false (show ¬ (1 ≤ wait ∧ wait ≤ 20) by omega)]
  unfold F9 chkT goodT
  rw [rep]
  cases h0 : last == 0
  · rw [cond_false, tail]; rfl
  · cases h1 : wait == 0
    · rw [cond_true, cond_false, tail]; rfl
    · rw [cond_true, cond_true, tail]; rfl
theorem checkR (b : BitsL) (hb : G4 b) (caps : Bool) (dead last wait : Int) (t : List UInt8) : F10 N0 b caps dead last wait t = some (chkT b dead last wait t) := by
  have tail : ∀ low g : Bool, F10_j6 N0 dead last wait t low g = some (if low = true then 4 else if ¬ (0 ≤ dead ∧ dead ≤ 2) then 4 else if ((last == 0 && wait == 0) || (last != 0 && g)) = false then 4 else if 4096 < t.length then 2 else 0) := fun low g => by
    unfold F10_j6
    rw [betT]
    have hlen : (bif (decide (((t.length : Nat) : Int) > 4096)) then some (2 : Int) else some 0) = some (if 4096 < t.length then 2 else 0) := by
      by_cases q : 4096 < t.length
      · rw [decide_eq_true (show ((t.length : Nat) : Int) > 4096 by omega), if_pos q]; rfl
      · rw [decide_eq_false (show ¬ ((t.length : Nat) : Int) > 4096 by omega), if_neg q]; rfl
    rw [hlen]
    cases low
    · simp only [Bool.false_eq_true, if_false, cond_false, Option.bind_some]
      by_cases d : 0 ≤ dead ∧ dead ≤ 2
      · rw [decide_eq_true d, if_neg (show ¬ ¬ (0 ≤ dead ∧ dead ≤ 2) from fun h => h d)]
        by_cases h0 : last = 0
        · subst h0
          by_cases h1 : wait = 0
          · subst h1; rfl
          · rw [show (wait != 0) = true by simp [h1], show (wait == 0) = false by simp [h1]]
            cases g <;> rfl
        · rw [show (last == 0) = false by simp [h0], show (last != 0) = true by simp [h0]]
          cases g <;> rfl
      · rw [decide_eq_false d, if_pos (show ¬ (0 ≤ dead ∧ dead ≤ 2) from d)]; rfl
    · rfl
  unfold F10
  refine loopF_eq (F10_l5 N0 b dead last wait t) (fun _ => some (chkT b dead last wait t)) (fun d => ∃ k : Nat, d = ((List.range k).any (tb b), (k : Int)) ∧ k ≤ 4) (fun d => 4 - d.2.toNat) ?_ N0 _ ⟨0, rfl, by omega⟩ (by decide)
  rintro kk d ⟨k, rfl, hk⟩ ih
  simp only [F10_l5]
  by_cases hk4 : k < 4
  · have wk : IntKind.wrap .i64 ((k : Int) + 1) = ((k + 1 : Nat) : Int) := by rw [w64 (by omega) (by omega)]; omega
    have hs : (List.range (k + 1)).any (tb b) = ((List.range k).any (tb b) || tb b k) := by rw [List.range_succ, List.any_append]; simp
    rw [decide_eq_true (show (k : Int) < 4 by omega), hasR N0 b k hb (by omega), wk]
    simp only [cond_true, Option.bind_some]
    cases hl : (List.range k).any (tb b)
    · rw [hl] at hs
      exact ih _ ⟨k + 1, by rw [hs]; simp, by omega⟩ (by simp only [Int.toNat_natCast]; omega)
    · rw [hl] at hs
      exact ih _ ⟨k + 1, by rw [hs]; simp, by omega⟩ (by simp only [Int.toNat_natCast]; omega)
  · obtain rfl : k = 4 := by omega
    rw [decide_eq_false (show ¬ ((4 : Nat) : Int) < 4 by omega), typesT]
    have hl : (List.range 4).any (tb b) = (tb b 0 || tb b 1 || tb b 2 || tb b 3) := by
      show (tb b 0 || (tb b 1 || (tb b 2 || (tb b 3 || false)))) = _
      cases tb b 0 <;> cases tb b 1 <;> cases tb b 2 <;> cases tb b 3 <;> rfl
    rw [hl]
    simp only [Option.bind_some, cond_false]
    have fin : ∀ g : Bool, g = repT b last wait → F10_j6 N0 dead last wait t (tb b 0 || tb b 1 || tb b 2 || tb b 3) g = some (chkT b dead last wait t) := fun g hg => by
      rw [tail]
      unfold chkT goodT
      have : (last != 0 && g) = repT b last wait := by
        by_cases h0 : last = 0
        · subst h0
          unfold repT
          rw [zeroT]; rfl
        · rw [show (last != 0) = true by simp [h0], hg]; rfl
      rw [this]
    cases hp : (last == 42 || isCh last)
    · exact fin false (by unfold repT; rw [hp]; rfl)
    · have hin := pr_in last hp
      obtain ⟨c, rfl⟩ : ∃ c : Nat, last = (c : Int) := ⟨last.toNat, by omega⟩
      rw [hasR N0 b c hb (by omega)]
      simp only [Option.bind_some, cond_true]
      cases ht : tb b c
      · exact fin false (by unfold repT; rw [hp, Int.toNat_natCast, ht]; rfl)
      · rw [betT]
        exact fin _ (by unfold repT; rw [hp, Int.toNat_natCast, ht]; rfl)
end Go.Proofs.YtekmnhplhoejdaaDoor

/- Accents, in plain Lean: a sign with a mark, on both sides. -/
namespace Go.Proofs.YtekmnhplhoejdaaDoor
open Go Go.RowKit
set_option linter.unusedVariables false
set_option maxRecDepth 100000

/-- what the document answers -/
def accV (dead : Int) (c : List UInt8) : List UInt8 := (F57 N0 dead c).getD []
/-- the program's two steps -/
def accP (dead : Int) (c : List UInt8) : Option (List UInt8) := (F88 N0 dead c).bind fun x => bif !(x == ([] : List UInt8)) then some x else (F84 N0 dead).bind fun a => some (a ++ c)
def okAcc (dead : Int) (c : List UInt8) : Bool := F57 N0 dead c == some (accV dead c) && accP dead c == some (accV dead c) && decide ((accV dead c).length ≤ 4)
theorem okAcc_all : ∀ (d : _root_.Fin 3) (c : _root_.Fin 64), isCh ((c.val : Nat) : Int) = true → okAcc ((d.val : Nat) : Int) (chV ((c.val : Nat) : Int)).1 = true ∧ okAcc ((d.val : Nat) : Int) (chV ((c.val : Nat) : Int)).2 = true := by decide +kernel
theorem okAcc_nil : ∀ d : _root_.Fin 3, F84 N0 ((d.val : Nat) : Int) = some (if d.val = 0 then [] else accV ((d.val : Nat) : Int) []) ∧ (d.val ≠ 0 → F57 N0 ((d.val : Nat) : Int) [] = some (accV ((d.val : Nat) : Int) [])) ∧ (accV ((d.val : Nat) : Int) []).length ≤ 4 := by decide +kernel
/-- a sign that a key types, with a mark -/
theorem acc (dead code : Int) (hd : 0 ≤ dead ∧ dead ≤ 2) (hc : isCh code = true) (high : Bool) :
    F57 N0 dead (if high = true then (chV code).2 else (chV code).1) = some (accV dead (if high = true then (chV code).2 else (chV code).1)) ∧ accP dead (if high = true then (chV code).2 else (chV code).1) = some (accV dead (if high = true then (chV code).2 else (chV code).1)) ∧ (accV dead (if high = true then (chV code).2 else (chV code).1)).length ≤ 4 := by
  have hin := isCh_in code hc
  obtain ⟨c, rfl⟩ : ∃ c : Nat, code = (c : Int) := ⟨code.toNat, by omega⟩
  obtain ⟨d, rfl⟩ : ∃ d : Nat, dead = (d : Int) := ⟨dead.toNat, by omega⟩
  obtain ⟨h1, h2⟩ := okAcc_all ⟨d, by omega⟩ ⟨c, by omega⟩ hc
  simp only [okAcc, Bool.and_eq_true, beq_iff_eq, decide_eq_true_eq] at h1 h2
  cases high
  · exact ⟨h1.1.1, h1.1.2, h1.2⟩
  · exact ⟨h2.1.1, h2.1.2, h2.2⟩
end Go.Proofs.YtekmnhplhoejdaaDoor

/- The last sign of a text, in plain Lean: what is struck, on both sides. -/
namespace Go.Proofs.YtekmnhplhoejdaaDoor
open Go Go.RowKit
open Ua (bt bt_lt cont runeV runeAt_V runeV_w runeR)
set_option linter.unusedVariables false

theorem contB {s : List UInt8} {k : Nat} (h : cont s k = true) : k < s.length ∧ bt s k / 64 = 2 := by
  unfold cont at h
  rw [Bool.and_eq_true, decide_eq_true_eq, beq_iff_eq] at h
  exact h
theorem contW (s : List UInt8) (p : Nat) (h : bt s p / 64 = 2) : (runeV s p).2 = 1 := by
  unfold runeV
  rw [if_neg (by omega), if_neg (by rintro ⟨h1, _⟩; omega), if_neg (by rintro ⟨h1, _⟩; omega), if_neg (by rintro ⟨h1, _⟩; omega)]
/-- behind the first byte of a wide rune stand such bytes -/
theorem wideC (s : List UInt8) (p i : Nat) (hi : 1 ≤ i) (hin : i < (runeV s p).2) : p + i < s.length ∧ bt s (p + i) / 64 = 2 := by
  unfold runeV at hin
  split at hin
  · simp at hin; omega
  · split at hin
    · rename_i c
      split at hin
      · have : i = 1 := by simp at hin; omega
        subst this
        exact contB c.2
      · simp at hin; omega
    · split at hin
      · rename_i c
        split at hin
        · have : i = 1 ∨ i = 2 := by simp at hin; omega
          rcases this with rfl | rfl
          · exact contB c.2.1
          · exact contB c.2.2
        · simp at hin; omega
      · split at hin
        · rename_i c
          split at hin
          · have : i = 1 ∨ i = 2 ∨ i = 3 := by simp at hin; omega
            rcases this with rfl | rfl | rfl
            · exact contB c.2.1
            · exact contB c.2.2.1
            · exact contB c.2.2.2
          · simp at hin; omega
        · simp at hin; omega
theorem bt_drop (s : List UInt8) (k j : Nat) : bt (s.drop k) j = bt s (k + j) := by
  unfold bt
  rw [List.getD_eq_getElem?_getD, List.getElem?_drop, ← List.getD_eq_getElem?_getD]
theorem cont_drop (s : List UInt8) (k j : Nat) : cont (s.drop k) j = cont s (k + j) := by
  unfold cont
  rw [bt_drop, List.length_drop]
  congr 1
  rw [Bool.eq_iff_iff, decide_eq_true_eq, decide_eq_true_eq]
  omega
theorem decL (s : List UInt8) (k : Nat) (h : k < s.length) : Lib.decodeL (s.drop k) = runeV s k := by
  have h1 := runeAt_V (s.drop k) 0 (by rw [List.length_drop]; omega)
  have h2 : runeV (s.drop k) 0 = runeV s k := by
    unfold runeV
    simp only [bt_drop, cont_drop, Nat.zero_add, Nat.add_zero]
  rw [← h2, ← h1]
  rfl
/-- how many bytes go -/
def mV (s : List UInt8) : Nat :=
  if 2 ≤ s.length ∧ (runeV s (s.length - 2)).2 = 2 then 2 else if 3 ≤ s.length ∧ (runeV s (s.length - 3)).2 = 3 then 3 else if 4 ≤ s.length ∧ (runeV s (s.length - 4)).2 = 4 then 4 else 1
theorem last_eq (s : List UInt8) (h0 : s ≠ []) (hb : ¬ bt s (s.length - 1) < 128) : (Lib.decodeLastL s).2 = mV s := by
  have hl : 0 < s.length := List.length_pos_iff.2 h0
  obtain ⟨e, he⟩ : ∃ e, s.length = e := ⟨_, rfl⟩
  have K := fun p => contW s p
  have H := fun p i h1 h2 => wideC s p i h1 h2
  have st : ∀ k, Lib.runeStartB (s.getD (e - k) 0) = (bt s (e - k) / 64 != 2) := fun k => rfl
  have hw := fun p => runeV_w s p
  unfold Lib.decodeLastL
  rw [if_neg h0, if_neg (show ¬ (s.getD (s.length - 1) 0).toNat < 128 from hb)]
  unfold mV
  rw [he] at hl hb ⊢
  have hd : ∀ k, k < e → Lib.decodeL (s.drop k) = runeV s k := fun k hk => decL s k (by omega)
  have fin : ∀ k, k < e → (if k + (Lib.decodeL (s.drop k)).2 = e then Lib.decodeL (s.drop k) else (Utf8.runeError, 1)).2 = if k + (runeV s k).2 = e then (runeV s k).2 else 1 := fun k hk => by
    rw [hd k hk]
    split <;> rfl
  unfold Lib.lastStart
  simp only [he, st]
  rw [he] at H
  by_cases e2 : e < 2
  · rw [if_pos e2, fin 0 (by omega)]
    have e1 : e = 1 := by omega
    subst e1
    rw [if_neg (show ¬ (2 ≤ 1 ∧ (runeV s (1 - 2)).2 = 2) by omega), if_neg (show ¬ (3 ≤ 1 ∧ (runeV s (1 - 3)).2 = 3) by omega), if_neg (show ¬ (4 ≤ 1 ∧ (runeV s (1 - 4)).2 = 4) by omega)]
    split <;> omega
  · rw [if_neg e2]
    by_cases a2 : bt s (e - 2) / 64 = 2
    · rw [if_neg (show ¬ (bt s (e - 2) / 64 != 2) = true by simp [a2])]
      have k2 := K _ a2
      rw [if_neg (show ¬ (2 ≤ e ∧ (runeV s (e - 2)).2 = 2) by omega)]
      by_cases e3 : e < 3
      · rw [if_pos e3, fin 0 (by omega), if_neg (show ¬ (3 ≤ e ∧ (runeV s (e - 3)).2 = 3) by omega), if_neg (show ¬ (4 ≤ e ∧ (runeV s (e - 4)).2 = 4) by omega)]
        have : e - 2 = 0 := by omega
        rw [this] at k2
        split <;> omega
      · rw [if_neg e3]
        by_cases a3 : bt s (e - 3) / 64 = 2
        · rw [if_neg (show ¬ (bt s (e - 3) / 64 != 2) = true by simp [a3])]
          have k3 := K _ a3
          rw [if_neg (show ¬ (3 ≤ e ∧ (runeV s (e - 3)).2 = 3) by omega)]
          by_cases e4 : e < 4
          · rw [if_pos e4, fin 0 (by omega), if_neg (show ¬ (4 ≤ e ∧ (runeV s (e - 4)).2 = 4) by omega)]
            have : e - 3 = 0 := by omega
            rw [this] at k3
            split <;> omega
          · rw [if_neg e4]
            by_cases a4 : bt s (e - 4) / 64 = 2
            · rw [if_neg (show ¬ (bt s (e - 4) / 64 != 2) = true by simp [a4])]
              have k4 := K _ a4
              rw [if_neg (show ¬ (4 ≤ e ∧ (runeV s (e - 4)).2 = 4) by omega)]
              by_cases e5 : e < 5
              · rw [if_pos e5, fin 0 (by omega)]
                have : e - 4 = 0 := by omega
                rw [this] at k4
                split <;> omega
              · rw [if_neg e5, fin (e - 5) (by omega)]
                have := hw (e - 5)
                split <;> omega
            · rw [if_pos (show (bt s (e - 4) / 64 != 2) = true by simp [a4]), fin (e - 4) (by omega)]
              have := hw (e - 4)
              split <;> split <;> omega
        · rw [if_pos (show (bt s (e - 3) / 64 != 2) = true by simp [a3]), fin (e - 3) (by omega)]
          have n4 : ¬ (4 ≤ e ∧ (runeV s (e - 4)).2 = 4) := fun ⟨q1, q2⟩ => by
            have := (H (e - 4) 1 (by omega) (by omega)).2
            rw [show e - 4 + 1 = e - 3 by omega] at this
            exact a3 this
          rw [if_neg n4]
          have := hw (e - 3)
          split <;> split <;> omega
    · rw [if_pos (show (bt s (e - 2) / 64 != 2) = true by simp [a2]), fin (e - 2) (by omega)]
      have n3 : ¬ (3 ≤ e ∧ (runeV s (e - 3)).2 = 3) := fun ⟨q1, q2⟩ => by
        have := (H (e - 3) 1 (by omega) (by omega)).2
        rw [show e - 3 + 1 = e - 2 by omega] at this
        exact a2 this
      have n4 : ¬ (4 ≤ e ∧ (runeV s (e - 4)).2 = 4) := fun ⟨q1, q2⟩ => by
        have := (H (e - 4) 2 (by omega) (by omega)).2
        rw [show e - 4 + 2 = e - 2 by omega] at this
        exact a2 this
      rw [if_neg n3, if_neg n4]
      have := hw (e - 2)
      split <;> split <;> omega
end Go.Proofs.YtekmnhplhoejdaaDoor

/- The last sign is struck, in plain Lean: WithoutLast. -/
namespace Go.Proofs.YtekmnhplhoejdaaDoor
open Go Go.RowKit
open Ua (bt bt_lt cont runeV runeAt_V runeV_w runeR)
set_option linter.unusedVariables false
set_option maxRecDepth 100000

def baseL (s : List UInt8) : List UInt8 := s.take (s.length - 1)
def Rg (s : List UInt8) : Nat → List UInt8
  | 0 => baseL s
  | k + 1 => if 4 - k ≤ s.length then (if (runeV s (s.length - (4 - k))).2 = 4 - k ∧ (1 < 4 - k ∨ bt s (s.length - 1) < 128) then s.take (s.length - (4 - k)) else Rg s k) else baseL s
theorem Rg_last (s : List UInt8) : Rg s 4 = s.take (s.length - (Lib.decodeLastL s).2) := by
  by_cases h0 : s = []
  · subst h0; rfl
  · have hl : 0 < s.length := List.length_pos_iff.2 h0
    by_cases hb : bt s (s.length - 1) < 128
    · have w1 : (runeV s (s.length - 1)).2 = 1 := by unfold runeV; rw [if_pos hb]
      have e1 : (Lib.decodeLastL s).2 = 1 := by
        unfold Lib.decodeLastL
        rw [if_neg h0, if_pos (show (s.getD (s.length - 1) 0).toNat < 128 from hb)]
      show (if 4 - 3 ≤ s.length then (if (runeV s (s.length - (4 - 3))).2 = 4 - 3 ∧ (1 < 4 - 3 ∨ bt s (s.length - 1) < 128) then s.take (s.length - (4 - 3)) else Rg s 3) else baseL s) = _
      rw [if_pos (by omega), if_pos ⟨w1, .inr hb⟩, e1]
    · rw [last_eq s h0 hb]
      show (if 4 - 3 ≤ s.length then (if (runeV s (s.length - (4 - 3))).2 = 4 - 3 ∧ (1 < 4 - 3 ∨ bt s (s.length - 1) < 128) then s.take (s.length - (4 - 3)) else Rg s 3) else baseL s) = _
      rw [if_pos (by omega), if_neg (by rintro ⟨_, h | h⟩; omega; exact hb h)]
      show (if 4 - 2 ≤ s.length then (if (runeV s (s.length - (4 - 2))).2 = 4 - 2 ∧ (1 < 4 - 2 ∨ bt s (s.length - 1) < 128) then s.take (s.length - (4 - 2)) else (if 4 - 1 ≤ s.length then (if (runeV s (s.length - (4 - 1))).2 = 4 - 1 ∧ (1 < 4 - 1 ∨ bt s (s.length - 1) < 128) then s.take (s.length - (4 - 1)) else (if 4 - 0 ≤ s.length then (if (runeV s (s.length - (4 - 0))).2 = 4 - 0 ∧ (1 < 4 - 0 ∨ bt s (s.length - 1) < 128) then s.take (s.length - (4 - 0)) else baseL s) else baseL s)) else baseL s)) else baseL s) = _
      unfold mV baseL
      by_cases c2 : 2 ≤ s.length ∧ (runeV s (s.length - 2)).2 = 2
      · rw [if_pos (show 4 - 2 ≤ s.length by omega), if_pos (show (runeV s (s.length - (4 - 2))).2 = 4 - 2 ∧ (1 < 4 - 2 ∨ bt s (s.length - 1) < 128) from ⟨c2.2, .inl (by omega)⟩), if_pos c2]
      · rw [if_neg c2]
        by_cases g2 : 2 ≤ s.length
        · rw [if_pos (show 4 - 2 ≤ s.length by omega), if_neg (show ¬ ((runeV s (s.length - (4 - 2))).2 = 4 - 2 ∧ (1 < 4 - 2 ∨ bt s (s.length - 1) < 128)) from fun h => c2 ⟨g2, h.1⟩)]
          by_cases c3 : 3 ≤ s.length ∧ (runeV s (s.length - 3)).2 = 3
          · rw [if_pos (show 4 - 1 ≤ s.length by omega), if_pos (show (runeV s (s.length - (4 - 1))).2 = 4 - 1 ∧ (1 < 4 - 1 ∨ bt s (s.length - 1) < 128) from ⟨c3.2, .inl (by omega)⟩), if_pos c3]
          · rw [if_neg c3]
            by_cases g3 : 3 ≤ s.length
            · rw [if_pos (show 4 - 1 ≤ s.length by omega), if_neg (show ¬ ((runeV s (s.length - (4 - 1))).2 = 4 - 1 ∧ (1 < 4 - 1 ∨ bt s (s.length - 1) < 128)) from fun h => c3 ⟨g3, h.1⟩)]
              by_cases c4 : 4 ≤ s.length ∧ (runeV s (s.length - 4)).2 = 4
              · rw [if_pos (show 4 - 0 ≤ s.length by omega), if_pos (show (runeV s (s.length - (4 - 0))).2 = 4 - 0 ∧ (1 < 4 - 0 ∨ bt s (s.length - 1) < 128) from ⟨c4.2, .inl (by omega)⟩), if_pos c4]
              · rw [if_neg c4]
                by_cases g4 : 4 ≤ s.length
                · rw [if_pos (show 4 - 0 ≤ s.length by omega), if_neg (show ¬ ((runeV s (s.length - (4 - 0))).2 = 4 - 0 ∧ (1 < 4 - 0 ∨ bt s (s.length - 1) < 128)) from fun h => c4 ⟨g4, h.1⟩)]
                · rw [if_neg (show ¬ 4 - 0 ≤ s.length by omega)]
            · rw [if_neg (show ¬ 4 - 1 ≤ s.length by omega), if_neg (by omega)]
        · rw [if_neg (show ¬ 4 - 2 ≤ s.length by omega), if_neg (by omega), if_neg (by omega)]
theorem withoutN (s : List UInt8) (hs : s.length ≤ 100000) : F89 N0 s = some (s.take (s.length - (Lib.decodeLastL s).2)) := by
  rw [← Rg_last]
  unfold F89
  have base : (bif s == ([] : List UInt8) then some s else bif subB s.length none (some (IntKind.wrap .i64 (((s.length : Nat) : Int) - 1))) then some (s.take (IntKind.wrap .i64 (((s.length : Nat) : Int) - 1)).toNat) else none) = some (baseL s) := by
    by_cases h0 : s = []
    · subst h0; rfl
    · have hl : 0 < s.length := List.length_pos_iff.2 h0
      rw [show (s == ([] : List UInt8)) = false from beq_eq_false_iff_ne.2 h0, w64 (by omega) (by omega), show subB s.length none (some (((s.length : Nat) : Int) - 1)) = true by simp [subB]; omega, show (((s.length : Nat) : Int) - 1).toNat = s.length - 1 by omega]
      rfl
  refine loopF_eq (F89_l2 N0 s) (fun x => some (Rg s (5 - x.toNat))) (fun x => ∃ v : Nat, x = (v : Int) ∧ 1 ≤ v ∧ v ≤ 5) (fun x => 5 - x.toNat) ?_ N0 1 ⟨1, rfl, by omega, by omega⟩ (by decide)
  rintro kk x ⟨v, rfl, h1, h5⟩ ih
  simp only [F89_l2, Int.toNat_natCast]
  rw [base]
  by_cases h4 : v ≤ 4
  · rw [decide_eq_true (show (v : Int) ≤ 4 by omega), cond_true]
    obtain ⟨k, hk⟩ : ∃ k, 5 - v = k + 1 := ⟨4 - v, by omega⟩
    have hkv : 4 - k = v := by omega
    rw [hk, Rg, hkv]
    by_cases hl : v ≤ s.length
    · have wv : IntKind.wrap .i64 (((s.length : Nat) : Int) - (v : Int)) = ((s.length - v : Nat) : Int) := by rw [w64 (by omega) (by omega)]; omega
      have wk : IntKind.wrap .i64 ((v : Int) + 1) = ((v + 1 : Nat) : Int) := by rw [w64 (by omega) (by omega)]; omega
      have nxt := ih ((v + 1 : Nat) : Int) ⟨v + 1, rfl, by omega, by omega⟩ (by simp only [Int.toNat_natCast]; omega)
      rw [Int.toNat_natCast, show 5 - (v + 1) = k by omega] at nxt
      have hsub : subB s.length none (some ((s.length - v : Nat) : Int)) = true := by simp [subB]
      rw [decide_eq_true (show (v : Int) ≤ ((s.length : Nat) : Int) by omega), wv, wk, runeR N0 s (s.length - v) (by omega) (by omega) (by decide), if_pos hl, hsub]
      simp only [cond_true, Option.bind_some, Int.toNat_natCast]
      by_cases hw : (runeV s (s.length - v)).2 = v
      · rw [show ((((runeV s (s.length - v)).2 : Nat) : Int) == (v : Int)) = true by rw [beq_iff_eq]; omega, cond_true]
        by_cases hv1 : 1 < v
        · rw [decide_eq_true (show (v : Int) > 1 by omega), if_pos ⟨hw, .inl hv1⟩]; rfl
        · obtain rfl : v = 1 := by omega
          rw [decide_eq_false (show ¬ ((1 : Nat) : Int) > 1 by omega), cond_false, show IntKind.wrap .i64 (((s.length : Nat) : Int) - 1) = ((s.length - 1 : Nat) : Int) from wv, inb_true (by omega) (show ((s.length - 1 : Nat) : Int) < ((s.length : Nat) : Int) by omega), cond_true, Int.toNat_natCast]
          by_cases hb : bt s (s.length - 1) < 128
          · rw [decide_eq_true (show ((((s.getD (s.length - 1) 0).toNat : Nat)) : Int) < 128 by have : (s.getD (s.length - 1) 0).toNat < 128 := hb; omega), if_pos ⟨hw, .inr hb⟩]; rfl
          · rw [decide_eq_false (show ¬ ((((s.getD (s.length - 1) 0).toNat : Nat)) : Int) < 128 by have : ¬ (s.getD (s.length - 1) 0).toNat < 128 := hb; omega), if_neg (by rintro ⟨_, h | h⟩; omega; exact hb h), cond_false]
            exact nxt
      · rw [show ((((runeV s (s.length - v)).2 : Nat) : Int) == (v : Int)) = false by rw [beq_eq_false_iff_ne]; omega, cond_false, if_neg (fun h => hw h.1)]
        exact nxt
    · rw [decide_eq_false (show ¬ (v : Int) ≤ ((s.length : Nat) : Int) by omega), if_neg hl]; rfl
  · obtain rfl : v = 5 := by omega
    rw [decide_eq_false (show ¬ ((5 : Nat) : Int) ≤ 4 by omega)]; rfl
end Go.Proofs.YtekmnhplhoejdaaDoor

/- One sign is typed, in plain Lean: the document's side. -/
namespace Go.Proofs.YtekmnhplhoejdaaDoor
open Go Go.RowKit
set_option linter.unusedVariables false
set_option maxRecDepth 100000

def putV (t a : List UInt8) : List UInt8 := if t.length + a.length ≤ 4096 then t ++ a else t
def letB (code : Int) : Bool := decide (4 ≤ code ∧ code ≤ 29)
def shiftB (b : BitsL) : Bool := tb b 225 || tb b 229
/-- which of the two signs -/
def signV (b : BitsL) (caps : Bool) (code : Int) : List UInt8 := if (shiftB b != (caps && letB code)) = true then (chV code).2 else (chV code).1
/-- the text, when a sign was typed -/
def tyV (b : BitsL) (caps : Bool) (dead : Int) (t : List UInt8) (code : Int) : List UInt8 :=
  if code = 42 then (if dead = 0 then t.take (t.length - (Lib.decodeLastL t).2) else t) else putV t (accV dead (signV b caps code))
theorem tyV_len (b : BitsL) (caps : Bool) (dead : Int) (t : List UInt8) (code : Int) (h : t.length ≤ 4096) : (tyV b caps dead t code).length ≤ 4096 := by
  unfold tyV putV
  split
  · split
    · rw [List.length_take]; omega
    · exact h
  · split
    · rw [List.length_append]; assumption
    · exact h
theorem moreR (b : BitsL) (caps : Bool) (dead last wait : Int) (t a : List UInt8) (ht : t.length ≤ 4096) (ha : a.length ≤ 4) : F56 N0 b caps dead last wait t a = some (b, caps, dead, last, wait, putV t a) := by
  unfold F56 putV
  rw [w64 (by omega) (by omega)]
  by_cases q : t.length + a.length ≤ 4096
  · rw [decide_eq_true (show ((t.length : Nat) : Int) ≤ 4096 - ((a.length : Nat) : Int) by omega), if_pos q, decide_eq_true (show t.length + a.length ≤ 9223372036854775807 by omega)]; rfl
  · rw [decide_eq_false (show ¬ ((t.length : Nat) : Int) ≤ 4096 - ((a.length : Nat) : Int) by omega), if_neg q]; rfl
theorem typedR (b : BitsL) (hb : G4 b) (caps : Bool) (dead last wait : Int) (t : List UInt8) (code : Int) (hd : 0 ≤ dead ∧ dead ≤ 2) (ht : t.length ≤ 4096) (hc : (code == 42 || isCh code) = true) :
    F54 N0 b caps dead last wait t code = some (b, caps, 0, last, wait, tyV b caps dead t code) := by
  unfold F54 tyV
  by_cases h42 : code = 42
  · subst h42
    rw [if_pos rfl, show ((42 : Int) == 42) = true from rfl, cond_true]
    by_cases h0 : dead = 0
    · subst h0
      rw [if_pos rfl, show ((0 : Int) == 0) = true from rfl, cond_true, withoutN t (by omega)]; rfl
    · rw [if_neg h0, show (dead == 0) = false by simpa using h0]; rfl
  · rw [if_neg h42, show (code == 42) = false by simpa using h42, cond_false]
    have hch : isCh code = true := by
      rw [show (code == 42) = false by simpa using h42] at hc; simpa using hc
    have hs := (signs code).1
    rw [hch] at hs
    rw [hs, show F25 N0 b 225 = some (tb b 225) from hasR N0 b 225 hb (by omega), show F25 N0 b 229 = some (tb b 229) from hasR N0 b 229 hb (by omega), betT, show decide (4 ≤ code ∧ code ≤ 29) = letB code from rfl]
    simp only [Option.bind_some]
    have j7 : ∀ x : Bool, F54_j7 N0 b caps dead last wait t ((chV code).1, (chV code).2, true) x = some (b, caps, 0, last, wait, putV t (accV dead (if x = true then (chV code).2 else (chV code).1))) := fun x => by
      have ha := acc dead code hd hch x
      unfold F54_j7 F54_j8
      cases x
      · simp only [Bool.false_eq_true, if_false] at ha ⊢
        rw [cond_false]
        rw [ha.1, Option.bind_some, moreR b caps dead last wait t _ ht ha.2.2]; rfl
      · simp only [if_true] at ha ⊢
        rw [cond_true]
        rw [ha.1, Option.bind_some, moreR b caps dead last wait t _ ht ha.2.2]; rfl
    have j9 : ∀ x : Bool, F54_j9 N0 b caps dead last wait t ((chV code).1, (chV code).2, true) x = some (b, caps, 0, last, wait, putV t (accV dead (if x = true then (chV code).2 else (chV code).1))) := fun x => by
      have ha := acc dead code hd hch x
      unfold F54_j9 F54_j10
      cases x
      · simp only [Bool.false_eq_true, if_false] at ha ⊢
        rw [cond_false]
        rw [ha.1, Option.bind_some, moreR b caps dead last wait t _ ht ha.2.2]; rfl
      · simp only [if_true] at ha ⊢
        rw [cond_true]
        rw [ha.1, Option.bind_some, moreR b caps dead last wait t _ ht ha.2.2]; rfl
    simp only [j7, j9]
    unfold signV shiftB
    cases tb b 225 <;> cases tb b 229 <;> cases caps <;> cases letB code <;> rfl
end Go.Proofs.YtekmnhplhoejdaaDoor

/- One sign is typed, in plain Lean: the program's side, for whatever follows. -/
namespace Go.Proofs.YtekmnhplhoejdaaDoor
open Go Go.RowKit
set_option linter.unusedVariables false
set_option maxRecDepth 100000

theorem letT (n : Nat) (code : Int) : F87 n code = some (letB code) := by
  unfold F87 letB
  by_cases h : 4 ≤ code
  · rw [decide_eq_true (show code ≥ 4 from h), cond_true]
    congr 1
    rw [Bool.eq_iff_iff, decide_eq_true_eq, decide_eq_true_eq]; omega
  · rw [decide_eq_false (show ¬ code ≥ 4 from h), decide_eq_false (show ¬ (4 ≤ code ∧ code ≤ 29) by omega)]; rfl
theorem shiftT (b : BitsL) (hb : G4 b) (n : Nat) (caps : Bool) (dead last wait : Int) (t : List UInt8) : F85 n b caps dead last wait t = some (shiftB b) := by
  unfold F85 shiftB
  rw [show F24 n b 225 = some (tb b 225) from hasT n b 225 hb (by omega), show F24 n b 229 = some (tb b 229) from hasT n b 229 hb (by omega)]
  cases tb b 225 <;> rfl
theorem charT (code : Int) (x : Bool) : F58 N0 code x = some (if x = true then (chV code).2 else (chV code).1) := by
  cases x
  · exact (signs code).2.1
  · exact (signs code).2.2.1
/-- what goes on behind the accent -/
def accE {R : Type} (dead : Int) (c : List UInt8) (J : List UInt8 → Option R) : Option R :=
  (F88 N0 dead c).bind fun y => (bif (!(y == ([] : List UInt8))) then (J y) else ((F84 N0 dead).bind fun z => (bif (decide (z.length + c.length ≤ 9223372036854775807)) then (J (z ++ c)) else none)))
theorem accE_eq {R : Type} (dead : Int) (c v : List UInt8) (J : List UInt8 → Option R) (h : accP dead c = some v) (hv : v.length ≤ 4) : accE dead c J = J v := by
  unfold accP at h
  unfold accE
  cases hx : F88 N0 dead c with
  | none => rw [hx] at h; cases h
  | some x =>
    rw [hx, Option.bind_some] at h
    rw [Option.bind_some]
    cases hn : (!(x == ([] : List UInt8))) with
    | true =>
      rw [hn, cond_true] at h
      rw [cond_true, Option.some.inj h]
    | false =>
      rw [hn, cond_false] at h
      rw [cond_false]
      cases ha : F84 N0 dead with
      | none => rw [ha] at h; cases h
      | some z =>
        rw [ha, Option.bind_some] at h
        have e := Option.some.inj h
        rw [Option.bind_some, decide_eq_true (show z.length + c.length ≤ 9223372036854775807 by rw [← List.length_append, e]; omega), cond_true, e]
def tyE {R : Type} (b : BitsL) (caps : Bool) (dead code lst wait : Int) (t : List UInt8) (K J1 J2 : List UInt8 → Option R) : Option R :=
  (bif (code == 42) then (bif (dead == 0) then ((F86 N0 t).bind fun y => (bif subB t.length none (some (IntKind.wrap .i64 (((t.length : Nat) : Int) - y.2))) then (K (t.take (IntKind.wrap .i64 (((t.length : Nat) : Int) - y.2)).toNat)) else none)) else (K t))
   else ((F85 N0 b caps dead lst wait t).bind fun y23 => (bif caps then ((F87 N0 code).bind fun y24 => ((F58 N0 code (!(y23 == y24))).bind fun y25 => accE dead y25 J1)) else ((F58 N0 code (!(y23 == false))).bind fun y28 => accE dead y28 J2))))
theorem last_le (t : List UInt8) : (Lib.decodeLastL t).2 ≤ t.length := by
  by_cases h0 : t = []
  · subst h0; decide
  · have hl : 0 < t.length := List.length_pos_iff.2 h0
    by_cases hb : Ua.bt t (t.length - 1) < 128
    · have e1 : (Lib.decodeLastL t).2 = 1 := by
        unfold Lib.decodeLastL
        rw [if_neg h0, if_pos (show (t.getD (t.length - 1) 0).toNat < 128 from hb)]
      omega
    · rw [last_eq t h0 hb]
      unfold mV
      split
      · omega
      · split
        · omega
        · split <;> omega
theorem tyE_eq {R : Type} (b : BitsL) (hb : G4 b) (caps : Bool) (dead code lst wait : Int) (t : List UInt8) (K J1 J2 : List UInt8 → Option R) (hd : 0 ≤ dead ∧ dead ≤ 2) (ht : t.length ≤ 4096) (hc : (code == 42 || isCh code) = true)
    (h1 : ∀ e : List UInt8, e.length ≤ 4 → J1 e = K (putV t e)) (h2 : ∀ e : List UInt8, e.length ≤ 4 → J2 e = K (putV t e)) : tyE b caps dead code lst wait t K J1 J2 = K (tyV b caps dead t code) := by
  unfold tyE tyV
  by_cases h42 : code = 42
  · subst h42
    rw [if_pos rfl, show ((42 : Int) == 42) = true from rfl, cond_true]
    by_cases h0 : dead = 0
    · subst h0
      have hl := last_le t
      rw [if_pos rfl, show ((0 : Int) == 0) = true from rfl, cond_true]
      unfold F86
      rw [decide_eq_true (show t.length ≤ 9223372036854775807 by omega), cond_true, Option.bind_some]
      simp only []
      have e : IntKind.wrap .i64 (((t.length : Nat) : Int) - (((Lib.decodeLastL t).2 : Nat) : Int)) = ((t.length - (Lib.decodeLastL t).2 : Nat) : Int) := by rw [w64 (by omega) (by omega)]; omega
      rw [e, show subB t.length none (some ((t.length - (Lib.decodeLastL t).2 : Nat) : Int)) = true by simp [subB], cond_true, Int.toNat_natCast]
    · rw [if_neg h0, show (dead == 0) = false by simpa using h0]; rfl
  · rw [if_neg h42, show (code == 42) = false by simpa using h42, cond_false, shiftT b hb, letT]
    have hch : isCh code = true := by
      rw [show (code == 42) = false by simpa using h42] at hc; simpa using hc
    have fin : ∀ (x : Bool) (J : List UInt8 → Option R), (∀ e : List UInt8, e.length ≤ 4 → J e = K (putV t e)) → accE dead (if x = true then (chV code).2 else (chV code).1) J = K (putV t (accV dead (if x = true then (chV code).2 else (chV code).1))) := fun x J hJ => by
      have ha := acc dead code hd hch x
      rw [accE_eq dead _ _ J ha.2.1 ha.2.2, hJ _ ha.2.2]
    simp only [Option.bind_some, charT]
    unfold signV
    cases caps
    · rw [cond_false, fin _ J2 h2]
      cases shiftB b <;> rfl
    · rw [cond_true, fin _ J1 h1]
      cases shiftB b <;> cases letB code <;> rfl
end Go.Proofs.YtekmnhplhoejdaaDoor

/- A held key repeats, in plain Lean: the program's loop. -/
namespace Go.Proofs.YtekmnhplhoejdaaDoor
open Go Go.RowKit
set_option linter.unusedVariables false
set_option maxRecDepth 100000

/-- one tick: what is dead, how long to wait, the text -/
def stepT (b : BitsL) (caps : Bool) (last : Int) (d : Int × Int × List UInt8) : Int × Int × List UInt8 :=
  if last = 0 then d else if d.2.1 = 1 then (0, 4, tyV b caps d.1 d.2.2 last) else (d.1, d.2.1 - 1, d.2.2)
def itT (b : BitsL) (caps : Bool) (last : Int) : Nat → Int × Int × List UInt8 → Int × Int × List UInt8
  | 0, d => d
  | n + 1, d => itT b caps last n (stepT b caps last d)
/-- what stays right -/
def okT (last : Int) (d : Int × Int × List UInt8) : Prop := (0 ≤ d.1 ∧ d.1 ≤ 2) ∧ (last ≠ 0 → 1 ≤ d.2.1 ∧ d.2.1 ≤ 20) ∧ d.2.2.length ≤ 4096
theorem okT_step {b : BitsL} {caps : Bool} {last : Int} {d : Int × Int × List UInt8} (h : okT last d) : okT last (stepT b caps last d) := by
  unfold stepT
  split
  · exact h
  · rename_i h0
    have h1 := h.2.1 h0
    split
    · exact ⟨by simp, fun _ => by simp, tyV_len b caps d.1 d.2.2 last h.2.2⟩
    · rename_i h2
      exact ⟨h.1, fun _ => by show 1 ≤ d.2.1 - 1 ∧ d.2.1 - 1 ≤ 20; omega, h.2.2⟩
theorem itT_zero (b : BitsL) (caps : Bool) : ∀ (n : Nat) (d : Int × Int × List UInt8), itT b caps 0 n d = d
  | 0, d => rfl
  | n + 1, d => by rw [itT, show stepT b caps 0 d = d from if_pos rfl, itT_zero b caps n]
theorem okT_it {b : BitsL} {caps : Bool} {last : Int} : ∀ (n : Nat) {d : Int × Int × List UInt8}, okT last d → okT last (itT b caps last n d)
  | 0, d, h => h
  | n + 1, d, h => okT_it n (okT_step h)
theorem repeatP {k7 : (Int × List Int × Bool × Int × Int × Int × List UInt8) → Option (List Int × Bool × Int × Int × Int × List UInt8 × Int)} (l : List (Int × (Int × Bool) × Int)) (x : Int) (b : BitsL) (hb : G4 b) (caps : Bool) (last : Int) (N : Nat) (hN : N ≤ 100)
    (hl : (l.getD x.toNat (0, ((0, false), 0))).2.2 = (N : Int)) (hlast : last = 0 ∨ (last == 42 || isCh last) = true) (d : Int × Int × List UInt8) (hd : okT last d) :
    loopF (F7_l1997 N0 k7 l x b caps last) N0 (0, d.1, d.2.1, d.2.2) = F7_j1929 N0 k7 x (b, caps, (itT b caps last N d).1, last, (itT b caps last N d).2.1, (itT b caps last N d).2.2) := by
  refine loopF_eq (F7_l1997 N0 k7 l x b caps last) (fun e => F7_j1929 N0 k7 x (b, caps, (itT b caps last (N - e.1.toNat) e.2).1, last, (itT b caps last (N - e.1.toNat) e.2).2.1, (itT b caps last (N - e.1.toNat) e.2).2.2))
    (fun e => ∃ s : Nat, e = ((s : Int), e.2.1, e.2.2.1, e.2.2.2) ∧ s ≤ N ∧ okT last e.2) (fun e => N - e.1.toNat) ?_ N0 _ ⟨0, rfl, by omega, hd⟩ (by show N - (0 : Int).toNat < 5000; simp; omega)
  rintro kk ⟨s', dd, ww, tt⟩ ⟨s, e1, hs, hok⟩ ih
  simp only [Prod.mk.injEq, and_true] at e1
  subst e1
  simp only [F7_l1997, hl, Int.toNat_natCast]
  by_cases hsN : s < N
  · rw [decide_eq_true (show (s : Int) < (N : Int) by omega), cond_true]
    by_cases h0 : last = 0
    · subst h0
      rw [show ((0 : Int) == 0) = true from rfl, cond_true, itT_zero]
    · rw [show (last == 0) = false by simpa using h0, cond_false]
      have hw := hok.2.1 h0
      have hc := hlast.resolve_left h0
      have ws : IntKind.wrap .i64 ((s : Int) + 1) = ((s + 1 : Nat) : Int) := by rw [w64 (by omega) (by omega)]; omega
      have ww1 : IntKind.wrap .i64 (ww - 1) = ww - 1 := by have h1 : 1 ≤ ww ∧ ww ≤ 20 := hw; exact w64 (by omega) (by omega)
      obtain ⟨m, hm⟩ : ∃ m, N - s = m + 1 := ⟨N - s - 1, by omega⟩
      have hm2 : N - (s + 1) = m := by omega
      rw [hm, itT, ww1, ws]
      by_cases hw1 : ww = 1
      · subst hw1
        have est : stepT b caps last (dd, 1, tt) = (0, 4, tyV b caps dd tt last) := by unfold stepT; rw [if_neg h0, if_pos rfl]
        rw [show ((1 : Int) - 1 == 0) = true from rfl, cond_true]
        have J : ∀ e : List UInt8, e.length ≤ 4 → ∀ K : List UInt8 → Option (List Int × Bool × Int × Int × Int × List UInt8 × Int), (bif (decide ((IntKind.wrap .i64 (((tt.length : Nat) : Int) + ((e.length : Nat) : Int))) ≤ 4096)) then (bif (decide (tt.length + e.length ≤ 9223372036854775807)) then (K (tt ++ e)) else none) else (K tt)) = K (putV tt e) := fun e he K => by
          have ht : tt.length ≤ 4096 := hok.2.2
          unfold putV
          rw [w64 (by omega) (by omega)]
          by_cases q : tt.length + e.length ≤ 4096
          · rw [decide_eq_true (show ((tt.length : Nat) : Int) + ((e.length : Nat) : Int) ≤ 4096 by omega), if_pos q, decide_eq_true (show tt.length + e.length ≤ 9223372036854775807 by omega)]; rfl
          · rw [decide_eq_false (show ¬ ((tt.length : Nat) : Int) + ((e.length : Nat) : Int) ≤ 4096 by omega), if_neg q]; rfl
        have hty := tyE_eq b hb caps dd last last ((1 : Int) - 1) tt (F7_j2006 N0 kk (s : Int)) (F7_j2007 N0 kk (s : Int) tt) (F7_j2010 N0 kk (s : Int) tt) hok.1 hok.2.2 hc (fun e he => J e he (F7_j2006 N0 kk (s : Int))) (fun e he => J e he (F7_j2006 N0 kk (s : Int)))
        refine Eq.trans hty ?_
        show kk (IntKind.wrap .i64 ((s : Int) + 1), 0, 4, tyV b caps dd tt last) = _
        rw [ws, est]
        have := ih (((s + 1 : Nat) : Int), 0, 4, tyV b caps dd tt last) ⟨s + 1, rfl, by omega, by have := okT_step (b := b) (caps := caps) hok; rw [est] at this; exact this⟩ (by simp only [Int.toNat_natCast]; omega)
        rw [this]
        simp only [Int.toNat_natCast, hm2]
      · have est : stepT b caps last (dd, ww, tt) = (dd, ww - 1, tt) := by unfold stepT; rw [if_neg h0, if_neg hw1]
        rw [show (ww - 1 == 0) = false by rw [beq_eq_false_iff_ne]; omega, cond_false, est]
        have := ih (((s + 1 : Nat) : Int), dd, ww - 1, tt) ⟨s + 1, rfl, by omega, by have := okT_step (b := b) (caps := caps) hok; rw [est] at this; exact this⟩ (by simp only [Int.toNat_natCast]; omega)
        rw [this]
        simp only [Int.toNat_natCast, hm2]
  · obtain rfl : s = N := by omega
    rw [decide_eq_false (show ¬ ((s : Nat) : Int) < ((s : Nat) : Int) by omega), Nat.sub_self]; rfl
end Go.Proofs.YtekmnhplhoejdaaDoor

/- A held key repeats, in plain Lean: the document's loop. -/
namespace Go.Proofs.YtekmnhplhoejdaaDoor
open Go Go.RowKit
set_option linter.unusedVariables false
set_option maxRecDepth 100000

theorem repeatR (b : BitsL) (hb : G4 b) (caps : Bool) (last : Int) (N : Nat) (hN : N ≤ 100) (hlast : last = 0 ∨ (last == 42 || isCh last) = true) (d : Int × Int × List UInt8) (hd : okT last d) :
    loopF (F22_l8 N0 (N : Int)) N0 (0, b, caps, d.1, last, d.2.1, d.2.2) = some (b, caps, (itT b caps last N d).1, last, (itT b caps last N d).2.1, (itT b caps last N d).2.2, 0) := by
  refine loopF_eq (F22_l8 N0 (N : Int)) (fun e => some (b, caps, (itT b caps last (N - e.1.toNat) (e.2.2.2.1, e.2.2.2.2.2.1, e.2.2.2.2.2.2)).1, last, (itT b caps last (N - e.1.toNat) (e.2.2.2.1, e.2.2.2.2.2.1, e.2.2.2.2.2.2)).2.1, (itT b caps last (N - e.1.toNat) (e.2.2.2.1, e.2.2.2.2.2.1, e.2.2.2.2.2.2)).2.2, 0))
    (fun e => ∃ (s : Nat) (q : Int × Int × List UInt8), e = ((s : Int), b, caps, q.1, last, q.2.1, q.2.2) ∧ s ≤ N ∧ okT last q) (fun e => N - e.1.toNat) ?_ N0 _ ⟨0, d, rfl, by omega, hd⟩ (by show N - (0 : Int).toNat < 5000; simp; omega)
  rintro kk e ⟨s, ⟨dd, ww, tt⟩, rfl, hs, hok⟩ ih
  simp only [F22_l8, Int.toNat_natCast]
  by_cases hsN : s < N
  · rw [decide_eq_true (show (s : Int) < (N : Int) by omega), cond_true]
    have ws : IntKind.wrap .i64 ((s : Int) + 1) = ((s + 1 : Nat) : Int) := by rw [w64 (by omega) (by omega)]; omega
    obtain ⟨m, hm⟩ : ∃ m, N - s = m + 1 := ⟨N - s - 1, by omega⟩
    have hm2 : N - (s + 1) = m := by omega
    rw [hm, itT]
    have nxt := ih (((s + 1 : Nat) : Int), b, caps, (stepT b caps last (dd, ww, tt)).1, last, (stepT b caps last (dd, ww, tt)).2.1, (stepT b caps last (dd, ww, tt)).2.2) ⟨s + 1, stepT b caps last (dd, ww, tt), rfl, by omega, okT_step hok⟩ (by simp only [Int.toNat_natCast]; omega)
    simp only [Int.toNat_natCast, hm2] at nxt
    refine Eq.trans ?_ nxt
    by_cases h0 : last = 0
    · subst h0
      rw [show ((0 : Int) != 0) = false from rfl, cond_false, ws, show stepT b caps 0 (dd, ww, tt) = (dd, ww, tt) from if_pos rfl]
    · rw [show (last != 0) = true by simp [h0], cond_true]
      have hw := hok.2.1 h0
      have hc := hlast.resolve_left h0
      by_cases hw1 : ww = 1
      · subst hw1
        have est : stepT b caps last (dd, 1, tt) = (0, 4, tyV b caps dd tt last) := by unfold stepT; rw [if_neg h0, if_pos rfl]
        rw [show ((1 : Int) == 1) = true from rfl, cond_true, typedR b hb caps dd last 1 tt last hok.1 hok.2.2 hc, Option.bind_some, est]
        unfold F22_j9
        simp only []
        rw [show (last != 0) = true by simp [h0], cond_true, ws]; rfl
      · have est : stepT b caps last (dd, ww, tt) = (dd, ww - 1, tt) := by unfold stepT; rw [if_neg h0, if_neg hw1]
        rw [show (ww == 1) = false by simpa using hw1, cond_false, est]
        unfold F22_j9
        simp only []
        have h1 : 1 ≤ ww ∧ ww ≤ 20 := hw
        rw [show (last != 0) = true by simp [h0], cond_true, ws, w64 (by omega) (by omega)]
  · obtain rfl : s = N := by omega
    rw [decide_eq_false (show ¬ ((s : Nat) : Int) < ((s : Nat) : Int) by omega), Nat.sub_self]; rfl
end Go.Proofs.YtekmnhplhoejdaaDoor

/- One key goes down or up, in plain Lean. -/
namespace Go.Proofs.YtekmnhplhoejdaaDoor
open Go Go.RowKit
set_option linter.unusedVariables false
set_option maxRecDepth 100000

theorem apply1 (b : BitsL) (hb : G4 b) (c : Int) (d : Bool) : ∃ r, F51 N0 b [(c, d)] = some r ∧ F55 N0 b [(c, d)] = some r ∧ (r.2 = 0 → G4 r.1 ∧ 4 ≤ c ∧ c ≤ 255) := by
  obtain ⟨r, h1, h2⟩ := applyN N0 b hb [(c, d)] (by simp) (by simp [N0])
  refine ⟨r, h1, h2, fun h0 => ?_⟩
  have e1 : ∀ x : Int × BitsL, loopF (F51_l2 N0 [(c, d)]) 5000 x = F51_l2 N0 [(c, d)] (loopF (F51_l2 N0 [(c, d)]) 4999) x := fun _ => rfl
  have e2 : ∀ x : Int × BitsL, loopF (F51_l2 N0 [(c, d)]) 4999 x = F51_l2 N0 [(c, d)] (loopF (F51_l2 N0 [(c, d)]) 4998) x := fun _ => rfl
  unfold F51 at h1
  rw [show N0 = 5000 from rfl] at h1
  rw [show N0 = 5000 from rfl] at e1 e2
  rw [e1] at h1
  simp only [F51_l2, List.length_cons, List.length_nil, show ((0 : Int)).toNat = 0 from rfl, show List.getD [(c, d)] 0 (0, false) = (c, d) from rfl] at h1
  rw [decide_eq_true (show (0 : Int) < (((0 + 1 : Nat)) : Int) by omega), inb_true (by omega) (show (0 : Int) < (((0 + 1 : Nat)) : Int) by omega)] at h1
  simp only [cond_true] at h1
  by_cases h4 : c < 4
  · rw [decide_eq_true h4, cond_true] at h1
    rw [← Option.some.inj h1] at h0
    exact absurd h0 (by decide)
  · rw [decide_eq_false h4, cond_false] at h1
    by_cases h255 : c > 255
    · rw [decide_eq_true h255, cond_true] at h1
      rw [← Option.some.inj h1] at h0
      exact absurd h0 (by decide)
    · obtain ⟨cn, rfl⟩ : ∃ cn : Nat, c = (cn : Int) := ⟨c.toNat, by omega⟩
      rw [decide_eq_false h255, cond_false, hasP 5000 b cn hb (by omega), Option.bind_some] at h1
      have hj : cn % 64 < 64 := Nat.mod_lt _ (by omega)
      have hflip : b.set ((((cn / 64 : Nat) : Int)).toNat) (bitsI .xor .u64 (b.getD ((((cn / 64 : Nat) : Int)).toNat) 0) (shlI .u64 1 ((cn % 64 : Nat) : Int))) = flipB b cn := by
        obtain ⟨e1, e2⟩ := hb.word (cn / 64)
        rw [Int.toNat_natCast, e1, kShl _ hj, kXor _ _ e2 (two64 _ hj)]; rfl
      by_cases ht : tb b cn = d
      · rw [show (tb b cn == d) = true from beq_iff_eq.2 ht, cond_true] at h1
        rw [← Option.some.inj h1] at h0
        exact absurd h0 (by decide)
      · rw [show (tb b cn == d) = false from beq_eq_false_iff_ne.2 ht, cond_false, tdiv64, tmod64, w64 (n := ((cn / 64 : Nat) : Int)) (by omega) (by omega), inb_true (by omega) (show ((cn / 64 : Nat) : Int) < ((4 : Nat) : Int) by omega), ku64 (cn % 64) (by omega), decide_eq_true (show (0 : Int) ≤ ((cn % 64 : Nat) : Int) by omega), hflip] at h1
        simp only [cond_true] at h1
        have e3 : loopF (F51_l2 5000 [((cn : Int), d)]) 4999 (1, flipB b cn) = some (flipB b cn, 0) := rfl
        have h5 : some (flipB b cn, (0 : Int)) = some r := by rw [← e3]; exact h1
        rw [← Option.some.inj h5]
        exact ⟨flip_good hb cn, by omega, by omega⟩
end Go.Proofs.YtekmnhplhoejdaaDoor

/- One stroke, in plain Lean: the document's side. -/
namespace Go.Proofs.YtekmnhplhoejdaaDoor
open Go Go.RowKit
set_option linter.unusedVariables false
set_option maxRecDepth 100000

abbrev TyS := List Int × Bool × Int × Int × Int × List UInt8 × Int
def zeroS (e : Int) : TyS := (List.replicate 4 0, false, 0, 0, 0, [], e)
/-- a key of which the bits are known by now -/
def keyV (b : BitsL) (caps : Bool) (dead last wait : Int) (t : List UInt8) (code : Int) (down : Bool) : TyS :=
  if down = false then (if code = last then (b, caps, dead, 0, 0, t, 0) else (b, caps, dead, last, wait, t, 0))
  else if (code == 42 || isCh code) = true then (b, caps, 0, code, 20, tyV b caps dead t code, 0)
  else if code = 57 then (b, !caps, dead, last, wait, t, 0)
  else if code = 47 then (b, caps, (if shiftB b = true then 2 else 1), 0, 0, (if dead = 0 then t else putV t (accV dead [])), 0)
  else (b, caps, dead, last, wait, t, 0)
def strV (b : BitsL) (caps : Bool) (dead last wait : Int) (t : List UInt8) (kind code : Int) (down : Bool) (m : Int) : TyS :=
  if kind = 2 then (if 0 ≤ m ∧ m ≤ 100 then (b, caps, (itT b caps last m.toNat (dead, wait, t)).1, last, (itT b caps last m.toNat (dead, wait, t)).2.1, (itT b caps last m.toNat (dead, wait, t)).2.2, 0) else zeroS 1)
  else if kind ≠ 1 then zeroS 1
  else match F51 N0 b [(code, down)] with
    | some r => if r.2 ≠ 0 then zeroS r.2 else keyV r.1 caps dead last wait t code down
    | none => zeroS 0
theorem struckR (b : BitsL) (hb : G4 b) (caps : Bool) (dead last wait : Int) (t : List UInt8) (kind code : Int) (down : Bool) (m : Int) (hlast : last = 0 ∨ (last == 42 || isCh last) = true) (hd : okT last (dead, wait, t)) :
    F22 N0 b caps dead last wait t kind code down m = some (strV b caps dead last wait t kind code down m) := by
  unfold F22 strV
  by_cases k2 : kind = 2
  · rw [show (kind == 2) = true by simpa using k2, cond_true, if_pos k2, betT, Option.bind_some]
    by_cases hm : 0 ≤ m ∧ m ≤ 100
    · obtain ⟨N, rfl⟩ : ∃ N : Nat, m = (N : Int) := ⟨m.toNat, by omega⟩
      rw [decide_eq_true hm, if_pos hm, Int.toNat_natCast]
      exact repeatR b hb caps last N (by omega) hlast (dead, wait, t) hd
    · rw [decide_eq_false hm, if_neg hm]; rfl
  · rw [show (kind == 2) = false by simpa using k2, cond_false, if_neg k2]
    by_cases k1 : kind = 1
    · subst k1
      obtain ⟨r, h1, h2, h3⟩ := apply1 b hb code down
      rw [show ((1 : Int) != 1) = false from rfl, cond_false, if_neg (fun h => h rfl), h1, h2, Option.bind_some]
      simp only []
      by_cases hr : r.2 = 0
      · obtain ⟨hg, hc4, hc255⟩ := h3 hr
        rw [show (r.2 != 0) = false by simp [hr], cond_false, if_neg (fun h => h hr)]
        unfold keyV
        cases down
        · rw [if_pos rfl]
          by_cases hl : code = last
          · rw [if_pos hl, show (code == last) = true by simpa using hl]; rfl
          · rw [if_neg hl, show (code == last) = false by simpa using hl]; rfl
        · rw [if_neg (by decide), typesT]
          simp only [Option.bind_some, Bool.not_true, cond_false]
          cases hp : (code == 42 || isCh code)
          · rw [cond_false, if_neg (by decide)]
            by_cases h57 : code = 57
            · rw [if_pos h57, show (code == 57) = true by simpa using h57]; rfl
            · rw [if_neg h57, show (code == 57) = false by simpa using h57, cond_false]
              by_cases h47 : code = 47
              · rw [if_pos h47, show (code == 47) = true by simpa using h47, cond_true]
                have j10 : ∀ q : List Int × Bool × Int × Int × Int × List UInt8, F22_j10 N0 r q = some (q.1, q.2.1, (if shiftB r.1 = true then 2 else 1), 0, 0, q.2.2.2.2.2, 0) := fun ⟨q1, q2, q3, q4, q5, q6⟩ => by
                  unfold F22_j10 shiftB
                  simp only []
                  rw [show F25 N0 r.1 225 = some (tb r.1 225) from hasR N0 r.1 225 hg (by omega), show F25 N0 r.1 229 = some (tb r.1 229) from hasR N0 r.1 229 hg (by omega)]
                  cases tb r.1 225 <;> cases tb r.1 229 <;> rfl
                by_cases h0 : dead = 0
                · rw [if_pos h0, show (dead != 0) = false by simp [h0], cond_false, j10]
                · have hdd : 0 ≤ dead ∧ dead ≤ 2 := hd.1
                  obtain ⟨dn, rfl⟩ : ∃ dn : Nat, dead = (dn : Int) := ⟨dead.toNat, by omega⟩
                  obtain ⟨a1, a2, a3⟩ := okAcc_nil ⟨dn, by omega⟩
                  rw [if_neg h0, show (((dn : Nat) : Int) != 0) = true by simp at h0 ⊢; omega, cond_true, a2 (by simp; omega), Option.bind_some, moreR r.1 caps _ last wait t _ hd.2.2 a3, Option.bind_some, j10]
              · rw [if_neg h47, show (code == 47) = false by simpa using h47]; rfl
          · rw [cond_true, if_pos rfl, typedR r.1 hg caps dead last wait t code hd.1 hd.2.2 hp]; rfl
      · rw [show (r.2 != 0) = true by simp [hr], cond_true, if_pos hr]; rfl
    · rw [show (kind != 1) = true by simp [k1], cond_true, if_pos k1]; rfl
end Go.Proofs.YtekmnhplhoejdaaDoor

/- One stroke, in plain Lean: the program's side. -/
namespace Go.Proofs.YtekmnhplhoejdaaDoor
open Go Go.RowKit
set_option linter.unusedVariables false
set_option maxRecDepth 100000

/-- how it goes on behind a stroke -/
def goS (k7 : (Int × List Int × Bool × Int × Int × Int × List UInt8) → Option TyS) (x : Int) (v : TyS) : Option TyS :=
  if v.2.2.2.2.2.2 = 0 then k7 (IntKind.wrap .i64 (x + 1), v.1, v.2.1, v.2.2.1, v.2.2.2.1, v.2.2.2.2.1, v.2.2.2.2.2.1) else some (zeroS v.2.2.2.2.2.2)
theorem putJ {R : Type} (tt e : List UInt8) (ht : tt.length ≤ 4096) (he : e.length ≤ 4) (K : List UInt8 → Option R) : (bif (decide ((IntKind.wrap .i64 (((tt.length : Nat) : Int) + ((e.length : Nat) : Int))) ≤ 4096)) then (bif (decide (tt.length + e.length ≤ 9223372036854775807)) then (K (tt ++ e)) else none) else (K tt)) = K (putV tt e) := by
  unfold putV
  rw [w64 (by omega) (by omega)]
  by_cases q : tt.length + e.length ≤ 4096
  · rw [decide_eq_true (show ((tt.length : Nat) : Int) + ((e.length : Nat) : Int) ≤ 4096 by omega), if_pos q, decide_eq_true (show tt.length + e.length ≤ 9223372036854775807 by omega)]; rfl
  · rw [decide_eq_false (show ¬ ((tt.length : Nat) : Int) + ((e.length : Nat) : Int) ≤ 4096 by omega), if_neg q]; rfl
theorem strokeP (l : List (Int × (Int × Bool) × Int)) (k7 : (Int × List Int × Bool × Int × Int × Int × List UInt8) → Option TyS) (j : Nat) (hj : j < l.length) (kind code m : Int) (down : Bool) (he : l.getD j (0, ((0, false), 0)) = (kind, ((code, down), m)))
    (b : BitsL) (hb : G4 b) (caps : Bool) (dead last wait : Int) (t : List UInt8) (hlast : last = 0 ∨ (last == 42 || isCh last) = true) (hd : okT last (dead, wait, t)) :
    F7_l1677 N0 l k7 ((j : Int), b, caps, dead, last, wait, t) = goS k7 (j : Int) (strV b caps dead last wait t kind code down m) := by
  have ht : t.length ≤ 4096 := hd.2.2
  have hdd : 0 ≤ dead ∧ dead ≤ 2 := hd.1
  simp only [F7_l1677, Int.toNat_natCast, he]
  rw [decide_eq_true (show (j : Int) < ((l.length : Nat) : Int) by omega), inb_true (by omega) (show (j : Int) < ((l.length : Nat) : Int) by omega)]
  simp only [cond_true]
  unfold strV
  by_cases k1 : kind = 1
  · subst k1
    obtain ⟨r, h1, h2, h3⟩ := apply1 b hb code down
    rw [show ((1 : Int) == 1) = true from rfl, cond_true, if_neg (by decide), if_neg (fun h => h rfl), h1, Option.bind_some]
    simp only []
    by_cases hr : r.2 = 0
    · obtain ⟨hg, hc4, hc255⟩ := h3 hr
      rw [show (r.2 != 0) = false by simp [hr], cond_false, if_neg (fun h => h hr)]
      unfold keyV
      cases down
      · rw [cond_false, if_pos rfl]
        by_cases hl : code = last
        · rw [if_pos hl, show (code == last) = true by simpa using hl]; rfl
        · rw [if_neg hl, show (code == last) = false by simpa using hl]; rfl
      · rw [cond_true, if_neg (by decide), printT, Option.bind_some]
        cases hp : (code == 42 || isCh code)
        · rw [cond_false, if_neg (by decide)]
          by_cases h57 : code = 57
          · rw [if_pos h57, show (code == 57) = true by simpa using h57]; rfl
          · rw [if_neg h57, show (code == 57) = false by simpa using h57, cond_false]
            by_cases h47 : code = 47
            · rw [if_pos h47, show (code == 47) = true by simpa using h47, cond_true]
              obtain ⟨dn, rfl⟩ : ∃ dn : Nat, dead = (dn : Int) := ⟨dead.toNat, by omega⟩
              obtain ⟨a1, a2, a3⟩ := okAcc_nil ⟨dn, by omega⟩
              simp only at a1 a2 a3
              have al : (if dn = 0 then ([] : List UInt8) else accV (dn : Int) []).length ≤ 4 := by
                split
                · simp
                · exact a3
              have j64 : ∀ q : List UInt8, F7_j1964 N0 k7 (j : Int) caps last wait r q = goS k7 (j : Int) (r.1, caps, (if shiftB r.1 = true then 2 else 1), 0, 0, q, 0) := fun q => by
                unfold F7_j1964
                simp only []
                rw [shiftT r.1 hg]
                cases shiftB r.1 <;> rfl
              have et : putV t (if dn = 0 then ([] : List UInt8) else accV (dn : Int) []) = (if (dn : Int) = 0 then t else putV t (accV (dn : Int) [])) := by
                by_cases h0 : dn = 0
                · subst h0
                  rw [if_pos rfl, if_pos (show ((0 : Nat) : Int) = 0 from rfl)]
                  unfold putV
                  rw [if_pos (by simp; omega), List.append_nil]
                · rw [if_neg h0, if_neg (show ¬ (dn : Int) = 0 by omega)]
              rw [a1, Option.bind_some, putJ t _ ht al, j64, et]
            · rw [if_neg h47, show (code == 47) = false by simpa using h47]; rfl
        · rw [cond_true, if_pos rfl]
          have hty := tyE_eq r.1 hg caps dead code last wait t (F7_j1956 N0 k7 l (j : Int) caps r) (F7_j1957 N0 k7 l (j : Int) caps t r) (F7_j1960 N0 k7 l (j : Int) caps t r) hdd ht hp (fun e he => putJ t e ht he (F7_j1956 N0 k7 l (j : Int) caps r)) (fun e he => putJ t e ht he (F7_j1956 N0 k7 l (j : Int) caps r))
          refine Eq.trans hty ?_
          show F7_j1929 N0 k7 (j : Int) (r.1, caps, 0, (l.getD ((j : Int)).toNat (0, ((0, false), 0))).2.1.1, 20, tyV r.1 caps dead t code) = _
          rw [Int.toNat_natCast, he]; rfl
    · rw [show (r.2 != 0) = true by simp [hr], cond_true, if_pos hr]
      show (bif (r.2 != 0) then some (zeroS r.2) else k7 _) = _
      unfold goS
      rw [show (r.2 != 0) = true by simp [hr], cond_true, if_neg (show ¬ (zeroS r.2).2.2.2.2.2.2 = 0 from hr)]; rfl
  · rw [show (kind == 1) = false by simpa using k1, cond_false]
    have j66 : F7_j1966 N0 k7 l (j : Int) b caps dead last wait t true = some (zeroS 1) := rfl
    by_cases k2 : kind = 2
    · subst k2
      rw [show ((2 : Int) != 2) = false from rfl, cond_false, if_pos rfl]
      by_cases hm : 0 ≤ m ∧ m ≤ 100
      · obtain ⟨N, rfl⟩ : ∃ N : Nat, m = (N : Int) := ⟨m.toNat, by omega⟩
        rw [decide_eq_false (show ¬ (N : Int) < 0 by omega), cond_false, decide_eq_false (show ¬ (N : Int) > 100 by omega), if_pos hm, Int.toNat_natCast]
        have hrp := repeatP (k7 := k7) l (j : Int) b hb caps last N (by omega) (by rw [Int.toNat_natCast, he]) hlast (dead, wait, t) hd
        exact hrp
      · rw [if_neg hm]
        by_cases m0 : m < 0
        · rw [decide_eq_true m0, cond_true, j66]; rfl
        · rw [decide_eq_false m0, cond_false, decide_eq_true (show m > 100 by omega), j66]; rfl
    · rw [show (kind != 2) = true by simp [k2], cond_true, if_neg k2, if_pos k1, j66]; rfl
end Go.Proofs.YtekmnhplhoejdaaDoor

/- One stroke keeps what is right. -/
namespace Go.Proofs.YtekmnhplhoejdaaDoor
open Go Go.RowKit
set_option linter.unusedVariables false
set_option maxRecDepth 100000

def okS (v : TyS) : Prop := G4 v.1 ∧ okT v.2.2.2.1 (v.2.2.1, v.2.2.2.2.1, v.2.2.2.2.2.1) ∧ (v.2.2.2.1 = 0 ∨ (v.2.2.2.1 == 42 || isCh v.2.2.2.1) = true)
theorem putV_len (t a : List UInt8) (h : t.length ≤ 4096) : (putV t a).length ≤ 4096 := by
  unfold putV
  split
  · rw [List.length_append]; assumption
  · exact h
theorem keyV_ok (b : BitsL) (hb : G4 b) (caps : Bool) (dead last wait : Int) (t : List UInt8) (code : Int) (down : Bool) (hlast : last = 0 ∨ (last == 42 || isCh last) = true) (hd : okT last (dead, wait, t)) :
    okS (keyV b caps dead last wait t code down) := by
  unfold keyV okS
  split
  · split
    · exact ⟨hb, ⟨hd.1, fun h => absurd rfl h, hd.2.2⟩, Or.inl rfl⟩
    · exact ⟨hb, hd, hlast⟩
  · split
    · rename_i hp
      exact ⟨hb, ⟨by simp, fun _ => by simp, tyV_len b caps dead t code hd.2.2⟩, Or.inr hp⟩
    · split
      · exact ⟨hb, hd, hlast⟩
      · split
        · refine ⟨hb, ⟨?_, fun h => absurd rfl h, ?_⟩, Or.inl rfl⟩
          · simp only []; split <;> simp
          · simp only []; split
            · exact hd.2.2
            · exact putV_len _ _ hd.2.2
        · exact ⟨hb, hd, hlast⟩
theorem strV_ok (b : BitsL) (hb : G4 b) (caps : Bool) (dead last wait : Int) (t : List UInt8) (kind code : Int) (down : Bool) (m : Int) (hlast : last = 0 ∨ (last == 42 || isCh last) = true) (hd : okT last (dead, wait, t))
    (he : (strV b caps dead last wait t kind code down m).2.2.2.2.2.2 = 0) : okS (strV b caps dead last wait t kind code down m) := by
  obtain ⟨r, h1, h2, h3⟩ := apply1 b hb code down
  revert he
  unfold strV
  split
  · split
    · intro _
      exact ⟨hb, okT_it _ hd, hlast⟩
    · intro h; exact absurd h (by decide)
  · split
    · intro h; exact absurd h (by decide)
    · first
        | rw [h2]
        | rw [h1]
      simp only []
      split
      · rename_i hr
        intro h
        exact absurd h hr
      · rename_i hr
        intro _
        exact keyV_ok r.1 (h3 (by simpa using hr)).1 caps dead last wait t code down hlast hd
end Go.Proofs.YtekmnhplhoejdaaDoor

/- All strokes: the program's loop and the document's come to the same. -/
namespace Go.Proofs.YtekmnhplhoejdaaDoor
open Go Go.RowKit
set_option linter.unusedVariables false
set_option maxRecDepth 100000

abbrev StrL := List (Int × (Int × Bool) × Int)
def atV (l : StrL) (j : Nat) (v : TyS) : TyS :=
  strV v.1 v.2.1 v.2.2.1 v.2.2.2.1 v.2.2.2.2.1 v.2.2.2.2.2.1 (l.getD j (0, ((0, false), 0))).1 (l.getD j (0, ((0, false), 0))).2.1.1 (l.getD j (0, ((0, false), 0))).2.1.2 (l.getD j (0, ((0, false), 0))).2.2
def runV (l : StrL) : Nat → TyS → TyS
  | 0, v => v
  | m + 1, v => if (atV l (l.length - (m + 1)) v).2.2.2.2.2.2 = 0 then runV l m (atV l (l.length - (m + 1)) v) else zeroS (atV l (l.length - (m + 1)) v).2.2.2.2.2.2
def stD (d : BitsL × Bool × Int × Int × Int × List UInt8) : TyS := (d.1, d.2.1, d.2.2.1, d.2.2.2.1, d.2.2.2.2.1, d.2.2.2.2.2, 0)
theorem tyEta (v : TyS) (h : v.2.2.2.2.2.2 = 0) : stD (v.1, v.2.1, v.2.2.1, v.2.2.2.1, v.2.2.2.2.1, v.2.2.2.2.2.1) = v := by
  obtain ⟨a, b, c, d, e, f, g⟩ := v
  simp only at h; subst h; rfl
theorem runP (l : StrL) (hl : l.length ≤ 400) (d : BitsL × Bool × Int × Int × Int × List UInt8) (hv : okS (stD d)) :
    loopF (F7_l1677 N0 l) N0 (0, d) = some (runV l l.length (stD d)) := by
  have := loopF_eq (F7_l1677 N0 l) (fun e => some (runV l (l.length - e.1.toNat) (stD e.2))) (fun e => ∃ j : Nat, e.1 = (j : Int) ∧ j ≤ l.length ∧ okS (stD e.2)) (fun e => l.length - e.1.toNat) ?_ N0 (0, d) ⟨0, rfl, by omega, hv⟩ (by show l.length - (0 : Int).toNat < 5000; omega)
  · exact this
  rintro kk ⟨x, b, caps, dead, last, wait, t⟩ ⟨j, hx, hj, hok⟩ ih
  simp only at hx
  subst hx
  have hok' := hok
  obtain ⟨hb, hd, hlast⟩ := hok
  by_cases hj2 : j < l.length
  · rw [strokeP l kk j hj2 _ _ _ _ rfl b hb caps dead last wait t hlast hd]
    simp only [Int.toNat_natCast]
    rw [show l.length - j = (l.length - (j + 1)) + 1 by omega]
    simp only [runV]
    rw [show l.length - (l.length - (j + 1) + 1) = j by omega]
    show goS kk j (atV l j (stD (b, caps, dead, last, wait, t))) = _
    unfold goS
    by_cases h0 : (atV l j (stD (b, caps, dead, last, wait, t))).2.2.2.2.2.2 = 0
    · rw [if_pos h0, if_pos h0]
      have hs := strV_ok b hb caps dead last wait t _ _ _ _ hlast hd h0
      rw [w64 (by omega) (by omega), ih _ ⟨j + 1, by simp, hj2, by rw [tyEta _ h0]; exact hs⟩ (by simp only [Int.toNat_natCast]; omega)]
      simp only
      rw [tyEta _ h0, show ((j : Int) + 1).toNat = j + 1 by omega]
    · rw [if_neg h0, if_neg h0]
  · have : j = l.length := by omega
    subst this
    simp only [F7_l1677, Int.toNat_natCast, Nat.sub_self, runV]
    rw [decide_eq_false (by omega)]; rfl
theorem runR (l : StrL) (hl : l.length ≤ 400) (d : BitsL × Bool × Int × Int × Int × List UInt8) (hv : okS (stD d)) :
    loopF (F8_l5 N0 l) N0 (0, 0, d) = some (runV l l.length (stD d)) := by
  have := loopF_eq (F8_l5 N0 l) (fun e => some (if e.1 = 0 then runV l (l.length - e.2.1.toNat) (stD e.2.2) else zeroS e.1)) (fun e => ∃ j : Nat, e.2.1 = (j : Int) ∧ j ≤ l.length ∧ (e.1 = 0 → okS (stD e.2.2))) (fun e => l.length - e.2.1.toNat) ?_ N0 (0, 0, d) ⟨0, rfl, by omega, fun _ => hv⟩ (by show l.length - (0 : Int).toNat < 5000; omega)
  · exact this
  rintro kk ⟨e, x, b, caps, dead, last, wait, t⟩ ⟨j, hx, hj, hok⟩ ih
  simp only at hx
  subst hx
  by_cases he : e = 0
  · subst he
    have hok' := hok rfl
    obtain ⟨hb, hd, hlast⟩ := hok rfl
    simp only [F8_l5, Int.toNat_natCast]
    by_cases hj2 : j < l.length
    · rw [decide_eq_true (show (j : Int) < ((l.length : Nat) : Int) by omega), cond_true, show ((0 : Int) == 0) = true from rfl, cond_true, inb_true (by omega) (by omega), cond_true,
        struckR b hb caps dead last wait t _ _ _ _ hlast hd, Option.bind_some]
      try rw [if_pos (show (0 : Int) = 0 from rfl)]
      rw [show l.length - j = (l.length - (j + 1)) + 1 by omega]
      simp only [runV]
      rw [show l.length - (l.length - (j + 1) + 1) = j by omega, w64 (by omega) (by omega)]
      have hs := strV_ok b hb caps dead last wait t (l.getD j (0, ((0, false), 0))).1 (l.getD j (0, ((0, false), 0))).2.1.1 (l.getD j (0, ((0, false), 0))).2.1.2 (l.getD j (0, ((0, false), 0))).2.2 hlast hd
      refine (ih _ ⟨j + 1, by simp, hj2, fun h0 => ?_⟩ (by simp only [Int.toNat_natCast]; omega)).trans ?_
      · exact (tyEta _ h0).symm ▸ hs h0
      · simp only
        show some (if (atV l j (stD (b, caps, dead, last, wait, t))).2.2.2.2.2.2 = 0 then _ else _) = _
        by_cases h0 : (atV l j (stD (b, caps, dead, last, wait, t))).2.2.2.2.2.2 = 0
        · rw [if_pos h0, if_pos h0, show ((j : Int) + 1).toNat = j + 1 by omega]
          have := tyEta _ h0
          unfold atV stD at this ⊢
          simp only at this ⊢
          rw [this]
          try simp
        · rw [if_neg h0, if_neg h0]; rfl
    · have : j = l.length := by omega
      subst this
      rw [decide_eq_false (by omega)]
      simp only [Nat.sub_self, runV]; rfl
  · simp only [F8_l5]
    rw [if_neg he, show (e == 0) = false by simpa using he, show (e != 0) = true by simp [he]]
    cases decide ((j : Int) < ((l.length : Nat) : Int)) <;> rfl
end Go.Proofs.YtekmnhplhoejdaaDoor

/- TypistTypes: the program answers as the document says, in plain Lean. -/
namespace Go.Proofs.YtekmnhplhoejdaaDoor
open Go Go.RowKit
set_option linter.unusedVariables false
set_option maxRecDepth 100000

def endV (b : BitsL) (caps : Bool) (dead last wait : Int) (t : List UInt8) (l : StrL) : TyS :=
  if chkT b dead last wait t ≠ 0 then zeroS (chkT b dead last wait t) else if 400 < l.length then zeroS 2 else runV l l.length (b, caps, dead, last, wait, t, 0)
theorem ok0 (b : BitsL) (hb : G4 b) (caps : Bool) (dead last wait : Int) (t : List UInt8) (h : chkT b dead last wait t = 0) : okS (stD (b, caps, dead, last, wait, t)) := by
  unfold chkT at h
  split at h
  · exact absurd h (by decide)
  split at h
  · exact absurd h (by decide)
  rename_i hd
  split at h
  · exact absurd h (by decide)
  rename_i hg
  split at h
  · exact absurd h (by decide)
  rename_i ht
  have hg' : goodT b last wait = true := by simpa using hg
  unfold goodT repT at hg'
  rcases Bool.or_eq_true_iff.1 hg' with q | q
  · rw [Bool.and_eq_true] at q
    have q1 : last = 0 := by simpa using q.1
    exact ⟨hb, ⟨Decidable.not_not.1 hd, fun hn => absurd q1 hn, Nat.le_of_not_lt ht⟩, Or.inl q1⟩
  · rw [Bool.and_eq_true, Bool.and_eq_true] at q
    exact ⟨hb, ⟨Decidable.not_not.1 hd, fun _ => of_decide_eq_true q.2, Nat.le_of_not_lt ht⟩, Or.inr q.1.1⟩
theorem typeP (b : BitsL) (hb : G4 b) (caps : Bool) (dead last wait : Int) (t : List UInt8) (l : StrL) : F7 N0 b caps dead last wait t l = some (endV b caps dead last wait t l) := by
  unfold F7 endV
  rw [show F9 N0 b caps dead last wait t = _ from checkP b hb caps dead last wait t, Option.bind_some]
  by_cases h : chkT b dead last wait t = 0
  · rw [show (chkT b dead last wait t != 0) = false by simp [h], cond_false, if_neg (fun q => q h)]
    by_cases h4 : 400 < l.length
    · rw [decide_eq_true (show ((l.length : Nat) : Int) > 400 by omega), if_pos h4]; rfl
    · rw [decide_eq_false (show ¬ ((l.length : Nat) : Int) > 400 by omega), if_neg h4, cond_false]
      exact runP l (by omega) (b, caps, dead, last, wait, t) (ok0 b hb caps dead last wait t h)
  · rw [show (chkT b dead last wait t != 0) = true by simp [h], cond_true, if_pos h]; rfl
theorem typeR (b : BitsL) (hb : G4 b) (caps : Bool) (dead last wait : Int) (t : List UInt8) (l : StrL) : F8 N0 b caps dead last wait t l = some (endV b caps dead last wait t l) := by
  unfold F8 endV
  rw [show F10 N0 b caps dead last wait t = _ from checkR b hb caps dead last wait t, Option.bind_some]
  by_cases h : chkT b dead last wait t = 0
  · rw [show (chkT b dead last wait t == 0) = true by simp [h], cond_true, if_neg (fun q => q h)]
    by_cases h4 : 400 < l.length
    · rw [decide_eq_true (show ((l.length : Nat) : Int) > 400 by omega), if_pos h4, cond_true]
      unfold F8_j4
      show F8_l5 N0 l (loopF (F8_l5 N0 l) 4999) (2, 0, b, caps, dead, last, wait, t) = _
      simp only [F8_l5]
      cases decide ((0 : Int) < ((l.length : Nat) : Int)) <;> rfl
    · rw [decide_eq_false (show ¬ ((l.length : Nat) : Int) > 400 by omega), if_neg h4, cond_false, h]
      exact runR l (by omega) (b, caps, dead, last, wait, t) (ok0 b hb caps dead last wait t h)
  · rw [show (chkT b dead last wait t == 0) = false by simpa using h, cond_false, if_pos h]
    show F8_l6 N0 b caps dead last wait t l _ (loopF _ 4999) () = _
    simp only [F8_l6]
    rw [show (chkT b dead last wait t != 0) = true by simp [h]]
    cases decide ((0 : Int) < ((l.length : Nat) : Int)) <;> rfl
theorem typist_says (b : BitsL) (hb : G4 b) (caps : Bool) (dead last wait : Int) (t : List UInt8) (l : StrL) : F3 N0 b caps dead last wait t l = some true := by
  unfold F3
  rw [typeP b hb, Option.bind_some, typeR b hb, Option.bind_some, show F9 N0 b caps dead last wait t = _ from checkP b hb caps dead last wait t, Option.bind_some,
    show F10 N0 b caps dead last wait t = _ from checkR b hb caps dead last wait t, Option.bind_some, show (chkT b dead last wait t == chkT b dead last wait t) = true by simp, cond_true, Sh.beq_self, cond_true]
  simp
theorem typistTypes_says (a0 : Sh.T (.st (.pair (.st (.arr 4 (.int .u64))) (.pair .bool (.pair (.int .i64) (.pair (.int .i64) (.pair (.int .i64) .str))))))) (g0 : Sh.good (.st (.pair (.st (.arr 4 (.int .u64))) (.pair .bool (.pair (.int .i64) (.pair (.int .i64) (.pair (.int .i64) .str)))))) a0) (a1 : Sh.T (.sl (.st (.pair (.int .i64) (.pair (.st (.pair (.int .i64) .bool)) (.int .i64)))))) (g1 : Sh.good (.sl (.st (.pair (.int .i64) (.pair (.st (.pair (.int .i64) .bool)) (.int .i64))))) a1) :
    ∃ n, F3 n a0.1 a0.2.1 a0.2.2.1 a0.2.2.2.1 a0.2.2.2.2.1 a0.2.2.2.2.2 a1 = some true := ⟨N0, typist_says a0.1 (good_g4 a0.1 g0.1) a0.2.1 a0.2.2.1 a0.2.2.2.1 a0.2.2.2.2.1 a0.2.2.2.2.2 a1⟩
end Go.Proofs.YtekmnhplhoejdaaDoor
