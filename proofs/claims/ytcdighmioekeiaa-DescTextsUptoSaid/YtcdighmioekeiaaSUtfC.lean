/- The laws UtfNarrow and DescTexts, in plain Lean. -/
import Derived.Test.YtcdighmioekeiaaSUtfB
namespace Go.Proofs.Ytcdighmioekeiaa
open Go Go.RowKit
set_option linter.unusedVariables false
set_option maxRecDepth 100000

/-- the unit at a place -/
def un (t : Tx) (i : Nat) : Nat := if i + 1 < t.length then bt t i + 256 * bt t (i + 1) else 0
theorem unitP (n : Nat) (t : Tx) (i : Nat) (hi : i < 1000000) : F27 n (i : Int) t = some ((un t i : Nat) : Int) := by
  unfold F27 un
  rw [w64 (n := (i : Int) + 1) (by omega) (by omega)]
  by_cases h : i + 1 < t.length
  · have h1 := bt_lt t i
    have h2 := bt_lt t (i + 1)
    rw [if_pos h, decide_eq_false (show ¬ (i : Int) + 1 ≥ ((t.length : Nat) : Int) by omega), inb_true (show (0 : Int) ≤ i by omega) (show (i : Int) < t.length by omega), inb_true (show (0 : Int) ≤ (i : Int) + 1 by omega) (show (i : Int) + 1 < t.length by omega), Int.toNat_natCast, show ((i : Int) + 1).toNat = i + 1 by omega]
    have w1 : IntKind.wrap .i32 (((t.getD i 0).toNat : Nat) : Int) = ((bt t i : Nat) : Int) := w32 (by show _ ≤ ((bt t i : Nat) : Int); omega) (by show ((bt t i : Nat) : Int) ≤ _; omega)
    have w2 : IntKind.wrap .i32 (((t.getD (i + 1) 0).toNat : Nat) : Int) = ((bt t (i + 1) : Nat) : Int) := w32 (by show _ ≤ ((bt t (i + 1) : Nat) : Int); omega) (by show ((bt t (i + 1) : Nat) : Int) ≤ _; omega)
    have s8 := shl32 (bt t (i + 1)) 8 256 rfl (by omega) (by omega)
    rw [show ((8 : Nat) : Int) = 8 from rfl] at s8
    rw [w1, w2, s8, bOr32 _ _ h1 h2]
    rfl
  · rw [if_neg h, decide_eq_true (show (i : Int) + 1 ≥ ((t.length : Nat) : Int) by omega)]; rfl
/-- the units of a text -/
def us : Tx → List Nat
  | a :: b :: t => (a.toNat + 256 * b.toNat) :: us t
  | _ => []
theorem us_drop (t : Tx) (i : Nat) (h : i + 1 < t.length) : us (t.drop i) = un t i :: us (t.drop (i + 2)) := by
  have e1 := dropD (0 : UInt8) t i (by omega)
  have e2 := dropD (0 : UInt8) t (i + 1) h
  rw [e1, e2, us]
  unfold un bt
  rw [if_pos h]
theorem us_lt : ∀ t : Tx, ∀ u ∈ us t, u < 65536
  | [], u, h => by cases h
  | [a], u, h => by cases h
  | a :: b :: t, u, h => by
    rw [us] at h
    rcases List.mem_cons.1 h with rfl | h
    · have := UInt8.toNat_lt a; have := UInt8.toNat_lt b; omega
    · exact us_lt t u h
theorem us_len : ∀ t : Tx, (us t).length ≤ t.length / 2
  | [] => Nat.le_refl _
  | [a] => Nat.zero_le _
  | a :: b :: t => by have := us_len t; rw [us]; simp only [List.length_cons]; omega
def one (c : Nat) : Nat := if c / 2048 = 27 then 65533 else c
/-- the runes of units -/
def nr : List Nat → List Nat
  | [] => []
  | [c] => [one c]
  | c :: d :: l => if c / 1024 = 54 ∧ d / 1024 = 55 then (65536 + c % 1024 * 1024 + d % 1024) :: nr l else one c :: nr (d :: l)
theorem nr_one {c : Nat} {l : List Nat} (h : ¬ (c / 1024 = 54 ∧ (l.getD 0 0) / 1024 = 55)) : nr (c :: l) = one c :: nr l := by
  cases l with
  | nil => rfl
  | cons d l => rw [nr, if_neg (by simpa using h)]
theorem nr_two {c d : Nat} {l : List Nat} (h : c / 1024 = 54 ∧ d / 1024 = 55) : nr (c :: d :: l) = (65536 + c % 1024 * 1024 + d % 1024) :: nr l := by rw [nr, if_pos h]
theorem runes_app (a b : List Int) : strOfRunes (a ++ b) = strOfRunes a ++ strOfRunes b := by simp [strOfRunes]
theorem narrowP (n : Nat) (hn : 600 < n) (t : Tx) (h2 : t.length % 2 = 0) (hl : t.length ≤ 252) : loopF (F10_l7 n t) n (0, []) = some (strOfRunes ((nr (us t)).map fun r : Nat => (r : Int)), 0) := by
  refine (loopF_eq (F10_l7 n t) (fun d => some (strOfRunes (d.2 ++ (nr (us (t.drop d.1.toNat))).map fun r : Nat => (r : Int)), 0)) (fun d => ∃ i : Nat, d.1 = (i : Int) ∧ i % 2 = 0 ∧ i ≤ t.length ∧ d.2.length ≤ i) (fun d => t.length - d.1.toNat) ?_ n (0, []) ⟨0, rfl, rfl, by omega, by simp⟩ (by simp; omega)).trans (by simp)
  rintro k ⟨_, m⟩ ⟨i, rfl, hi2, hi, hm⟩ ih
  simp only at hm
  simp only [F10_l7, Int.toNat_natCast]
  by_cases h : i < t.length
  · have wi : IntKind.wrap .i64 ((i : Int) + 2) = ((i + 2 : Nat) : Int) := by rw [w64 (by omega) (by omega)]; omega
    have wi2 : IntKind.wrap .i64 (((i + 2 : Nat) : Int) + 2) = ((i + 4 : Nat) : Int) := by rw [w64 (by omega) (by omega)]; omega
    rw [decide_eq_true (show (i : Int) < (t.length : Int) by omega), unitP n t i (by omega), wi, unitP n t (i + 2) (by omega)]
    simp only [cond_true, Option.bind_some, F10_j8, wi, wi2]
    rw [us_drop t i (by omega)]
    have hun : un t i < 65536 := us_lt (t.drop i) _ (by rw [us_drop t i (by omega)]; exact List.mem_cons_self)
    have hb : un t (i + 2) = (us (t.drop (i + 2))).getD 0 0 := by
      by_cases h3 : i + 2 + 1 < t.length
      · rw [us_drop t (i + 2) h3]; rfl
      · rw [List.drop_eq_nil_of_le (by omega)]
        unfold un
        rw [if_neg h3]; rfl
    have hb2 : un t (i + 2) < 65536 := by
      rw [hb]
      cases hq : us (t.drop (i + 2)) with
      | nil => simp
      | cons d l => exact us_lt (t.drop (i + 2)) d (by rw [hq]; exact List.mem_cons_self)
    -- one rune
    have single : ∀ c : Nat, ¬ (un t i / 1024 = 54 ∧ un t (i + 2) / 1024 = 55) → c = one (un t i) → (bif decide (m.length + [(c : Int)].length ≤ 35184372088832) then k (((i + 2 : Nat) : Int), m ++ [(c : Int)]) else none) = some (strOfRunes (m ++ (nr (un t i :: us (t.drop (i + 2)))).map fun r : Nat => (r : Int)), 0) := by
      intro c hc hcv
      rw [decide_eq_true (by simp only [List.length_singleton]; omega)]
      simp only [cond_true]
      rw [ih _ ⟨i + 2, rfl, by omega, by omega, by simp only [List.length_append, List.length_singleton]; omega⟩ (by simp only [Int.toNat_natCast]; omega), nr_one (by rw [← hb]; exact hc), hcv]
      simp only [Int.toNat_natCast, List.map_cons, List.append_assoc, List.singleton_append]
    by_cases hp : un t i / 1024 = 54 ∧ un t (i + 2) / 1024 = 55
    · rw [decide_eq_true (show ((un t i : Nat) : Int) ≥ 55296 by omega), decide_eq_true (show ((un t i : Nat) : Int) ≤ 56319 by omega), decide_eq_true (show ((un t (i + 2) : Nat) : Int) ≥ 56320 by omega), decide_eq_true (show ((un t (i + 2) : Nat) : Int) ≤ 57343 by omega)]
      simp only [cond_true]
      have h3 : i + 2 + 1 < t.length := by
        by_cases h3 : i + 2 + 1 < t.length
        · exact h3
        · exfalso
          have := hp.2
          unfold un at this
          rw [if_neg h3] at this
          omega
      have s10 := shl32 (un t i - 55296) 10 1024 rfl (by omega) (by omega)
      rw [show ((10 : Nat) : Int) = 10 from rfl] at s10
      have e0 : IntKind.wrap .i32 (((un t i : Nat) : Int) - 55296) = ((un t i - 55296 : Nat) : Int) := by rw [w32 (by omega) (by omega)]; omega
      have e1 : IntKind.wrap .i32 (IntKind.wrap .i32 (65536 + shlI .i32 (IntKind.wrap .i32 (((un t i : Nat) : Int) - 55296)) 10) + IntKind.wrap .i32 (((un t (i + 2) : Nat) : Int) - 56320)) = ((65536 + un t i % 1024 * 1024 + un t (i + 2) % 1024 : Nat) : Int) := by
        rw [e0, s10, w32 (n := 65536 + _) (by omega) (by omega), w32 (n := ((un t (i + 2) : Nat) : Int) - 56320) (by omega) (by omega), w32 (by omega) (by omega)]; omega
      rw [e1, decide_eq_true (by simp only [List.length_singleton]; omega)]
      simp only [cond_true]
      rw [ih _ ⟨i + 4, rfl, by omega, by omega, by simp only [List.length_append, List.length_singleton]; omega⟩ (by simp only [Int.toNat_natCast]; omega), us_drop t (i + 2) h3, nr_two hp]
      simp only [Int.toNat_natCast, List.map_cons, List.append_assoc, List.singleton_append]
    · have nopair : (bif decide (((un t i : Nat) : Int) ≥ 55296) then (bif decide (((un t i : Nat) : Int) ≤ 57343) then (bif decide (m.length + [(65533 : Int)].length ≤ 35184372088832) then k (((i + 2 : Nat) : Int), m ++ [(65533 : Int)]) else none) else (bif decide (m.length + [((un t i : Nat) : Int)].length ≤ 35184372088832) then k (((i + 2 : Nat) : Int), m ++ [((un t i : Nat) : Int)]) else none)) else (bif decide (m.length + [((un t i : Nat) : Int)].length ≤ 35184372088832) then k (((i + 2 : Nat) : Int), m ++ [((un t i : Nat) : Int)]) else none)) = some (strOfRunes (m ++ (nr (un t i :: us (t.drop (i + 2)))).map fun r : Nat => (r : Int)), 0) := by
        by_cases q1 : 55296 ≤ un t i
        · rw [decide_eq_true (show ((un t i : Nat) : Int) ≥ 55296 by omega)]
          by_cases q2 : un t i ≤ 57343
          · rw [decide_eq_true (show ((un t i : Nat) : Int) ≤ 57343 by omega)]
            exact single 65533 hp (by unfold one; rw [if_pos (by omega)])
          · rw [decide_eq_false (show ¬ ((un t i : Nat) : Int) ≤ 57343 by omega)]
            exact single (un t i) hp (by unfold one; rw [if_neg (by omega)])
        · rw [decide_eq_false (show ¬ ((un t i : Nat) : Int) ≥ 55296 by omega)]
          exact single (un t i) hp (by unfold one; rw [if_neg (by omega)])
      by_cases q1 : 55296 ≤ un t i
      · rw [decide_eq_true (show ((un t i : Nat) : Int) ≥ 55296 by omega)] at nopair ⊢
        by_cases q2 : un t i ≤ 56319
        · rw [decide_eq_true (show ((un t i : Nat) : Int) ≤ 56319 by omega)]
          by_cases q3 : 56320 ≤ un t (i + 2)
          · rw [decide_eq_true (show ((un t (i + 2) : Nat) : Int) ≥ 56320 by omega), decide_eq_false (show ¬ ((un t (i + 2) : Nat) : Int) ≤ 57343 by omega)]
            exact nopair
          · rw [decide_eq_false (show ¬ ((un t (i + 2) : Nat) : Int) ≥ 56320 by omega)]
            exact nopair
        · rw [decide_eq_false (show ¬ ((un t i : Nat) : Int) ≤ 56319 by omega)]
          exact nopair
      · rw [decide_eq_false (show ¬ ((un t i : Nat) : Int) ≥ 55296 by omega)] at nopair ⊢
        exact nopair
  · rw [decide_eq_false (show ¬ (i : Int) < (t.length : Int) by omega), List.drop_eq_nil_of_le (by omega)]
    simp [us, nr]
/-! the document's -/
theorem u8_eq {x : Int} {y : Nat} (h : x.toNat % 256 = y % 256) : UInt8.ofNat x.toNat = UInt8.ofNat y := by
  apply UInt8.toNat.inj
  simpa using h
theorem enc_le (c : Nat) (h : c < 55296 ∨ (57344 ≤ c ∧ c ≤ 1114111)) : encL (c : Int) = if c < 128 then [UInt8.ofNat c] else if c < 2048 then [UInt8.ofNat (192 + c / 64), UInt8.ofNat (128 + c % 64)]
    else if c < 65536 then [UInt8.ofNat (224 + c / 4096), UInt8.ofNat (128 + c / 64 % 64), UInt8.ofNat (128 + c % 64)] else [UInt8.ofNat (240 + c / 262144), UInt8.ofNat (128 + c / 4096 % 64), UInt8.ofNat (128 + c / 64 % 64), UInt8.ofNat (128 + c % 64)] := by
  unfold encL Utf8.encode
  have hv : Utf8.valid (c : Int) = true := by
    rw [valid_nat]
    unfold validN
    simp only [Bool.or_eq_true, Bool.and_eq_true, decide_eq_true_eq]
    omega
  rw [hv]
  simp only [if_true, Int.toNat_natCast]
  split
  · rfl
  · split
    · rfl
    · split <;> rfl
theorem runeW (n : Nat) (hn : 10 < n) (c : Nat) (h : c < 55296 ∨ (57344 ≤ c ∧ c ≤ 1114111)) : F28 n (c : Int) = some (encL (c : Int)) := by
  rw [enc_le c h]
  obtain ⟨m, rfl⟩ : ∃ m, n = m + 5 := ⟨n - 5, by omega⟩
  unfold F28
  have d1 : (c : Int).tdiv 64 = ((c / 64 : Nat) : Int) := by rw [Int.tdiv_eq_ediv_of_nonneg (by omega)]; omega
  have m1 : (c : Int).tmod 64 = ((c % 64 : Nat) : Int) := by rw [Int.tmod_eq_emod_of_nonneg (by omega)]; omega
  have d2 : ((c / 64 : Nat) : Int).tdiv 64 = ((c / 4096 : Nat) : Int) := by rw [Int.tdiv_eq_ediv_of_nonneg (by omega)]; omega
  have m2 : ((c / 64 : Nat) : Int).tmod 64 = ((c / 64 % 64 : Nat) : Int) := by rw [Int.tmod_eq_emod_of_nonneg (by omega)]; omega
  have d3 : ((c / 4096 : Nat) : Int).tdiv 64 = ((c / 262144 : Nat) : Int) := by rw [Int.tdiv_eq_ediv_of_nonneg (by omega)]; omega
  have m3 : ((c / 4096 : Nat) : Int).tmod 64 = ((c / 4096 % 64 : Nat) : Int) := by rw [Int.tmod_eq_emod_of_nonneg (by omega)]; omega
  have W : ∀ x : Nat, x < 10000000 → IntKind.wrap .i64 (x : Int) = (x : Int) := fun x hx => w64 (by omega) (by omega)
  have A : ∀ (b : Nat) (x : Nat), x < 10000000 → b < 1000 → IntKind.wrap .u8 (IntKind.wrap .i64 ((b : Int) + (x : Int))) = (((b + x) % 256 : Nat) : Int) := fun b x hx hb => by rw [w64 (by omega) (by omega), u8w]; omega
  by_cases h1 : c < 128
  · rw [decide_eq_true (show (c : Int) < 128 by omega), if_pos h1, u8w]
    have e : ((c : Int) % 256).toNat = c := by omega
    simp only [cond_true, strOf, List.map_cons, List.map_nil, e]
  rw [decide_eq_false (show ¬ (c : Int) < 128 by omega), if_neg h1]
  by_cases h2 : c < 2048
  · rw [decide_eq_true (show (c : Int) < 2048 by omega), if_pos h2]
    have e : F28_j3 (m + 5) (c : Int) (192, List.replicate 2 0) = some (strOf [IntKind.wrap .u8 (IntKind.wrap .i64 (((192 : Nat) : Int) + IntKind.wrap .i64 ((c : Int).tdiv 64))), IntKind.wrap .u8 (IntKind.wrap .i64 (((128 : Nat) : Int) + (c : Int).tmod 64))]) := by kernel_rfl
    simp only [cond_false, cond_true]
    rw [e, d1, m1, W _ (by omega), A _ _ (by omega) (by omega), A _ _ (by omega) (by omega)]
    simp only [strOf, List.map_cons, List.map_nil, Int.toNat_natCast, Option.some.injEq, List.cons.injEq, and_true]
    exact ⟨by apply UInt8.toNat.inj; simp, by apply UInt8.toNat.inj; simp⟩
  rw [decide_eq_false (show ¬ (c : Int) < 2048 by omega), if_neg h2]
  by_cases h3 : c < 65536
  · rw [decide_eq_true (show (c : Int) < 65536 by omega), if_pos h3]
    have e : F28_j3 (m + 5) (c : Int) (224, List.replicate 3 0) = some (strOf [IntKind.wrap .u8 (IntKind.wrap .i64 (((224 : Nat) : Int) + IntKind.wrap .i64 ((IntKind.wrap .i64 ((c : Int).tdiv 64)).tdiv 64))), IntKind.wrap .u8 (IntKind.wrap .i64 (((128 : Nat) : Int) + (IntKind.wrap .i64 ((c : Int).tdiv 64)).tmod 64)), IntKind.wrap .u8 (IntKind.wrap .i64 (((128 : Nat) : Int) + (c : Int).tmod 64))]) := by kernel_rfl
    simp only [cond_false, cond_true]
    rw [e, d1, m1, W _ (by omega), d2, m2, W _ (by omega), A _ _ (by omega) (by omega), A _ _ (by omega) (by omega), A _ _ (by omega) (by omega)]
    simp only [strOf, List.map_cons, List.map_nil, Int.toNat_natCast, Option.some.injEq, List.cons.injEq, and_true]
    exact ⟨by apply UInt8.toNat.inj; simp, by apply UInt8.toNat.inj; simp, by apply UInt8.toNat.inj; simp⟩
  rw [decide_eq_false (show ¬ (c : Int) < 65536 by omega), if_neg h3]
  have e : F28_j3 (m + 5) (c : Int) (240, List.replicate 4 0) = some (strOf [IntKind.wrap .u8 (IntKind.wrap .i64 (((240 : Nat) : Int) + IntKind.wrap .i64 ((IntKind.wrap .i64 ((IntKind.wrap .i64 ((c : Int).tdiv 64)).tdiv 64)).tdiv 64))), IntKind.wrap .u8 (IntKind.wrap .i64 (((128 : Nat) : Int) + (IntKind.wrap .i64 ((IntKind.wrap .i64 ((c : Int).tdiv 64)).tdiv 64)).tmod 64)), IntKind.wrap .u8 (IntKind.wrap .i64 (((128 : Nat) : Int) + (IntKind.wrap .i64 ((c : Int).tdiv 64)).tmod 64)), IntKind.wrap .u8 (IntKind.wrap .i64 (((128 : Nat) : Int) + (c : Int).tmod 64))]) := by kernel_rfl
  simp only [cond_false]
  rw [e, d1, m1, W _ (by omega), d2, m2, W _ (by omega), d3, m3, W _ (by omega), A _ _ (by omega) (by omega), A _ _ (by omega) (by omega), A _ _ (by omega) (by omega), A _ _ (by omega) (by omega)]
  simp only [strOf, List.map_cons, List.map_nil, Int.toNat_natCast, Option.some.injEq, List.cons.injEq, and_true]
  exact ⟨by apply UInt8.toNat.inj; simp, by apply UInt8.toNat.inj; simp, by apply UInt8.toNat.inj; simp, by apply UInt8.toNat.inj; simp⟩
theorem enc_len (c : Nat) (h : c < 55296 ∨ (57344 ≤ c ∧ c ≤ 1114111)) : (encL (c : Int)).length ≤ 4 := by
  rw [enc_le c h]
  split
  · simp
  · split
    · simp
    · split <;> simp
theorem one_ok (c : Nat) (h : c < 65536) : one c < 55296 ∨ (57344 ≤ one c ∧ one c ≤ 1114111) := by
  unfold one
  split <;> omega
def out (l : List Nat) : Tx := strOfRunes (l.map fun r : Nat => (r : Int))
theorem out_cons (c : Nat) (l : List Nat) : out (c :: l) = encL (c : Int) ++ out l := by simp [out, strOfRunes]
theorem unitsR (n : Nat) (hn : 600 < n) (u : List Nat) (hu : ∀ x ∈ u, x < 65536) (hl : u.length ≤ 126) : loopF (F11_l30 n) n (u.map fun r : Nat => (r : Int), []) = some (out (nr u), 0) := by
  refine (loopF_eq (F11_l30 n) (fun d => some (d.2 ++ out (nr (d.1.map fun x => x.toNat)), 0)) (fun d => ∃ u : List Nat, d.1 = (u.map fun r : Nat => (r : Int)) ∧ (∀ x ∈ u, x < 65536) ∧ u.length ≤ 126 ∧ d.2.length + 4 * u.length ≤ 504) (fun d => d.1.length) ?_ n (u.map fun r : Nat => (r : Int), []) ⟨u, rfl, hu, hl, by simp only [List.length_nil]; omega⟩ (by simp; omega)).trans (by
    simp only [List.nil_append, List.map_map]
    have : (fun x : Int => x.toNat) ∘ (fun r : Nat => (r : Int)) = id := by funext x; simp
    rw [this, List.map_id])
  rintro k ⟨_, vo⟩ ⟨u, rfl, hu, hl, hvo⟩ ih
  simp only at hvo
  have back : ∀ l : List Nat, (l.map fun r : Nat => (r : Int)).map (fun x => x.toNat) = l := by
    intro l
    rw [List.map_map]
    have : (fun x : Int => x.toNat) ∘ (fun r : Nat => (r : Int)) = id := by funext x; simp
    rw [this, List.map_id]
  simp only [F11_l30, back, List.length_map]
  cases u with
  | nil => simp [nr, out, strOfRunes]
  | cons c l =>
    have hc : c < 65536 := hu c List.mem_cons_self
    have hl' : ∀ x ∈ l, x < 65536 := fun x hx => hu x (List.mem_cons_of_mem _ hx)
    simp only [List.length_cons] at hl hvo
    rw [decide_eq_true (show (((c :: l).length : Nat) : Int) > 0 by simp only [List.length_cons]; omega), inb_true (show (0 : Int) ≤ 0 by omega) (show (0 : Int) < ((c :: l).length : Nat) by simp only [List.length_cons]; omega)]
    have k1 : IntKind.wrap .i64 ((c : Int).tdiv 1024) = ((c / 1024 : Nat) : Int) := by rw [Int.tdiv_eq_ediv_of_nonneg (by omega), w64 (by omega) (by omega)]; omega
    have k2 : IntKind.wrap .i64 ((c : Int).tdiv 2048) = ((c / 2048 : Nat) : Int) := by rw [Int.tdiv_eq_ediv_of_nonneg (by omega), w64 (by omega) (by omega)]; omega
    have single : ¬ (c / 1024 = 54 ∧ (l.getD 0 0) / 1024 = 55) → F11_j31 n k ((c :: l).map fun r : Nat => (r : Int)) vo false = some (vo ++ out (nr (c :: l)), 0) := by
      intro hp
      have s1 : subB ((c : Int) :: l.map fun r : Nat => (r : Int)).length (some 1) none = true := by simp [subB]; omega
      simp only [F11_j31, F11_j32, List.map_cons, s1, List.drop_succ_cons, List.drop_zero, List.getD_cons_zero, k2, cond_true, cond_false]
      have fin : F28 n ((one c : Nat) : Int) = some (encL ((one c : Nat) : Int)) := runeW n (by omega) _ (one_ok c hc)
      have el := enc_len _ (one_ok c hc)
      have go : ((F28 n ((one c : Nat) : Int)).bind fun y_3 => (bif (decide (vo.length + y_3.length ≤ 9223372036854775807)) then (k ((l.map fun r : Nat => (r : Int)), (vo ++ y_3))) else none)) = some (vo ++ out (nr (c :: l)), 0) := by
        rw [fin, Option.bind_some, decide_eq_true (by omega)]
        simp only [cond_true]
        rw [ih _ ⟨l, rfl, hl', by omega, by simp only [List.length_append]; omega⟩ (by simp only [List.length_map, List.length_cons]; omega), nr_one hp, out_cons]
        simp only [back, List.append_assoc]
      by_cases q : c / 2048 = 27
      · rw [show (((c / 2048 : Nat) : Int) == 27) = true by rw [beq_iff_eq]; omega]
        have e : one c = 65533 := if_pos q
        rw [e] at go
        exact go
      · rw [show (((c / 2048 : Nat) : Int) == 27) = false by rw [beq_eq_false_iff_ne]; omega]
        have e : one c = c := if_neg q
        rw [e] at go
        exact go
    simp only [cond_true, List.map_cons, List.getD_cons_zero, k1]
    cases l with
    | nil =>
      rw [decide_eq_false (show ¬ ((([c] : List Nat).length : Nat) : Int) > 1 by simp)]
      exact single (by simp)
    | cons d l =>
      rw [decide_eq_true (show (((c :: d :: l).length : Nat) : Int) > 1 by simp only [List.length_cons]; omega)]
      simp only [cond_true]
      have hd : d < 65536 := hl' d List.mem_cons_self
      have k3 : IntKind.wrap .i64 ((d : Int).tdiv 1024) = ((d / 1024 : Nat) : Int) := by rw [Int.tdiv_eq_ediv_of_nonneg (by omega), w64 (by omega) (by omega)]; omega
      by_cases q1 : c / 1024 = 54
      · rw [show (((c / 1024 : Nat) : Int) == 54) = true by rw [beq_iff_eq]; omega, inb_true (show (0 : Int) ≤ 1 by omega) (show (1 : Int) < ((c :: d :: l).length : Nat) by simp only [List.length_cons]; omega)]
        simp only [cond_true, List.map_cons, List.getD_cons_succ, List.getD_cons_zero, k3]
        by_cases q2 : d / 1024 = 55
        · rw [show (((d / 1024 : Nat) : Int) == 55) = true by rw [beq_iff_eq]; omega]
          simp only [List.length_cons] at hl hvo
          have e1 : IntKind.wrap .i64 (IntKind.wrap .i64 (65536 + IntKind.wrap .i64 ((c : Int).tmod 1024 * 1024)) + (d : Int).tmod 1024) = ((65536 + c % 1024 * 1024 + d % 1024 : Nat) : Int) := by
            rw [Int.tmod_eq_emod_of_nonneg (by omega), Int.tmod_eq_emod_of_nonneg (by omega), w64 (n := (c : Int) % 1024 * 1024) (by omega) (by omega), w64 (n := 65536 + _) (by omega) (by omega), w64 (by omega) (by omega)]; omega
          have okc : 65536 + c % 1024 * 1024 + d % 1024 < 55296 ∨ (57344 ≤ 65536 + c % 1024 * 1024 + d % 1024 ∧ 65536 + c % 1024 * 1024 + d % 1024 ≤ 1114111) := by omega
          have el := enc_len _ okc
          have s1 : subB ((c : Int) :: (d : Int) :: l.map fun r : Nat => (r : Int)).length (some 1) none = true := by simp [subB]; omega
          have s2 : subB ((d : Int) :: l.map fun r : Nat => (r : Int)).length (some 1) none = true := by simp [subB]; omega
          have i0 : inb 0 ((d : Int) :: l.map fun r : Nat => (r : Int)).length = true := inb_true (by omega) (by simp only [List.length_cons]; omega)
          simp only [F11_j31, F11_j32, s1, s2, i0, List.drop_succ_cons, List.drop_zero, List.getD_cons_zero, e1, cond_true]
          rw [runeW n (by omega) _ okc, Option.bind_some, decide_eq_true (by omega)]
          simp only [cond_true]
          rw [ih _ ⟨l, rfl, fun x hx => hl' x (List.mem_cons_of_mem _ hx), by omega, by simp only [List.length_append]; omega⟩ (by simp only [List.length_map, List.length_cons]; omega), nr_two ⟨q1, q2⟩, out_cons]
          simp only [back, List.append_assoc]
        · rw [show (((d / 1024 : Nat) : Int) == 55) = false by rw [beq_eq_false_iff_ne]; omega]
          exact single (fun h => q2 h.2)
      · rw [show (((c / 1024 : Nat) : Int) == 54) = false by rw [beq_eq_false_iff_ne]; omega]
        exact single (fun h => q1 h.1)
theorem textR (n : Nat) (hn : 600 < n) (t : Tx) (h2 : t.length % 2 = 0) (hl : t.length ≤ 252) : loopF (F11_l25 n) n (t, []) = some (out (nr (us t)), 0) := by
  have hul := us_len t
  refine (loopF_eq (F11_l25 n) (fun d => some (out (nr (us t)), 0)) (fun d => d.1.length % 2 = 0 ∧ d.1.length ≤ 252 ∧ d.2.length ≤ 126 ∧ (us t).map (fun r : Nat => (r : Int)) = d.2 ++ (us d.1).map fun r : Nat => (r : Int)) (fun d => d.1.length) ?_ n (t, []) ⟨h2, hl, by simp, by simp⟩ (by simp only; omega))
  rintro k ⟨t', m⟩ ⟨g2, gl, gm, gu⟩ ih
  simp only at g2 gl gm gu
  simp only [F11_l25]
  match t', g2, gl, gu, ih with
  | [], _, _, gu, ih =>
    have e : (!(([] : Tx) == [])) = false := rfl
    rw [e]
    simp only [cond_false]
    rw [show m = (us t).map (fun r : Nat => (r : Int)) by rw [gu]; simp [us]]
    exact unitsR n hn (us t) (us_lt t) (by omega)
  | [a], g2, _, _, _ => simp at g2
  | a :: b :: t', g2, gl, gu, ih =>
    have e : (!((a :: b :: t') == ([] : Tx))) = true := rfl
    have hml : m.length + ((us (a :: b :: t')).map fun r : Nat => (r : Int)).length ≤ 126 := by
      have := congrArg List.length gu
      rw [List.length_append, List.length_map] at this
      omega
    rw [us, List.map_cons, List.length_cons] at hml
    have ha := UInt8.toNat_lt a
    have hb := UInt8.toNat_lt b
    have sub : subB (a :: b :: t').length (some 2) none = true := by simp [subB]; omega
    have wv : IntKind.wrap .i64 (IntKind.wrap .i64 (((a.toNat : Nat) : Int)) + IntKind.wrap .i64 (256 * IntKind.wrap .i64 (((b.toNat : Nat) : Int)))) = ((a.toNat + 256 * b.toNat : Nat) : Int) := by
      rw [w64 (n := ((a.toNat : Nat) : Int)) (by omega) (by omega), w64 (n := ((b.toNat : Nat) : Int)) (by omega) (by omega), w64 (n := 256 * _) (by omega) (by omega), w64 (by omega) (by omega)]; omega
    rw [e, inb_true (show (0 : Int) ≤ 0 by omega) (show (0 : Int) < ((a :: b :: t').length : Nat) by simp only [List.length_cons]; omega), inb_true (show (0 : Int) ≤ 1 by omega) (show (1 : Int) < ((a :: b :: t').length : Nat) by simp only [List.length_cons]; omega), sub]
    simp only [cond_true, List.getD_cons_zero, List.getD_cons_succ, List.drop_succ_cons, List.drop_zero]
    rw [wv, decide_eq_true (by simp only [List.length_singleton]; omega)]
    simp only [cond_true]
    refine ih _ ⟨?_, ?_, ?_, ?_⟩ ?_
    · simp only [List.length_cons] at g2 ⊢; omega
    · simp only [List.length_cons] at gl ⊢; omega
    · simp only [List.length_append, List.length_singleton]; omega
    · simp only
      rw [gu, us, List.map_cons, List.append_assoc]; rfl
    · simp only [List.length_cons]; omega
def narrowV (t : Tx) : Tx × Int := if t.length % 2 = 1 then ([], 4) else if 252 < t.length then ([], 2) else (out (nr (us t)), 0)
theorem narrow1 (n : Nat) (hn : 600 < n) (t : Tx) : F10 n t = some (narrowV t) := by
  unfold F10 narrowV
  rw [Int.tmod_eq_emod_of_nonneg (show (0 : Int) ≤ ((t.length : Nat) : Int) by omega)]
  by_cases h1 : t.length % 2 = 1
  · rw [if_pos h1, show ((((t.length : Nat) : Int) % 2) != 0) = true by rw [bne_iff_ne]; omega]; rfl
  · rw [if_neg h1, show ((((t.length : Nat) : Int) % 2) != 0) = false by rw [bne_eq_false_iff_eq]; omega]
    simp only [cond_false]
    by_cases h2 : 252 < t.length
    · rw [if_pos h2, decide_eq_true (show ((t.length : Nat) : Int) > 252 by omega)]; rfl
    · rw [if_neg h2, decide_eq_false (show ¬ ((t.length : Nat) : Int) > 252 by omega)]
      exact narrowP n hn t (by omega) (by omega)
theorem narrow2 (n : Nat) (hn : 600 < n) (t : Tx) : F11 n t = some (narrowV t) := by
  unfold F11 narrowV
  rw [Int.tmod_eq_emod_of_nonneg (show (0 : Int) ≤ ((t.length : Nat) : Int) by omega)]
  by_cases h1 : t.length % 2 = 1
  · rw [if_pos h1, show ((((t.length : Nat) : Int) % 2) == 1) = true by rw [beq_iff_eq]; omega]; rfl
  · rw [if_neg h1, show ((((t.length : Nat) : Int) % 2) == 1) = false by rw [beq_eq_false_iff_ne]; omega]
    simp only [cond_false]
    by_cases h2 : 252 < t.length
    · rw [if_pos h2, decide_eq_true (show ((t.length : Nat) : Int) > 252 by omega)]; rfl
    · rw [if_neg h2, decide_eq_false (show ¬ ((t.length : Nat) : Int) > 252 by omega)]
      exact textR n hn t (by omega) (by omega)
theorem utfNarrow_says (a0 : Sh.T .str) (g0 : Sh.good .str a0) : ∃ n, F4 n a0 = some true := by
  refine ⟨1000, ?_⟩
  unfold F4
  rw [narrow1 _ (by omega), narrow2 _ (by omega)]
  simp only [Option.bind_some, beq_self_eq_true, cond_true]
/-! texts as descriptors -/
theorem wide_len (rs : List Nat) : (wideV rs).1.length ≤ 252 := by
  unfold wideV
  split
  · simp
  · simp only [tbL_len]; omega
theorem putP (n : Nat) (hn : 10 < n) (a : Int) : F35 n [a, 3] = some (strOf [IntKind.wrap .u8 a, 3]) := by
  obtain ⟨m, rfl⟩ : ∃ m, n = m + 5 := ⟨n - 5, by omega⟩
  kernel_rfl
theorem putR (n : Nat) (hn : 10 < n) (a : Int) (h : 0 ≤ a ∧ a ≤ 255) : F36 n [a, 3] = some (strOf [IntKind.wrap .u8 a, 3], true) := by
  obtain ⟨m, rfl⟩ : ∃ m, n = m + 5 := ⟨n - 5, by omega⟩
  have e : F36 (m + 5) [a, 3] = ((F33 (m + 5) a 0 255).bind fun y => bif !y then some ([], false) else some (strOf [IntKind.wrap .u8 a, 3], true)) := by kernel_rfl
  rw [e]
  unfold F33
  rw [decide_eq_true h.1, decide_eq_true h.2]; rfl
theorem textsN (s t : Tx) (hs : s.length ≤ 1048576) : F6 2000000 s t = some true := by
  have e1 : ∃ r, F16 2000000 s = some r ∧ F17 2000000 s = some r := by
    unfold F16 F17
    rw [wideP _ s (by omega) (by omega), wideR _ s (by omega) (by omega)]
    simp only [Option.bind_some]
    generalize hw : wideV (runes s 0) = w
    have hl : w.1.length ≤ 252 := by rw [← hw]; exact wide_len _
    by_cases h0 : w.2 = 0
    · rw [show (w.2 != 0) = false by rw [bne_eq_false_iff_eq]; exact h0, w64 (n := ((w.1.length : Nat) : Int) + 2) (by omega) (by omega), putP _ (by omega), putR _ (by omega) _ (by omega)]
      simp only [cond_false, Option.bind_some]
      rw [decide_eq_true (by simp [strOf]; omega)]
      exact ⟨_, rfl, rfl⟩
    · rw [show (w.2 != 0) = true by rw [bne_iff_ne]; exact h0]
      exact ⟨_, rfl, rfl⟩
  have e2 : ∃ r, F18 2000000 t = some r ∧ F19 2000000 t = some r := by
    unfold F18 F19
    by_cases h : t.length < 2
    · rw [decide_eq_true (show ((t.length : Nat) : Int) < 2 by omega)]
      exact ⟨_, rfl, rfl⟩
    · have sub : subB t.length (some 2) none = true := by simp [subB]; omega
      rw [decide_eq_false (show ¬ ((t.length : Nat) : Int) < 2 by omega), inb_true (show (0 : Int) ≤ 0 by omega) (show (0 : Int) < ((t.length : Nat) : Int) by omega), inb_true (show (0 : Int) ≤ 1 by omega) (show (1 : Int) < ((t.length : Nat) : Int) by omega), sub, narrow1 _ (by omega), narrow2 _ (by omega)]
      simp only [cond_false, cond_true, Option.bind_some]
      generalize (IntKind.wrap .i64 (((t.getD 0 0).toNat : Nat) : Int) != ((t.length : Nat) : Int)) = b1
      generalize ((((t.getD 1 0).toNat : Nat) : Int) != 3) = b2
      cases b1 <;> cases b2 <;> exact ⟨_, rfl, rfl⟩
  obtain ⟨r, f1, f2⟩ := e1
  obtain ⟨q, g1, g2⟩ := e2
  unfold F6
  rw [f1, f2, g1, g2]
  simp only [Option.bind_some, beq_self_eq_true, cond_true]
theorem descTexts_says (a0 : Sh.T .str) (g0 : Sh.good .str a0) (u0 : Sh.bulk .str a0 ≤ 1048576) (a1 : Sh.T .str) (g1 : Sh.good .str a1) (u1 : Sh.bulk .str a1 ≤ 1048576) : ∃ n, F6 n a0 a1 = some true := by
  have hb : a0.length + 1 ≤ 1048576 := u0
  exact ⟨2000000, textsN a0 a1 (by omega)⟩
end Go.Proofs.Ytcdighmioekeiaa
