/- The law ReportItems, in plain Lean (third part: items are written). -/
import Derived.Test.YtgcdohclbkmmdaaSItems2
namespace Go.Proofs.Ytgcdohclbkmmdaa
open Go Go.RowKit
set_option linter.unusedVariables false

def valB (v : Int) (i : Nat) : Int := v / ((256 ^ i : Nat) : Int) % 256
def szC (v : Int) : Nat := if v = 0 then 0 else if -128 ≤ v ∧ v < 128 then 1 else if -32768 ≤ v ∧ v < 32768 then 2 else 3
def szN (v : Int) : Nat := if szC v = 3 then 4 else szC v
def itB (it : Int × Int) : List Int := (4 * it.1 + (szC it.2 : Int)) :: (List.range (szN it.2)).map (valB it.2)
def itG (it : Int × Int) : Prop := (0 ≤ it.1 ∧ it.1 ≤ 63) ∧ (-2147483648 ≤ it.2 ∧ it.2 < 2147483648)
theorem sz_cases (v : Int) : (szC v = 0 ∧ szN v = 0) ∨ (szC v = 1 ∧ szN v = 1) ∨ (szC v = 2 ∧ szN v = 2) ∨ (szC v = 3 ∧ szN v = 4) := by
  have h : szC v = 0 ∨ szC v = 1 ∨ szC v = 2 ∨ szC v = 3 := by
    unfold szC
    repeat' split
    all_goals omega
  unfold szN
  rcases h with h | h | h | h <;> simp [h]
theorem sizeP (n : Nat) (v : Int) : F94 n v = some ((szC v : Int), (szN v : Int)) := by
  have e : F94 n v = some (if v = 0 then (0, 0) else if -128 ≤ v ∧ v < 128 then (1, 1) else if -32768 ≤ v ∧ v < 32768 then (2, 2) else (3, 4)) := by
    unfold F94
    by_cases h0 : v = 0
    · rw [show (v == 0) = true by simpa using h0, if_pos h0]; rfl
    rw [show (v == 0) = false by simpa using h0, if_neg h0]
    by_cases h1 : v ≥ -128
    · rw [decide_eq_true h1]
      by_cases h2 : v < 128
      · rw [decide_eq_true h2, if_pos ⟨h1, h2⟩]; rfl
      · rw [decide_eq_false h2, if_neg (fun h => h2 h.2), decide_eq_true (show v ≥ -32768 by omega)]
        by_cases h3 : v < 32768
        · rw [decide_eq_true h3, if_pos (by omega)]; rfl
        · rw [decide_eq_false h3, if_neg (by omega)]; rfl
    · rw [decide_eq_false h1, if_neg (fun h => h1 h.1)]
      by_cases h2 : v ≥ -32768
      · rw [decide_eq_true h2, decide_eq_true (show v < 32768 by omega), if_pos (by omega)]; rfl
      · rw [decide_eq_false h2, if_neg (fun h => h2 h.1)]; rfl
  rw [e, szN, szC]
  by_cases h0 : v = 0
  · rw [if_pos h0, if_pos h0]; rfl
  rw [if_neg h0, if_neg h0]
  by_cases h1 : -128 ≤ v ∧ v < 128
  · rw [if_pos h1, if_pos h1]; rfl
  rw [if_neg h1, if_neg h1]
  by_cases h2 : -32768 ≤ v ∧ v < 32768
  · rw [if_pos h2, if_pos h2]; rfl
  · rw [if_neg h2, if_neg h2]; rfl
theorem szN_le (v : Int) : szN v ≤ 4 := by rcases sz_cases v with h | h | h | h <;> omega
theorem itB_len (it : Int × Int) : (itB it).length = szN it.2 + 1 := by simp [itB]
/-- one byte of a value -/
theorem valP (v : Int) (i : Nat) (hi : i < 4) : IntKind.wrap .u8 (shrI .i64 v (IntKind.wrap .u64 (IntKind.wrap .i64 (8 * (i : Int))))) = valB v i := by
  have e1 : IntKind.wrap .u64 (IntKind.wrap .i64 (8 * (i : Int))) = ((8 * i : Nat) : Int) := by rw [w64 (by omega) (by omega), u64w]; omega
  rw [e1, shr' v (8 * i) ((256 ^ i : Nat) : Int) (by rw [p256]; simp) (by omega), u8w]; rfl
theorem bytesP (n : Nat) (hn : 100 < n) (K : Int × List Int → Option ((List UInt8) × Int)) (l : List (Int × Int)) (x : Nat) (hx : x < 300) (m : List Int) (hm : m.length ≤ 2000) :
    loopF (F43_l14 n K l (x : Int) ((szC (l.getD x (0, 0)).2 : Int), (szN (l.getD x (0, 0)).2 : Int))) n (0, m) = K (((x + 1 : Nat) : Int), m ++ (List.range (szN (l.getD x (0, 0)).2)).map (valB (l.getD x (0, 0)).2)) := by
  have h4 := szN_le (l.getD x (0, 0)).2
  refine loopF_eq (F43_l14 n K l (x : Int) ((szC (l.getD x (0, 0)).2 : Int), (szN (l.getD x (0, 0)).2 : Int))) (fun _ => K (((x + 1 : Nat) : Int), m ++ (List.range (szN (l.getD x (0, 0)).2)).map (valB (l.getD x (0, 0)).2))) (fun d => ∃ i : Nat, d = ((i : Int), m ++ (List.range i).map (valB (l.getD x (0, 0)).2)) ∧ i ≤ szN (l.getD x (0, 0)).2) (fun d => 4 - d.1.toNat) ?_ n _ ⟨0, by simp, by omega⟩ (by simp; omega)
  rintro kk d ⟨i, rfl, hi⟩ ih
  simp only [F43_l14, Int.toNat_natCast]
  by_cases h : i < szN (l.getD x (0, 0)).2
  · have hu : 0 ≤ IntKind.wrap .u64 (IntKind.wrap .i64 (8 * (i : Int))) := by rw [u64w]; omega
    rw [decide_eq_true (show (i : Int) < (szN (l.getD x (0, 0)).2 : Int) by omega), decide_eq_true hu, valP _ i (by omega), w64 (n := (i : Int) + 1) (by omega) (by omega)]
    rw [decide_eq_true (show (m ++ (List.range i).map (valB (l.getD x (0, 0)).2)).length + [valB (l.getD x (0, 0)).2 i].length ≤ 17179869184 by simp; omega)]
    simp only [cond_true]
    refine ih _ ⟨i + 1, ?_, by omega⟩ (by simp only [Int.toNat_natCast]; omega)
    rw [List.range_succ, List.map_append, List.append_assoc]; rfl
  · obtain rfl : i = szN (l.getD x (0, 0)).2 := by omega
    rw [decide_eq_false (by omega), w64 (n := (x : Int) + 1) (by omega) (by omega)]; rfl
def flatI (l : List (Int × Int)) : List Int := l.flatMap itB
theorem flat_take (l : List (Int × Int)) (x : Nat) (h : x < l.length) : flatI (l.take (x + 1)) = flatI (l.take x) ++ itB (l.getD x (0, 0)) := by
  unfold flatI
  rw [List.take_add_one, List.getD_eq_getElem?_getD, List.getElem?_eq_getElem h, List.flatMap_append]
  show _ ++ List.flatMap itB [l[x]] = _ ++ itB l[x]
  rw [List.flatMap_singleton]
theorem flat_len (l : List (Int × Int)) : (flatI l).length ≤ 5 * l.length := by
  induction l with
  | nil => simp [flatI]
  | cons a t ih =>
    have := itB_len a
    have := szN_le a.2
    unfold flatI at *
    simp only [List.flatMap_cons, List.length_append, List.length_cons]
    omega
open Classical in
noncomputable def writeV (l : List (Int × Int)) : (List UInt8) × Int := if ∀ x, x < l.length → itG (l.getD x (0, 0)) then (if (flatI l).length > 512 then ([], 2) else (strOf (flatI l), 0)) else ([], 1)
theorem headP (k v : Int) (hk : 0 ≤ k ∧ k ≤ 63) : IntKind.wrap .u8 (bitsI .or .i64 (shlI .i64 k 2) (szC v : Int)) = 4 * k + (szC v : Int) := by
  obtain ⟨y, rfl⟩ : ∃ y : Nat, k = (y : Int) := ⟨k.toNat, by omega⟩
  have hs := shl_mul y 2 (by omega) (by omega)
  have h3 : szC v < 2 ^ 2 := by rcases sz_cases v with h | h | h | h <;> omega
  rw [show ((2 : Nat) : Int) = 2 from rfl] at hs
  rw [hs, bOr _ _ (by omega) (by omega), Nat.or_comm, nat_or_add _ y 2 h3, u8w]
  omega
theorem writeP (n : Nat) (hn : 1000 < n) (l : List (Int × Int)) (hl : l.length ≤ 200) : loopF (F43_l12 n l) n (0, []) = some (writeV l) := by
  refine loopF_eq (F43_l12 n l) (fun _ => some (writeV l)) (fun d => ∃ x : Nat, d = ((x : Int), flatI (l.take x)) ∧ x ≤ l.length ∧ ∀ j, j < x → itG (l.getD j (0, 0))) (fun d => l.length - d.1.toNat) ?_ n _ ⟨0, rfl, by omega, fun j hj => by omega⟩ (by simp; omega)
  rintro kk d ⟨x, rfl, hx, hall⟩ ih
  simp only [F43_l12, Int.toNat_natCast]
  have hfl := flat_len (l.take x)
  rw [List.length_take, Nat.min_eq_left hx] at hfl
  by_cases h : x < l.length
  · rw [decide_eq_true (show (x : Int) < ((l.length : Nat) : Int) by omega), inb_true (show (0 : Int) ≤ x by omega) (show (x : Int) < (l.length : Nat) by omega)]
    simp only [cond_true]
    have jt : F43_j13 n kk l (x : Int) (flatI (l.take x)) true = some ([], 1) := rfl
    have no : ¬ itG (l.getD x (0, 0)) → some (([] : List UInt8), (1 : Int)) = some (writeV l) := fun hg => by
      unfold writeV
      rw [if_neg (fun hh => hg (hh x h))]
    by_cases q1 : (l.getD x (0, 0)).1 < 0
    · rw [decide_eq_true q1]; exact no (fun hh => by unfold itG at hh; omega)
    rw [decide_eq_false q1]
    by_cases q2 : (l.getD x (0, 0)).1 > 63
    · rw [decide_eq_true q2]; exact no (fun hh => by unfold itG at hh; omega)
    rw [decide_eq_false q2]
    by_cases q3 : (l.getD x (0, 0)).2 < -2147483648
    · rw [decide_eq_true q3]; exact no (fun hh => by unfold itG at hh; omega)
    rw [decide_eq_false q3]
    by_cases q4 : (l.getD x (0, 0)).2 ≥ 2147483648
    · rw [decide_eq_true q4]; exact no (fun hh => by unfold itG at hh; omega)
    rw [decide_eq_false q4]
    simp only [cond_false, F43_j13, Int.toNat_natCast, sizeP, Option.bind_some, headP (l.getD x (0, 0)).1 (l.getD x (0, 0)).2 (by omega)]
    rw [decide_eq_true (by simp; omega)]
    simp only [cond_true]
    rw [bytesP n (by omega) kk l x (by omega) _ (by simp; omega)]
    refine ih _ ⟨x + 1, ?_, by omega, fun j hj => ?_⟩ (by simp only [Int.toNat_natCast]; omega)
    · rw [flat_take l x h, List.append_assoc]; rfl
    · rcases Nat.lt_succ_iff_lt_or_eq.1 hj with h2 | h2
      · exact hall j h2
      · subst h2; unfold itG; omega
  · obtain rfl : x = l.length := by omega
    rw [decide_eq_false (show ¬ ((l.length : Nat) : Int) < ((l.length : Nat) : Int) by omega), List.take_length]
    simp only [cond_false]
    unfold writeV
    rw [if_pos hall]
    by_cases q : (flatI l).length > 512
    · rw [if_pos q, decide_eq_true (show (((flatI l).length : Nat) : Int) > 512 by omega)]; rfl
    · rw [if_neg q, decide_eq_false (show ¬ (((flatI l).length : Nat) : Int) > 512 by omega)]; rfl
end Go.Proofs.Ytgcdohclbkmmdaa
