/- The plain law: long division of bits leaves what the register holds, turned. -/
import Derived.Test.YtbeilpecdimheaaCrcR
namespace Go.Proofs.Ytbeilpecdimheaa
open Go.RowKit
set_option linter.unusedVariables false

def zipX : List Bool → List Bool → List Bool
  | [], _ => []
  | x :: t, [] => x :: t
  | x :: t, p :: ps => (x != p) :: zipX t ps
def zipN : List Bool → Nat → List Bool
  | [], _ => []
  | x :: t, r => (x != (r % 2 == 1)) :: zipN t (r / 2)
def divStep (ps : List Bool) : List Bool → List Bool
  | [] => []
  | x :: t => if x then xorRun t 0 ps else t
def divGo (ps : List Bool) (b : List Bool) : Nat → List Bool
  | 0 => b
  | i + 1 => divStep ps (divGo ps b i)

theorem xorRun_pre (ps : List Bool) : ∀ (x : Bool) (t : List Bool) (k : Nat), xorRun (x :: t) (k + 1) ps = x :: xorRun t k ps := by
  induction ps with
  | nil => intro x t k; rfl
  | cons p ps ih =>
    intro x t k
    simp only [xorRun, xorAt, List.set_cons_succ, List.getD_cons_succ]
    exact ih _ _ _
theorem xorRun_zip (ps : List Bool) : ∀ t, xorRun t 0 ps = zipX t ps := by
  induction ps with
  | nil => intro t; cases t <;> rfl
  | cons p ps ih =>
    intro t
    cases t with
    | nil =>
      have h : ∀ (qs : List Bool) (k : Nat), xorRun [] k qs = [] := by
        intro qs
        induction qs with
        | nil => intro k; rfl
        | cons q qs ih => intro k; simp only [xorRun, xorAt, List.set_nil]; exact ih _
      rw [h]; rfl
    | cons x t =>
      have e : xorAt (x :: t) 0 p = (x != p) :: t := rfl
      rw [xorRun, e, Nat.zero_add, xorRun_pre, ih]
      rfl
theorem leftGo_drop (ps b : List Bool) (i : Nat) (hi : i ≤ b.length) : (leftGo ps b i).drop i = divGo ps b i := by
  induction i with
  | zero => rfl
  | succ i ih =>
    have h := ih (by omega)
    have hl := leftGo_length ps b i
    generalize hg : leftGo ps b i = g at h hl
    rw [divGo, ← h]
    have hlt : i < g.length := by omega
    rw [List.drop_eq_getElem_cons hlt, divStep, leftGo, hg]
    have e : g.getD i false = g[i] := by simp [List.getD, hlt]
    rw [e]
    cases hb : g[i] with
    | false => simp
    | true =>
      simp only [if_true]
      have key : ∀ (k : Nat) (l : List Bool) (q : Nat), k ≤ l.length → (xorRun l (k + q) ps).drop k = xorRun (l.drop k) q ps := by
        intro k
        induction k with
        | zero => intro l q _; rw [Nat.zero_add]; rfl
        | succ k ih2 =>
          intro l q hk
          cases l with
          | nil => simp at hk
          | cons y l =>
            rw [show k + 1 + q = (k + q) + 1 from by omega, xorRun_pre, List.drop_succ_cons, List.drop_succ_cons]
            exact ih2 l q (by simpa using hk)
      have := key (i + 1) g 0 (by omega)
      simpa using this
theorem zipX_bits (n : Nat) : ∀ (t : List Bool) (x : Nat), x < 2 ^ n → zipX t (bitsL x n) = zipN t x := by
  induction n with
  | zero =>
    intro t x hx
    have hz : ∀ t : List Bool, t = zipN t 0 := by
      intro t
      induction t with
      | nil => rfl
      | cons y t ih => rw [zipN]; simp; exact ih
    obtain rfl : x = 0 := by simpa using hx
    cases t with
    | nil => rfl
    | cons y t => exact hz _
  | succ n ih =>
    intro t x hx
    have e : bitsL x (n + 1) = decide (x % 2 = 1) :: bitsL (x / 2) n := by
      unfold bitsL
      rw [List.range_succ_eq_map, List.map_cons, List.map_map]
      congr 1
      · simp
      · apply List.map_congr_left
        intro k _
        simp only [Function.comp_apply]
        rw [Nat.pow_succ', Nat.div_div_eq_div_mul]
    rw [e]
    cases t with
    | nil => rfl
    | cons y t =>
      rw [zipX, zipN, ih _ _ (by rw [Nat.pow_succ] at hx; omega)]
      congr 1
theorem zipN_zipN (t : List Bool) : ∀ a b, zipN (zipN t a) b = zipN t (a ^^^ b) := by
  induction t with
  | nil => intro a b; rfl
  | cons x t ih =>
    intro a b
    simp only [zipN, ih]
    have e1 : (a ^^^ b) % 2 = (a % 2) ^^^ (b % 2) := by
      have := Nat.xor_mod_two_pow (a := a) (b := b) (n := 1)
      simpa using this
    have e2 : (a ^^^ b) / 2 = (a / 2) ^^^ (b / 2) := by
      have := Nat.xor_div_two_pow (a := a) (b := b) (n := 1)
      simpa using this
    rw [e2]
    congr 1
    rw [e1]
    rcases Nat.mod_two_eq_zero_or_one a with h | h <;> rcases Nat.mod_two_eq_zero_or_one b with h' | h' <;> rw [h, h'] <;> cases x <;> rfl
theorem divStep_zip (ps t : List Bool) (x : Bool) (r c : Nat) (hps : ∀ t, xorRun t 0 ps = zipN t c) : divStep ps (zipN (x :: t) r) = zipN t (feedStep c r x) := by
  rw [zipN, divStep, hps]
  unfold feedStep
  have e : ((r % 2 == 1) != x) = (x != (r % 2 == 1)) := by cases x <;> cases (r % 2 == 1) <;> rfl
  rw [e]
  cases (x != (r % 2 == 1)) with
  | true => simp only [if_true]; exact zipN_zipN _ _ _
  | false => rfl
theorem divGo_zip (ps : List Bool) (c : Nat) (hps : ∀ t, xorRun t 0 ps = zipN t c) (m : List Bool) : ∀ (z : List Bool) (r : Nat), divGo ps (zipN (m ++ z) r) m.length = zipN z (m.foldl (feedStep c) r) := by
  have comm : ∀ (k : Nat) (b : List Bool), divGo ps b (k + 1) = divGo ps (divStep ps b) k := by
    intro k
    induction k with
    | zero => intro b; rfl
    | succ k ih => intro b; rw [divGo, ih]; rfl
  induction m with
  | nil => intro z r; rfl
  | cons x m ih =>
    intro z r
    rw [List.length_cons, comm, List.cons_append, divStep_zip ps _ x r c hps, ih, List.foldl_cons]
theorem turnedL_zip (n : Nat) : ∀ r, r < 2 ^ n → turnedL (zipN (List.replicate n false) r) = 2 ^ n - 1 - r := by
  induction n with
  | zero => intro r hr; simp [zipN, turnedL]
  | succ n ih =>
    intro r hr
    rw [List.replicate_succ, zipN, turnedL, ih (r / 2) (by rw [Nat.pow_succ] at hr; omega)]
    rw [Nat.pow_succ] at hr ⊢
    rcases Nat.mod_two_eq_zero_or_one r with h | h <;> rw [h] <;> simp <;> omega
theorem foldl_feed (c x r k : Nat) : (bitsL x k).foldl (feedStep c) r = feedN c x r k := by
  induction k with
  | zero => rfl
  | succ k ih => rw [bitsL_succ, List.foldl_append, ih]; rfl
theorem foldl_lt (c n : Nat) (hc : c < 2 ^ n) (m : List Bool) : ∀ r, r < 2 ^ n → m.foldl (feedStep c) r < 2 ^ n := by
  induction m with
  | nil => intro r h; exact h
  | cons x m ih => intro r h; rw [List.foldl_cons]; exact ih _ (feedStep_lt h hc x)

/-- THE LAW -/
theorem left_turned (m : List Bool) (n c s : Nat) (hc : c < 2 ^ n) (hs : s < 2 ^ n) :
    turnedL (leftL m (bitsL s n) (bitsL c n)) = 2 ^ n - 1 - m.foldl (feedStep c) s := by
  have hps : ∀ t, xorRun t 0 (bitsL c n) = zipN t c := fun t => by rw [xorRun_zip, zipX_bits n t c hc]
  unfold leftL
  rw [leftGo_drop _ _ _ (by rw [xorRun_length]; simp), xorRun_zip, zipX_bits n _ s hs, divGo_zip _ c hps, bitsL_length, turnedL_zip n _ (foldl_lt c n hc m s hs)]

theorem five_same (n : Nat) : fiveC n = fiveR n := by
  unfold fiveC fiveR
  by_cases h : 2048 ≤ n
  · rw [if_pos h, if_pos (by omega)]
  · rw [if_neg h, if_neg (by omega)]
    have e : ([false, false, true, false, true] : List Bool) = bitsL 20 5 := by decide
    rw [e, left_turned _ 5 20 31 (by decide) (by decide), foldl_feed]
    have hl : feedN 20 n 31 11 < 32 := feedN_lt (m := 5) (by decide) (by decide) 11
    generalize feedN 20 n 31 11 = r at hl
    have : ∀ q : Fin 32, q.val ^^^ 31 = 2 ^ 5 - 1 - q.val := by decide
    exact this ⟨r, hl⟩
theorem more_same (sum : Nat) (hsum : sum < 65536) (l : List UInt8) : 65535 - moreC (65535 - sum) l = moreR sum l := by
  unfold moreR
  have e : poly16 = bitsL 40961 16 := by decide
  rw [e, left_turned _ 16 40961 (65535 - sum) (by decide) (by omega)]
  have h : ∀ (l : List UInt8) (r : Nat), (bitsS l).foldl (feedStep 40961) r = moreC r l := by
    intro l
    induction l with
    | nil => intro r; rfl
    | cons b l ih =>
      intro r
      have eb : bitsS (b :: l) = bitsL b.toNat 8 ++ bitsS l := rfl
      rw [eb, List.foldl_append, foldl_feed, ih]
      rfl
  rw [h]
end Go.Proofs.Ytbeilpecdimheaa
