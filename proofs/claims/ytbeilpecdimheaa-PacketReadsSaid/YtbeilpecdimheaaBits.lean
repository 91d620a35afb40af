/- Contracts: bitsOf, left, turnedNum of package plugref. -/
import Derived.Test.YtbeilpecdimheaaKit
import Derived.Test.YtbeilpecdimheaaTwo
namespace Go.Proofs.Ytbeilpecdimheaa
open Go.RowKit
set_option linter.unusedVariables false

theorem info_bool : (Try.prog.info? 4).map (fun i => (i.zero, i.size, i.bytes)) = some (some (.bool false), 1, 1) := by kernel_rfl

/-- an append of one bool -/
theorem app_bool {w : World} {ops : Array Oper} {rest : List Oper} {o : Oper} {a : Act} {Q : Exit → Act → World → Prop} (hgd : o.guard = none) (s x : Operand)
    (ho : o.op = .call { callee := .builtin .append, args := #[s, x], argTypes := #[115, 115] })
    (B : Nat) (v : Value) (n : Nat) (xs : List Value) (hs : a.eval s = v) (hown : w.ownsRow B 4 1 v n xs) (u : Value) (hx : a.eval x = .slice (some ⟨w.heap.size, 0, none⟩) 1 1) (hu : u.oneCell' = true)
    (hn : n ≤ 17179869184) (hB : B ≤ w.heap.size)
    (h : ∀ v' w', w'.ownsRow B 4 1 v' (n + 1) (xs ++ [u]) → (w.alloc (.cells #[u] 4)).grownBy w' v.ownBlock → (v'.ownBlock = v.ownBlock ∨ ∃ g, v'.ownBlock = some g ∧ w.heap.size ≤ g) → Below B w w' → wpList Try.prog ops Q rest (a.put o.dst v') w') :
    wpList Try.prog ops Q (o :: rest) a (w.alloc (.cells #[u] 4)) :=
  wpList_app1 hgd s x _ ho B _ _ 1 1 Try.underlying115 info_bool rfl (by decide) (by decide) v n xs hs hown [u] hx rfl (by simpa using hu) hn hB h

/-- an append of a slice of bools -/
theorem appR_bool {w : World} {ops : Array Oper} {rest : List Oper} {o : Oper} {a : Act} {Q : Exit → Act → World → Prop} (hgd : o.guard = none) (s x : Operand)
    (ho : o.op = .call { callee := .builtin .append, args := #[s, x], argTypes := #[115, 115] })
    (B : Nat) (v : Value) (n : Nat) (xs : List Value) (hs : a.eval s = v) (hown : w.ownsRow B 4 1 v n xs) (xv : Value) (m : Nat) (us : List Bool) (hx : a.eval x = xv) (hr : Reads w 1 xv m (us.map Value.bool))
    (hnm : n + m ≤ 17179869184) (hB : B ≤ w.heap.size)
    (h : ∀ v' w', w'.ownsRow B 4 1 v' (n + m) (xs ++ us.map Value.bool) → w.grownBy w' v.ownBlock → (v'.ownBlock = v.ownBlock ∨ ∃ g, v'.ownBlock = some g ∧ w.heap.size ≤ g) → Below B w w' → wpList Try.prog ops Q rest (a.put o.dst v') w') :
    wpList Try.prog ops Q (o :: rest) a w :=
  wpList_appR hgd s x _ ho B _ _ 1 1 Try.underlying115 info_bool rfl (by decide) (by decide) v n xs hs hown xv m _ hx hr (by intro u hu; simp at hu; rcases hu with ⟨b, _, rfl⟩ | ⟨b, _, rfl⟩ <;> rfl) hnm hB h

/-- the bits of a number, n of them, the lowest first -/
def bitsL (x n : Nat) : List Bool := (List.range n).map fun k => decide (x / 2 ^ k % 2 = 1)
theorem bitsL_succ (x n : Nat) : bitsL x (n + 1) = bitsL x n ++ [decide (x / 2 ^ n % 2 = 1)] := by
  simp [bitsL, List.range_succ]
theorem bitsL_length (x n : Nat) : (bitsL x n).length = n := by simp [bitsL]

theorem bitsOf_any (x n : Nat) (hx : x ≤ 4611686018427387904) (hn : n ≤ 62) (w : World) :
    Calls Try.prog 89 #[.int .i64 x, .int .i64 n] w fun e w' =>
      ∃ v, e = .returned v ∧ w'.ownsRow w.heap.size 4 1 v n ((bitsL x n).map Value.bool) ∧ Below w.heap.size w w' := by
  go_enter Try.func89, Try.ntmps89
  go_wp2
  go_loopw [5, 8] (fun v i wr => ∃ k : Nat, k ≤ n ∧ i = .int .i64 k ∧ wr.ownsRow w.heap.size 4 1 v k ((bitsL x k).map Value.bool) ∧ Below w.heap.size w wr)
    (fun _ i _ => n - (intOf i).toNat)
  case atStart => exact ⟨0, Nat.zero_le _, rfl, World.ownsRow_nil _ _ _ _, Below.refl _ _⟩
  case round =>
    obtain ⟨k, hk, rfl, hown, hbel⟩ := hrel
    have hsz := hbel.size
    by_cases hlt : k < n
    · have hp : 1 ≤ 2 ^ k := Nat.one_le_two_pow
      have hp2 : 2 ^ k ≤ 2 ^ 61 := Nat.pow_le_pow_right (by omega) (by omega)
      have HS := Lib.hid (bitsL_succ x k)
      have HT := fun w0 => two_any k (by omega) w0
      generalize 2 ^ k = p at hp hp2 HS HT
      have HT := Lib.hid HT
      have hp3 : p ≤ 2305843009213693952 := by omega
      have hp4 : ((p : Int) == 0) = false := by simp; omega
      clear hp2
      have hq0 : 0 ≤ (x : Int) / (p : Int) := Int.ediv_nonneg (by omega) (by omega)
      have hq1 : (x : Int) / (p : Int) ≤ 4611686018427387904 := Int.le_trans (Int.ediv_le_self _ (by omega)) (by omega)
      go_wp2_with (first
        | (go_at_call 75; refine (HT.out _).mono ?_; rintro e w' ⟨rfl, rfl⟩)
        | (at_builtin; refine app_bool rfl _ _ rfl _ _ _ _ rfl hown _ rfl rfl (by omega) hsz ?_; intro v' w' hown' hg _ hb))
      go_roundw
      case rel =>
        refine ⟨k + 1, by omega, by go_num, ?_, hbel.trans hb⟩
        rw [HS.out]
        have e : (((x : Int) / (p : Int)) % 2 == 1) = decide (x / p % 2 = 1) := by
          rw [Bool.eq_iff_iff]; simp; omega
        rw [e] at hown'
        simpa using hown'
      case measure => simp [intOf]; omega
    · obtain rfl : k = n := by omega
      go_wp2
      go_ret
      exact ⟨_, rfl, hown, hbel⟩
end Go.Proofs.Ytbeilpecdimheaa
