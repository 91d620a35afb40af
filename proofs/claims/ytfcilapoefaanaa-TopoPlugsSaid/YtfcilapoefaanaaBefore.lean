/- plugref.Before, walked by hand: it only reads, and draws. -/
import Derived.Test.YtfcilapoefaanaaChecked
import Derived.WalkKit
import Derived.Deep.QuietTactic
import Derived.Lib.Hide
namespace Go.Proofs.Ytfcilapoefaanaa
open Go Go.RowKit Go.Lib
set_option linter.unusedVariables false

def beforeL : List Int → List Int → Bool
  | _, [] => false
  | [], _ :: _ => true
  | x :: a, y :: b => decide (x < y) || (x == y && beforeL a b)
def RdA (w : World) (aa : Option Addr) (a : List Int) : Prop := 0 < a.length → ∃ g o, aa = some ⟨g, o, none⟩ ∧ ∀ j u, a[j]? = some u → w.cell? ⟨g, o + j, none⟩ = some (.int .i64 u)
theorem RdA.drewN {w : World} {aa : Option Addr} {a : List Int} (h : RdA w aa a) (n : Nat) : RdA (w.drewN n) aa a := h
theorem RdA.tail {w : World} {g o : Nat} {x : Int} {a : List Int} (h : RdA w (some ⟨g, o, none⟩) (x :: a)) : RdA w (some ⟨g, o + 1, none⟩) a := fun _ => by
  obtain ⟨g', o', e, hc⟩ := h (by simp)
  cases e
  exact ⟨g, o + 1, rfl, fun j u hj => by rw [Nat.add_assoc, Nat.add_comm 1 j]; exact hc (j + 1) u (by simpa using hj)⟩
set_option maxHeartbeats 4000000 in
set_option maxRecDepth 100000 in
theorem before_any : ∀ (b a : List Int) (aa bb : Option Addr) (na nb ca cb : Nat) (w : World), na = a.length → nb = b.length → na ≤ ca → nb ≤ cb → ca ≤ 9223372036854775807 → cb ≤ 9223372036854775807 → RdA w aa a → RdA w bb b →
    Calls Try.prog 40 #[.slice aa na ca, .slice bb nb cb] w fun e w' => e = .returned (.bool (beforeL a b)) ∧ ∃ n, w' = w.drewN n := by
  intro b
  induction b with
  | nil =>
    intro a aa bb na nb ca cb w ha hb h1 h2 h3 h4 ra rb
    have e : beforeL a [] = false := by cases a <;> rfl
    rw [e]
    obtain rfl : nb = 0 := hb
    clear e ra rb ha h1 h2 h3 h4
    go_enter Try.func40, Try.ntmps40
    go_wp2_with fail
    go_ret
    exact ⟨rfl, 0, rfl⟩
  | cons y b ih =>
    intro a aa bb na nb ca cb w ha hb h1 h2 h3 h4 ra rb
    have hz : ((nb : Int) == 0) = false := by rw [hb]; simp; omega
    cases a with
    | nil =>
      obtain rfl : na = 0 := ha
      show Calls _ _ _ _ fun e w' => e = .returned (.bool true) ∧ _
      clear ih ra rb hb h1 h2 h3 h4
      go_enter Try.func40, Try.ntmps40
      go_wp2_with fail
      go_quiet (fail)
      go_wp2_with fail
      go_ret
      exact ⟨rfl, _, rfl⟩
    | cons x a =>
      have hza : ((na : Int) == 0) = false := by rw [ha]; simp; omega
      obtain ⟨ga, oa, rfl, hca⟩ := ra (by simp)
      obtain ⟨gb, ob, rfl, hcb⟩ := rb (by simp)
      have ca0 : w.cell? ⟨ga, oa, none⟩ = some (.int .i64 x) := hca 0 x rfl
      have cb0 : w.cell? ⟨gb, ob, none⟩ = some (.int .i64 y) := hcb 0 y rfl
      have ta := ra.tail
      have tb := rb.tail
      simp only [List.length_cons] at ha hb
      have hna : na = a.length + 1 := ha
      have hnb : nb = b.length + 1 := hb
      have ea : beforeL (x :: a) (y :: b) = (decide (x < y) || (x == y && beforeL a b)) := rfl
      rw [ea]
      have IH : ∀ (aa' bb' : Option Addr) (n1 n2 k1 k2 : Nat) (W : World), n1 = na - 1 → n2 = nb - 1 → k1 = ca - 1 → k2 = cb - 1 → RdA W aa' a → RdA W bb' b → Calls Try.prog 40 #[.slice aa' n1 k1, .slice bb' n2 k2] W fun e w' => e = .returned (.bool (beforeL a b)) ∧ ∃ n, w' = W.drewN n :=
        fun aa' bb' n1 n2 k1 k2 W e1 e2 e3 e4 r1 r2 => ih a aa' bb' n1 n2 k1 k2 W (by omega) (by omega) (by omega) (by omega) (by omega) (by omega) r1 r2
      have sa : ∀ q : Addr, ca = 1 → RdA w (some q) a := fun q h hp => by omega
      have sb : ∀ q : Addr, cb = 1 → RdA w (some q) b := fun q h hp => by omega
      have SA := Lib.hid sa
      have SB := Lib.hid sb
      have TA := Lib.hid ta
      have TB := Lib.hid tb
      have IHh := Lib.hid IH
      generalize beforeL a b = r at *
      have p1 : 0 < na := by omega
      have p2 : 0 < nb := by omega
      have p3 : (0 : Int) < (na : Int) := by omega
      have p4 : (0 : Int) < (nb : Int) := by omega
      have l1 : 1 ≤ na := by omega
      have l3 : (1 : Int) ≤ (na : Int) := by omega
      have l4 : (1 : Int) ≤ (nb : Int) := by omega
      have l2 : 1 ≤ nb := by omega
      clear ih ra rb hca hcb ea IH sa sb ta tb ha hb hna hnb
      go_enter Try.func40, Try.ntmps40
      go_wp2_with fail
      by_cases hlt : x < y
      · have hd : decide (x < y) = true := decide_eq_true hlt
        have HD := Lib.hid hd
        clear hlt
        go_quiet (fail)
        go_wp2_with fail
        go_ret
        exact ⟨by rw [HD.out]; rfl, _, rfl⟩
      · have hd : decide (x < y) = false := decide_eq_false hlt
        have HD := Lib.hid hd
        clear hlt
        by_cases hxy : x = y
        · have he : (x == y) = true := by simpa using hxy
          have HE := Lib.hid he
          clear hxy
          go_quiet (fail)
          go_wp2_with fail
          have ca1 : (w.drewN nq).cell? ⟨ga, oa, none⟩ = some (.int .i64 x) := ca0
          have cb1 : (w.drewN nq).cell? ⟨gb, ob, none⟩ = some (.int .i64 y) := cb0
          have SA1 : Hid (∀ q : Addr, ca = 1 → RdA (w.drewN nq) (some q) a) := Lib.hid fun q h => (SA.out q h).drewN nq
          have SB1 : Hid (∀ q : Addr, cb = 1 → RdA (w.drewN nq) (some q) b) := Lib.hid fun q h => (SB.out q h).drewN nq
          have TA1 := Lib.hid (TA.out.drewN nq)
          have TB1 := Lib.hid (TB.out.drewN nq)
          have HW : Hid (∃ n, w.drewN nq = w.drewN n) := Lib.hid ⟨nq, rfl⟩
          have HW2 : Hid (∀ n, ∃ m, (w.drewN nq).drewN n = w.drewN m) := Lib.hid fun n => ⟨nq + n, by rw [World.drewN_drewN]⟩
          generalize w.drewN nq = w1 at *
          clear ca0 cb0 SA SB TA TB
          by_cases c1 : ca = 1 <;> by_cases d1 : cb = 1
          · refine wp_region_quiet_lit (by kernel_rfl) (by kernel_rfl) ?_
            iterate 12 quiet_step (fail)
            refine wpQuiet_step (fun K hK => ?_)
            go_simp
            refine ⟨.bool r, fun k => Calls.quiet_of (IHh.out _ _ _ _ _ _ _ (by omega) (by omega) (by omega) (by omega) (RdA.drewN (SA1.out _ c1) k) (RdA.drewN (SB1.out _ d1) k)), hK _ ?_⟩
            clear hK K
            iterate 2 quiet_step (fail)
            refine wpQuiet_nil ?_
            intro _ hw'
            obtain ⟨nq2, hw''⟩ := hw'
            subst hw''
            go_wp2_with fail
            go_ret
            exact ⟨by rw [HD.out, HE.out]; rfl, HW2.out _⟩
          · refine wp_region_quiet_lit (by kernel_rfl) (by kernel_rfl) ?_
            iterate 12 quiet_step (fail)
            refine wpQuiet_step (fun K hK => ?_)
            go_simp
            refine ⟨.bool r, fun k => Calls.quiet_of (IHh.out _ _ _ _ _ _ _ (by omega) (by omega) (by omega) (by omega) (RdA.drewN (SA1.out _ c1) k) (RdA.drewN TB1.out k)), hK _ ?_⟩
            clear hK K
            iterate 2 quiet_step (fail)
            refine wpQuiet_nil ?_
            intro _ hw'
            obtain ⟨nq2, hw''⟩ := hw'
            subst hw''
            go_wp2_with fail
            go_ret
            exact ⟨by rw [HD.out, HE.out]; rfl, HW2.out _⟩
          · refine wp_region_quiet_lit (by kernel_rfl) (by kernel_rfl) ?_
            iterate 12 quiet_step (fail)
            refine wpQuiet_step (fun K hK => ?_)
            go_simp
            refine ⟨.bool r, fun k => Calls.quiet_of (IHh.out _ _ _ _ _ _ _ (by omega) (by omega) (by omega) (by omega) (RdA.drewN TA1.out k) (RdA.drewN (SB1.out _ d1) k)), hK _ ?_⟩
            clear hK K
            iterate 2 quiet_step (fail)
            refine wpQuiet_nil ?_
            intro _ hw'
            obtain ⟨nq2, hw''⟩ := hw'
            subst hw''
            go_wp2_with fail
            go_ret
            exact ⟨by rw [HD.out, HE.out]; rfl, HW2.out _⟩
          · refine wp_region_quiet_lit (by kernel_rfl) (by kernel_rfl) ?_
            iterate 12 quiet_step (fail)
            refine wpQuiet_step (fun K hK => ?_)
            go_simp
            refine ⟨.bool r, fun k => Calls.quiet_of (IHh.out _ _ _ _ _ _ _ (by omega) (by omega) (by omega) (by omega) (RdA.drewN TA1.out k) (RdA.drewN TB1.out k)), hK _ ?_⟩
            clear hK K
            iterate 2 quiet_step (fail)
            refine wpQuiet_nil ?_
            intro _ hw'
            obtain ⟨nq2, hw''⟩ := hw'
            subst hw''
            go_wp2_with fail
            go_ret
            exact ⟨by rw [HD.out, HE.out]; rfl, HW2.out _⟩
        · have he : (x == y) = false := by simpa using hxy
          have HE := Lib.hid he
          clear hxy
          go_quiet (fail)
          go_wp2_with fail
          go_quiet (fail)
          go_wp2_with fail
          go_ret
          exact ⟨by rw [HD.out, HE.out]; rfl, _, by rw [World.drewN_drewN]⟩
end Go.Proofs.Ytfcilapoefaanaa
