/- GreetTells: the first and the fourth step; the law. -/
import Derived.Test.YtghbnolfadnoaaaGreatSTellD
import Derived.Test.YtghbnolfadnoaaaGreatSGad3
namespace Go.Proofs.YtghbnolfadnoaaaGreat
open Go Go.RowKit
set_option linter.unusedVariables false
theorem nT : (!true) = false := rfl
theorem nF : (!false) = true := rfl
theorem two2 (s : CTx) (h : 2 ≤ s.length) : s.take 2 = [s.getD 0 0, s.getD 1 0] := by
 match s, h with
 | a :: b :: t, _ => rfl
theorem pre2 (n : Nat) (s : CTx) (a b : UInt8) (h : 2 ≤ s.length) : F79 n s [a, b] = some (s.getD 0 0 == a && s.getD 1 0 == b) := by
 unfold F79 F100
 rw [decide_eq_true (show ((s.length : Nat) : Int) ≥ ((([a, b] : CTx).length : Nat) : Int) by simp only [List.length_cons, List.length_nil]; omega), show subB s.length none (some (([a, b] : CTx).length : Nat)) = true by simp [subB]; omega]
 show some (s.take 2 == [a, b]) = _
 rw [two2 s h]
 simp [List.cons_beq_cons]
theorem four {α : Type} (v : Int) (A B : α) (h : v = 8 ∨ v = 16 ∨ v = 32 ∨ v = 64) : (bif v != 8 then (bif v != 16 then (bif v != 32 then (bif v != 64 then A else B) else B) else B) else B) = B := by
 rcases h with rfl | rfl | rfl | rfl <;> rfl
theorem four' {α : Type} (v : Int) (A B : α) (h : ¬ (v = 8 ∨ v = 16 ∨ v = 32 ∨ v = 64)) : (bif v != 8 then (bif v != 16 then (bif v != 32 then (bif v != 64 then A else B) else B) else B) else B) = A := by
 rw [cT _ _ _ (show (v != 8) = true by rw [bne_iff_ne]; omega), cT _ _ _ (show (v != 16) = true by rw [bne_iff_ne]; omega), cT _ _ _ (show (v != 32) = true by rw [bne_iff_ne]; omega), cT _ _ _ (show (v != 64) = true by rw [bne_iff_ne]; omega)]
theorem bneT {x : UInt8} {c : Nat} (hc : c < 256) (h : ¬ x = UInt8.ofNat c) : (((x.toNat : Nat) : Int) != (c : Int)) = true := by rw [u8c x c hc, show (x == UInt8.ofNat c) = false by simpa using h]; rfl
theorem bneF {x : UInt8} {c : Nat} (hc : c < 256) (h : x = UInt8.ofNat c) : (((x.toNat : Nat) : Int) != (c : Int)) = false := by rw [u8c x c hc, show (x == UInt8.ofNat c) = true by simpa using h]; rfl
theorem wd2 (d : CTx) : bitsI .or .i64 (IntKind.wrap .i64 (((d.getD 2 0).toNat : Nat) : Int)) (shlI .i64 (IntKind.wrap .i64 (((d.getD 3 0).toNat : Nat) : Int)) 8) = pb d 2 + 256 * pb d 3 := by
 have b0 := (d.getD 2 0).toNat_lt
 have b1 := (d.getD 3 0).toNat_lt
 rw [w64n _ (by omega), w64n _ (by omega), show (8 : Int) = ((8 : Nat) : Int) from rfl, shl_mul _ 8 (by omega) (by omega), bOrAdd _ _ 8 (by omega) (by omega)]
 unfold pb
 omega
theorem tell1 (n : Nat) (hn : 10 < n) (tr ad m0 to du dc ds dp dm dv dq dr dk dn dz df cv cn ca cp : Int) (fs : List CFace) (se : CTx) (er : Int) (s : CTx) (hs : SmF fs) (hc : F33 n 1 tr ad m0 to du dc ds dp dm dv dq dr dk dn dz df cv cn ca cp fs se er = some (1, tr, ad, m0, to, du, dc, ds, dp, dm, dv, dq, dr, dk, dn, dz, df, cv, cn, ca, cp, se, er, fs)) (hk : F28 n 1 tr ad m0 to du dc ds dp dm dv dq dr dk dn dz df cv cn ca cp fs se er = some 0) : ∃ y : YT, F46 n 1 tr ad m0 to du dc ds dp dm dv dq dr dk dn dz df cv cn ca cp fs se er s = some y ∧ TellG n 1 tr ad m0 to du dc ds dp dm dv dq dr dk dn dz df cv cn ca cp fs se er s y := by
 have q0 : ((0 : Int) == 0) = true := rfl
 have q1 : ((1 : Int) == 1) = true := rfl
 have q2 : ((1 : Int) == 2) = false := rfl
 have q7 : ((1 : Int) == 7) = false := rfl
 have no : F14 n 1 tr ad m0 to du dc ds dp dm dv dq dr dk dn dz df cv cn ca cp fs se er s 0 = F14_j13 n 0 (1, tr, ad, m0, to, du, dc, ds, dp, dm, dv, dq, dr, dk, dn, dz, df, cv, cn, ca, cp, se, er, fs) (false, m0, to, du, dc, ds, dp, dm, dv, dq, dr, dk, dn, dz, df, cv, cn, ca, cp, fs, se) → F46 n 1 tr ad m0 to du dc ds dp dm dv dq dr dk dn dz df cv cn ca cp fs se er s = some (1, tr, ad, m0, to, du, dc, ds, dp, dm, dv, dq, dr, dk, dn, dz, df, cv, cn, ca, cp, fs, se, er, false) → ∃ y : YT, F46 n 1 tr ad m0 to du dc ds dp dm dv dq dr dk dn dz df cv cn ca cp fs se er s = some y ∧ TellG n 1 tr ad m0 to du dc ds dp dm dv dq dr dk dn dz df cv cn ca cp fs se er s y := fun a b => ⟨_, b, .inl ⟨a, rfl⟩⟩
 by_cases h8 : s.length = 8
 ·have l8 : (((s.length : Nat) : Int) != 8) = false := by rw [h8]; rfl
  have i0 : inb 0 s.length = true := by rw [h8]; rfl
  have i1 : inb 1 s.length = true := by rw [h8]; rfl
  have i7 : inb 7 s.length = true := by rw [h8]; rfl
  have e73 := pre2 n s 18 1 (by omega)
  by_cases e0 : s.getD 0 0 = 18
  ·have p0 : ((((s.getD 0 0).toNat : Nat) : Int) != 18) = false := bneF (c := 18) (by omega) e0
   by_cases e1 : s.getD 1 0 = 1
   ·have p1 : ((((s.getD 1 0).toNat : Nat) : Int) != 1) = false := bneF (c := 1) (by omega) e1
    have e73' : F79 n s [18, 1] = some true := by rw [e73, e0, e1]; rfl
    by_cases hB : (((s.getD 7 0).toNat : Nat) : Int) = 8 ∨ (((s.getD 7 0).toNat : Nat) : Int) = 16 ∨ (((s.getD 7 0).toNat : Nat) : Int) = 32 ∨ (((s.getD 7 0).toNat : Nat) : Int) = 64
    ·refine ⟨(1, tr, ad, IntKind.wrap .i64 (((s.getD 7 0).toNat : Nat) : Int), to, du, dc, ds, dp, dm, dv, dq, dr, dk, dn, dz, df, cv, cn, ca, cp, fs, se, er, true), ?_, .inr ⟨(IntKind.wrap .i64 (((s.getD 7 0).toNat : Nat) : Int), to, du, dc, ds, dp, dm, dv, dq, dr, dk, dn, dz, df, cv, cn, ca, cp, fs, se), ?_, rfl, fun h5 => by omega, hs⟩⟩
     ·unfold F46 F46_j4
      rw [cF _ _ _ q2, cF _ _ _ q7, cT _ _ _ q1, cF _ _ _ l8, bS _ _ _ e73', cF _ _ _ nT, cT _ _ _ i7, bS _ _ _ (con4 n hn _), decide_eq_true hB]
      unfold F46_j5
      simp only [Bool.not_true, cond_false, i7, cond_true]
     ·unfold F14
      rw [hc]
      simp only [Option.bind_some]
      rw [hk]
      rw [Option.bind_some, bne_self_eq_false, cF _ _ _ rfl, cT _ _ _ q0, cT _ _ _ q1, cF _ _ _ l8, cT _ _ _ i0, cF _ _ _ p0, cT _ _ _ i1, cF _ _ _ p1, cT _ _ _ i7]
      rw [four _ _ _ hB]
    ·refine no ?_ ?_
     ·unfold F14
      rw [hc]
      simp only [Option.bind_some]
      rw [hk]
      rw [Option.bind_some, bne_self_eq_false, cF _ _ _ rfl, cT _ _ _ q0, cT _ _ _ q1, cF _ _ _ l8, cT _ _ _ i0, cF _ _ _ p0, cT _ _ _ i1, cF _ _ _ p1, cT _ _ _ i7]
      rw [four' _ _ _ hB]
     ·unfold F46 F46_j4
      rw [cF _ _ _ q2, cF _ _ _ q7, cT _ _ _ q1, cF _ _ _ l8, bS _ _ _ e73', cF _ _ _ nT, cT _ _ _ i7, bS _ _ _ (con4 n hn _), decide_eq_false hB]
      rfl
   ·have p1 : ((((s.getD 1 0).toNat : Nat) : Int) != 1) = true := bneT (c := 1) (by omega) e1
    have e73' : F79 n s [18, 1] = some false := by rw [e73, e0, show (s.getD 1 0 == 1) = false by simpa using e1]; rfl
    refine no ?_ ?_
    ·unfold F14
     rw [hc]
     simp only [Option.bind_some]
     rw [hk]
     rw [Option.bind_some, bne_self_eq_false, cF _ _ _ rfl, cT _ _ _ q0, cT _ _ _ q1, cF _ _ _ l8, cT _ _ _ i0, cF _ _ _ p0, cT _ _ _ i1, cT _ _ _ p1]
    ·unfold F46 F46_j4
     rw [cF _ _ _ q2, cF _ _ _ q7, cT _ _ _ q1, cF _ _ _ l8, bS _ _ _ e73', cT _ _ _ nF]
     rfl
  ·have p0 : ((((s.getD 0 0).toNat : Nat) : Int) != 18) = true := bneT (c := 18) (by omega) e0
   have e73' : F79 n s [18, 1] = some false := by rw [e73, show (s.getD 0 0 == 18) = false by simpa using e0]; rfl
   refine no ?_ ?_
   ·unfold F14
    rw [hc]
    simp only [Option.bind_some]
    rw [hk]
    rw [Option.bind_some, bne_self_eq_false, cF _ _ _ rfl, cT _ _ _ q0, cT _ _ _ q1, cF _ _ _ l8, cT _ _ _ i0, cT _ _ _ p0]
   ·unfold F46 F46_j4
    rw [cF _ _ _ q2, cF _ _ _ q7, cT _ _ _ q1, cF _ _ _ l8, bS _ _ _ e73', cT _ _ _ nF]
    rfl
 ·have l8 : (((s.length : Nat) : Int) != 8) = true := by rw [bne_iff_ne]; omega
  refine no ?_ ?_
  ·unfold F14
   rw [hc]
   simp only [Option.bind_some]
   rw [hk]
   rw [Option.bind_some, bne_self_eq_false, cF _ _ _ rfl, cT _ _ _ q0, cT _ _ _ q1, cT _ _ _ l8]
  ·unfold F46 F46_j4
   rw [cF _ _ _ q2, cF _ _ _ q7, cT _ _ _ q1, cT _ _ _ l8]
   rfl
theorem tell4 (n : Nat) (tr ad m0 to du dc ds dp dm dv dq dr dk dn dz df cv cn ca cp : Int) (fs : List CFace) (se : CTx) (er : Int) (s : CTx) (hs : SmF fs) (hc : F33 n 4 tr ad m0 to du dc ds dp dm dv dq dr dk dn dz df cv cn ca cp fs se er = some (4, tr, ad, m0, to, du, dc, ds, dp, dm, dv, dq, dr, dk, dn, dz, df, cv, cn, ca, cp, se, er, fs)) (hk : F28 n 4 tr ad m0 to du dc ds dp dm dv dq dr dk dn dz df cv cn ca cp fs se er = some 0) : ∃ y : YT, F46 n 4 tr ad m0 to du dc ds dp dm dv dq dr dk dn dz df cv cn ca cp fs se er s = some y ∧ TellG n 4 tr ad m0 to du dc ds dp dm dv dq dr dk dn dz df cv cn ca cp fs se er s y := by
 have q0 : ((0 : Int) == 0) = true := rfl
 have q1 : ((4 : Int) == 1) = false := rfl
 have q2 : ((4 : Int) == 2) = false := rfl
 have q3 : ((4 : Int) == 3) = false := rfl
 have q4 : ((4 : Int) == 4) = true := rfl
 have q7 : ((4 : Int) == 7) = false := rfl
 have no : F14 n 4 tr ad m0 to du dc ds dp dm dv dq dr dk dn dz df cv cn ca cp fs se er s 0 = F14_j13 n 0 (4, tr, ad, m0, to, du, dc, ds, dp, dm, dv, dq, dr, dk, dn, dz, df, cv, cn, ca, cp, se, er, fs) (false, m0, to, du, dc, ds, dp, dm, dv, dq, dr, dk, dn, dz, df, cv, cn, ca, cp, fs, se) → F46 n 4 tr ad m0 to du dc ds dp dm dv dq dr dk dn dz df cv cn ca cp fs se er s = some (4, tr, ad, m0, to, du, dc, ds, dp, dm, dv, dq, dr, dk, dn, dz, df, cv, cn, ca, cp, fs, se, er, false) → ∃ y : YT, F46 n 4 tr ad m0 to du dc ds dp dm dv dq dr dk dn dz df cv cn ca cp fs se er s = some y ∧ TellG n 4 tr ad m0 to du dc ds dp dm dv dq dr dk dn dz df cv cn ca cp fs se er s y := fun a b => ⟨_, b, .inl ⟨a, rfl⟩⟩
 by_cases h8 : s.length = 9
 ·have l8 : (((s.length : Nat) : Int) != 9) = false := by rw [h8]; rfl
  have i0 : inb 0 s.length = true := by rw [h8]; rfl
  have i1 : inb 1 s.length = true := by rw [h8]; rfl
  have i2 : inb 2 s.length = true := by rw [h8]; rfl
  have i3 : inb 3 s.length = true := by rw [h8]; rfl
  have e73 := pre2 n s 9 2 (by omega)
  by_cases e0 : s.getD 0 0 = 9
  ·have p0 : ((((s.getD 0 0).toNat : Nat) : Int) != 9) = false := bneF (c := 9) (by omega) e0
   by_cases e1 : s.getD 1 0 = 2
   ·have p1 : ((((s.getD 1 0).toNat : Nat) : Int) != 2) = false := bneF (c := 2) (by omega) e1
    have e73' : F79 n s [9, 2] = some true := by rw [e73, e0, e1]; rfl
    have ew : F80 n s 2 = some (pb s 2 + 256 * pb s 3) := wdR n s 2 (by omega) (by omega)
    refine ⟨(4, tr, ad, m0, (pb s 2 + 256 * pb s 3), du, dc, ds, dp, dm, dv, dq, dr, dk, dn, dz, df, cv, cn, ca, cp, fs, se, er, decide (9 ≤ (pb s 2 + 256 * pb s 3)) && decide ((pb s 2 + 256 * pb s 3) ≤ 512)), ?_, ?_⟩
    ·unfold F46 F46_j4
     rw [cF _ _ _ q2, cF _ _ _ q7, cF _ _ _ q1, cF _ _ _ q3, cT _ _ _ q4, cF _ _ _ l8, bS _ _ _ e73', cF _ _ _ nT, bS _ _ _ ew, bS _ _ _ (betw _ _ _ _)]
    ·by_cases hw1 : (pb s 2 + 256 * pb s 3) < 9
     ·refine .inl ⟨?_, ?_⟩
      ·unfold F14
       rw [hc]
       simp only [Option.bind_some]
       rw [hk]
       rw [Option.bind_some, bne_self_eq_false, cF _ _ _ rfl, cT _ _ _ q0, cF _ _ _ q1, cF _ _ _ q3, cT _ _ _ q4, cF _ _ _ l8, cT _ _ _ i0, cF _ _ _ p0, cT _ _ _ i1]
       unfold F14_j16
       rw [cF _ _ _ p1, cT _ _ _ i2, cT _ _ _ i3, wd2, decide_eq_true hw1, cT _ _ _ rfl]
      ·rw [decide_eq_false (show ¬ 9 ≤ (pb s 2 + 256 * pb s 3) by omega)]; rfl
     ·by_cases hw2 : (pb s 2 + 256 * pb s 3) > 512
      ·refine .inl ⟨?_, ?_⟩
       ·unfold F14
        rw [hc]
        simp only [Option.bind_some]
        rw [hk]
        rw [Option.bind_some, bne_self_eq_false, cF _ _ _ rfl, cT _ _ _ q0, cF _ _ _ q1, cF _ _ _ q3, cT _ _ _ q4, cF _ _ _ l8, cT _ _ _ i0, cF _ _ _ p0, cT _ _ _ i1]
        unfold F14_j16
        rw [cF _ _ _ p1, cT _ _ _ i2, cT _ _ _ i3, wd2, decide_eq_false hw1, decide_eq_true hw2, cF _ _ _ rfl, cT _ _ _ rfl]
       ·rw [decide_eq_false (show ¬ (pb s 2 + 256 * pb s 3) ≤ 512 by omega), Bool.and_false]
      ·refine .inr ⟨(m0, (pb s 2 + 256 * pb s 3), du, dc, ds, dp, dm, dv, dq, dr, dk, dn, dz, df, cv, cn, ca, cp, fs, se), ?_, ?_, fun h5 => by omega, hs⟩
       ·unfold F14
        rw [hc]
        simp only [Option.bind_some]
        rw [hk]
        rw [Option.bind_some, bne_self_eq_false, cF _ _ _ rfl, cT _ _ _ q0, cF _ _ _ q1, cF _ _ _ q3, cT _ _ _ q4, cF _ _ _ l8, cT _ _ _ i0, cF _ _ _ p0, cT _ _ _ i1]
        unfold F14_j16
        rw [cF _ _ _ p1, cT _ _ _ i2, cT _ _ _ i3, wd2, decide_eq_false hw1, decide_eq_false hw2, cF _ _ _ rfl, cF _ _ _ rfl]
       ·rw [decide_eq_true (show 9 ≤ (pb s 2 + 256 * pb s 3) by omega), decide_eq_true (show (pb s 2 + 256 * pb s 3) ≤ 512 by omega)]; rfl
   ·have p1 : ((((s.getD 1 0).toNat : Nat) : Int) != 2) = true := bneT (c := 2) (by omega) e1
    have e73' : F79 n s [9, 2] = some false := by rw [e73, e0, show (s.getD 1 0 == 2) = false by simpa using e1]; rfl
    refine no ?_ ?_
    ·unfold F14
     rw [hc]
     simp only [Option.bind_some]
     rw [hk]
     rw [Option.bind_some, bne_self_eq_false, cF _ _ _ rfl, cT _ _ _ q0, cF _ _ _ q1, cF _ _ _ q3, cT _ _ _ q4, cF _ _ _ l8, cT _ _ _ i0, cF _ _ _ p0, cT _ _ _ i1]
     unfold F14_j16
     rw [cT _ _ _ p1]
    ·unfold F46 F46_j4
     rw [cF _ _ _ q2, cF _ _ _ q7, cF _ _ _ q1, cF _ _ _ q3, cT _ _ _ q4, cF _ _ _ l8, bS _ _ _ e73', cT _ _ _ nF]
  ·have p0 : ((((s.getD 0 0).toNat : Nat) : Int) != 9) = true := bneT (c := 9) (by omega) e0
   have e73' : F79 n s [9, 2] = some false := by rw [e73, show (s.getD 0 0 == 9) = false by simpa using e0]; rfl
   refine no ?_ ?_
   ·unfold F14
    rw [hc]
    simp only [Option.bind_some]
    rw [hk]
    rw [Option.bind_some, bne_self_eq_false, cF _ _ _ rfl, cT _ _ _ q0, cF _ _ _ q1, cF _ _ _ q3, cT _ _ _ q4, cF _ _ _ l8, cT _ _ _ i0, cT _ _ _ p0]
    unfold F14_j16
    rw [cT _ _ _ rfl]
   ·unfold F46 F46_j4
    rw [cF _ _ _ q2, cF _ _ _ q7, cF _ _ _ q1, cF _ _ _ q3, cT _ _ _ q4, cF _ _ _ l8, bS _ _ _ e73', cT _ _ _ nF]
 ·have l8 : (((s.length : Nat) : Int) != 9) = true := by rw [bne_iff_ne]; omega
  refine no ?_ ?_
  ·unfold F14
   rw [hc]
   simp only [Option.bind_some]
   rw [hk]
   rw [Option.bind_some, bne_self_eq_false, cF _ _ _ rfl, cT _ _ _ q0, cF _ _ _ q1, cF _ _ _ q3, cT _ _ _ q4, cT _ _ _ l8]
   unfold F14_j16
   rw [cT _ _ _ rfl]
  ·unfold F46 F46_j4
   rw [cF _ _ _ q2, cF _ _ _ q7, cF _ _ _ q1, cF _ _ _ q3, cT _ _ _ q4, cT _ _ _ l8]
theorem toldS (n : Nat) (hn : 10000000000000 < n) (st tr ad m0 to du dc ds dp dm dv dq dr dk dn dz df cv cn ca cp : Int) (fs : List CFace) (se : CTx) (er : Int) (s : CTx) (code : Int) (hs : SmF fs) : ∃ r : RT, F14 n st tr ad m0 to du dc ds dp dm dv dq dr dk dn dz df cv cn ca cp fs se er s code = some r ∧ F22 n st tr ad m0 to du dc ds dp dm dv dq dr dk dn dz df cv cn ca cp fs se er s code = some r ∧ SmF r.2.2.2.2.2.2.2.2.2.2.2.2.2.2.2.2.2.2.2.2.2.1 := by
 obtain ⟨v, h43, h70, hv⟩ := valids n st tr ad m0 to du dc ds dp dm dv dq dr dk dn dz df cv cn ca cp fs se er
 have hc := copied n st tr ad m0 to du dc ds dp dm dv dq dr dk dn dz df cv cn ca cp fs se er hs (by have := hs.1; omega)
 have hk := check_eq n st tr ad m0 to du dc ds dp dm dv dq dr dk dn dz df cv cn ca cp fs se er v h70
 cases v
 ·have hk1 : F28 n st tr ad m0 to du dc ds dp dm dv dq dr dk dn dz df cv cn ca cp fs se er = some 1 := hk
  refine ⟨(st, tr, ad, m0, to, du, dc, ds, dp, dm, dv, dq, dr, dk, dn, dz, df, cv, cn, ca, cp, fs, se, er, 1), ?_, ?_, hs⟩
  ·unfold F14
   rw [hc]
   simp only [Option.bind_some]
   rw [hk1]
   rw [Option.bind_some, cT _ _ _ (show ((1 : Int) != 0) = true from rfl)]
  ·unfold F22
   rw [h43]
   rw [Option.bind_some, cT _ _ _ nF]
 ·obtain ⟨h1, h9, ht⟩ := hv rfl
  by_cases h8 : st ≥ 8
  ·have hk1 : F28 n st tr ad m0 to du dc ds dp dm dv dq dr dk dn dz df cv cn ca cp fs se er = some 12 := by rw [hk, decide_eq_true h8]; rfl
   refine ⟨(st, tr, ad, m0, to, du, dc, ds, dp, dm, dv, dq, dr, dk, dn, dz, df, cv, cn, ca, cp, fs, se, er, 12), ?_, ?_, hs⟩
   ·unfold F14
    rw [hc]
    simp only [Option.bind_some]
    rw [hk1]
    rw [Option.bind_some, cT _ _ _ (show ((12 : Int) != 0) = true from rfl)]
   ·unfold F22
    rw [h43]
    rw [Option.bind_some, cF _ _ _ nT, cT _ _ _ (decide_eq_true (show st > 7 by omega))]
  ·have hk0 : F28 n st tr ad m0 to du dc ds dp dm dv dq dr dk dn dz df cv cn ca cp fs se er = some 0 := by rw [hk, decide_eq_false h8]; rfl
   have h7 : st ≤ 7 := by omega
   have step : ∃ y : YT, F46 n st tr ad m0 to du dc ds dp dm dv dq dr dk dn dz df cv cn ca cp fs se er s = some y ∧ TellG n st tr ad m0 to du dc ds dp dm dv dq dr dk dn dz df cv cn ca cp fs se er s y := by
    have hh : st = 1 ∨ st = 2 ∨ st = 3 ∨ st = 4 ∨ st = 5 ∨ st = 6 ∨ st = 7 := by omega
    rcases hh with rfl | rfl | rfl | rfl | rfl | rfl | rfl
    ·exact tell1 n (by omega) _ _ _ _ _ _ _ _ _ _ _ _ _ _ _ _ _ _ _ _ fs se er s hs hc hk0
    ·exact tell2 n _ _ _ _ _ _ _ _ _ _ _ _ _ _ _ _ _ _ _ _ fs se er s hs hc hk0
    ·exact tell3 n (by omega) _ _ _ _ _ _ _ _ _ _ _ _ _ _ _ _ _ _ _ _ fs se er s hs hc hk0
    ·exact tell4 n _ _ _ _ _ _ _ _ _ _ _ _ _ _ _ _ _ _ _ _ fs se er s hs hc hk0
    ·exact tell5 n (by omega) _ _ _ _ _ _ _ _ _ _ _ _ _ _ _ _ _ _ _ _ fs se er s hs hc hk0
    ·exact tell6 n (by omega) _ _ _ _ _ _ _ _ _ _ _ _ _ _ _ _ _ _ _ _ fs se er s hs hc hk0
    ·exact tell7 n _ _ _ _ _ _ _ _ _ _ _ _ _ _ _ _ _ _ _ _ fs se er s hs hc hk0
   obtain ⟨y, h44, hg⟩ := step
   by_cases h0 : code = 0
   ·subst h0
    rcases hg with ⟨e, hf⟩ | ⟨k, e, hy, hz, hS⟩
    ·obtain ⟨r, a, b, c⟩ := tellF n st tr ad m0 to du dc ds dp dm dv dq dr dk dn dz df cv cn ca cp fs se er s 0 y h43 h7 ht h44 (.inl hf)
     exact ⟨r, e.trans a, b, by rw [c]; exact hs⟩
    ·subst hy
     obtain ⟨r, a, b, c⟩ := tellT n st tr ad m0 to du dc ds dp dm dv dq dr dk dn dz df cv cn ca cp fs se er s k h43 h1 h7 h44 hz
     exact ⟨r, e.trans a, b, by rw [c]; exact hS⟩
   ·have e : F14 n st tr ad m0 to du dc ds dp dm dv dq dr dk dn dz df cv cn ca cp fs se er s code = F14_j13 n code (st, tr, ad, m0, to, du, dc, ds, dp, dm, dv, dq, dr, dk, dn, dz, df, cv, cn, ca, cp, se, er, fs) (false, m0, to, du, dc, ds, dp, dm, dv, dq, dr, dk, dn, dz, df, cv, cn, ca, cp, fs, se) := by
     unfold F14
     rw [hc]
     simp only [Option.bind_some]
     rw [hk0]
     rw [Option.bind_some, bne_self_eq_false, cF _ _ _ rfl, cF _ _ _ (show (code == 0) = false by simpa using h0)]
    obtain ⟨r, a, b, c⟩ := tellF n st tr ad m0 to du dc ds dp dm dv dq dr dk dn dz df cv cn ca cp fs se er s code y h43 h7 ht h44 (.inr h0)
    exact ⟨r, e.trans a, b, by rw [c]; exact hs⟩
end Go.Proofs.YtghbnolfadnoaaaGreat
namespace Go.Proofs.YtghbnolfadnoaaaGreat
open Go Go.RowKit
set_option linter.unusedVariables false
namespace Mt
open Sa
def out (h : List UInt8) (v i l : Int) : List UInt8 := h ++ (Sa.tb v ++ (Sa.tb i ++ Sa.tb l))
theorem bt {lo hi v : Int} (h1 : lo ≤ v) (h2 : v ≤ hi) : Sa.betw lo hi v = true := by
 unfold Sa.betw
 rw [decide_eq_true h1, decide_eq_true h2]; rfl
theorem ask5 (n : Nat) (hn : 4 ≤ n) (v l : Int) (v0 : 0 ≤ v) (v1 : v ≤ 65535) (l0 : 0 ≤ l) (l1 : l ≤ 65535) : F29 n 5 v 0 l = some (out (headK 5) v 0 l, 0) ∧ F38 n 5 v 0 l = some (out (headK 5) v 0 l, 0) := by
 constructor
 ·have e : (l == (-1 : Int) || (decide ((-1 : Int) < 0) && Sa.betw 0 65535 l)) = Sa.betw 0 65535 l := by
   have : (l == (-1 : Int)) = false := by rw [beq_eq_false_iff_ne]; omega
   rw [this]; rfl
  rw [s29 n hn 5 v 0 l _ _ _ _ _ _ _ rfl (s82_1 n v) (s82_1 n 0), e, bt v0 v1, bt l0 l1]; rfl
 ·rw [s30 n 5 v 0 l (headK 5) (Sa.betw 0 65535 v) (Sa.betw 0 65535 0) (Sa.betw 0 65535 l) rfl (by simp [F75, F75_j3, F75_j4, s16]) (by simp [F76, s16, Sa.betw]) (by simp [F77, s16]) rfl rfl (by decide) (fun h => btw0 h (by omega) (by omega)) (fun h => btw0 h (by omega) (by omega)) (fun h => btw0 h (by omega) (by omega)), bt v0 v1, bt l0 l1]; rfl
theorem ask4 (n : Nat) (hn : 4 ≤ n) (v : Int) (v0 : 0 ≤ v) (v1 : v ≤ 127) : F29 n 4 v 0 0 = some (out (headK 4) v 0 0, 0) ∧ F38 n 4 v 0 0 = some (out (headK 4) v 0 0, 0) := by
 constructor
 ·rw [s29 n hn 4 v 0 0 _ _ _ _ _ _ _ rfl (s82_4 n v) (s82_0 n 0), len1 0 _ rfl, bt v0 v1]; rfl
 ·rw [s30 n 4 v 0 0 (headK 4) (Sa.betw 0 127 v) ((0 : Int) == 0) ((0 : Int) == 0) rfl (by simp [F75, F75_j3, F75_j4, s16]) (by simp [F76, s16, Sa.betw]) rfl rfl rfl (by decide) (fun h => btw0 h (by omega) (by omega)) (fun h => eq0 h (by omega) (by omega)) (fun h => eq0 h (by omega) (by omega)), bt v0 v1]; rfl
theorem ask6 (n : Nat) (hn : 4 ≤ n) (v : Int) (v0 : 0 ≤ v) (v1 : v ≤ 255) : F29 n 6 v 0 0 = some (out (headK 6) v 0 0, 0) ∧ F38 n 6 v 0 0 = some (out (headK 6) v 0 0, 0) := by
 constructor
 ·rw [s29 n hn 6 v 0 0 _ _ _ _ _ _ _ rfl (s82_2 n v) (s82_0 n 0), len1 0 _ rfl, bt v0 v1]; rfl
 ·rw [s30 n 6 v 0 0 (headK 6) (Sa.betw 0 255 v) ((0 : Int) == 0) ((0 : Int) == 0) rfl (by simp [F75, F75_j3, F75_j4, s16]) (by simp [F76, s16, Sa.betw]) rfl rfl rfl (by decide) (fun h => btw0 h (by omega) (by omega)) (fun h => eq0 h (by omega) (by omega)) (fun h => eq0 h (by omega) (by omega)), bt v0 v1]; rfl
end Mt
def Gd (st tr ad to dz cv : Int) : Prop := (1 ≤ st ∧ st ≤ 9) ∧ (0 ≤ tr ∧ tr ≤ 2) ∧ (1 ≤ ad ∧ ad ≤ 127) ∧ (0 ≤ to ∧ to ≤ 512) ∧ (0 ≤ dz ∧ dz ≤ 255) ∧ (0 ≤ cv ∧ cv ≤ 255)
section
variable (n : Nat) (st tr ad m0 to du dc ds dp dm dv dq dr dk dn dz df cv cn ca cp : Int) (fs : List CFace) (se : CTx) (er : Int)
theorem okG (h : Gd st tr ad to dz cv) : F45 n st tr ad m0 to du dc ds dp dm dv dq dr dk dn dz df cv cn ca cp fs se er = some true := by
 obtain ⟨⟨a1, a2⟩, ⟨b1, b2⟩, ⟨c1, c2⟩, ⟨d1, d2⟩, ⟨e1, e2⟩, f1, f2⟩ := h
 unfold F45
 rw [bS _ _ _ (betw n st 1 9), cT _ _ _ (by rw [decide_eq_true a1, decide_eq_true a2]; rfl), bS _ _ _ (betw n tr 0 2), cT _ _ _ (by rw [decide_eq_true b1, decide_eq_true b2]; rfl), bS _ _ _ (betw n ad 1 127), cT _ _ _ (by rw [decide_eq_true c1, decide_eq_true c2]; rfl), bS _ _ _ (betw n to 0 512), cT _ _ _ (by rw [decide_eq_true d1, decide_eq_true d2]; rfl), bS _ _ _ (betw n dz 0 255), cT _ _ _ (by rw [decide_eq_true e1, decide_eq_true e2]; rfl), bS _ _ _ (betw n cv 0 255), decide_eq_true f1, decide_eq_true f2]; rfl
theorem okV (h : Gd st tr ad to dz cv) : F58 n st tr ad m0 to du dc ds dp dm dv dq dr dk dn dz df cv cn ca cp fs se er = some true := by
 obtain ⟨v, h1, h2, _⟩ := valids n st tr ad m0 to du dc ds dp dm dv dq dr dk dn dz df cv cn ca cp fs se er
 rw [okG n st tr ad m0 to du dc ds dp dm dv dq dr dk dn dz df cv cn ca cp fs se er h] at h1
 cases h1
 exact h2
theorem askG (hn : 4 ≤ n) (h : Gd st tr ad to dz cv) (h8 : st < 8) : ∃ t, F12 n st tr ad m0 to du dc ds dp dm dv dq dr dk dn dz df cv cn ca cp fs se er = some (t, 0) ∧ F20 n st tr ad m0 to du dc ds dp dm dv dq dr dk dn dz df cv cn ca cp fs se er = some (t, true) := by
 obtain ⟨⟨a1, a2⟩, ⟨b1, b2⟩, ⟨c1, c2⟩, ⟨d1, d2⟩, ⟨e1, e2⟩, f1, f2⟩ := id h
 have hc := check_eq n st tr ad m0 to du dc ds dp dm dv dq dr dk dn dz df cv cn ca cp fs se er true (okV n st tr ad m0 to du dc ds dp dm dv dq dr dk dn dz df cv cn ca cp fs se er h)
 unfold F12
 rw [hc, decide_eq_false (show ¬ st ≥ 8 by omega)]
 have hw : IntKind.wrap .i64 (768 + dz) = 768 + dz := w64 (by omega) (by omega)
 simp only [Bool.not_true, cond_false, Option.bind_some, bne_self_eq_false, hw]
 have hst : st = 1 ∨ st = 2 ∨ st = 3 ∨ st = 4 ∨ st = 5 ∨ st = 6 ∨ st = 7 := by omega
 rcases hst with rfl | rfl | rfl | rfl | rfl | rfl | rfl
 ·obtain ⟨e1, e2⟩ := Mt.ask5 n (by omega) 256 8 (by omega) (by omega) (by omega) (by omega)
  refine ⟨Mt.out (Sa.headK 5) 256 0 8, ?_, ?_⟩
  ·show ((F29 n 5 256 0 8).bind fun y => some (y.1, y.2)) = _
   rw [e1]; rfl
  ·show ((F38 n 5 256 0 8).bind fun y => some (y.1, true)) = _
   rw [e2]; rfl
 ·obtain ⟨e1, e2⟩ := Mt.ask4 n (by omega) ad (by omega) (by omega)
  refine ⟨Mt.out (Sa.headK 4) ad 0 0, ?_, ?_⟩
  ·show ((F29 n 4 ad 0 0).bind fun y => some (y.1, y.2)) = _
   rw [e1]; rfl
  ·show ((F38 n 4 ad 0 0).bind fun y => some (y.1, true)) = _
   rw [e2]; rfl
 ·obtain ⟨e1, e2⟩ := Mt.ask5 n (by omega) 256 18 (by omega) (by omega) (by omega) (by omega)
  refine ⟨Mt.out (Sa.headK 5) 256 0 18, ?_, ?_⟩
  ·show ((F29 n 5 256 0 18).bind fun y => some (y.1, y.2)) = _
   rw [e1]; rfl
  ·show ((F38 n 5 256 0 18).bind fun y => some (y.1, true)) = _
   rw [e2]; rfl
 ·obtain ⟨e1, e2⟩ := Mt.ask5 n (by omega) 512 9 (by omega) (by omega) (by omega) (by omega)
  refine ⟨Mt.out (Sa.headK 5) 512 0 9, ?_, ?_⟩
  ·show ((F29 n 5 512 0 9).bind fun y => some (y.1, y.2)) = _
   rw [e1]; rfl
  ·show ((F38 n 5 512 0 9).bind fun y => some (y.1, true)) = _
   rw [e2]; rfl
 ·obtain ⟨e1, e2⟩ := Mt.ask5 n (by omega) 512 to (by omega) (by omega) (by omega) (by omega)
  refine ⟨Mt.out (Sa.headK 5) 512 0 to, ?_, ?_⟩
  ·show ((F29 n 5 512 0 to).bind fun y => some (y.1, y.2)) = _
   rw [e1]; rfl
  ·show ((F38 n 5 512 0 to).bind fun y => some (y.1, true)) = _
   rw [e2]; rfl
 ·obtain ⟨e1, e2⟩ := Mt.ask5 n (by omega) (768 + dz) 255 (by omega) (by omega) (by omega) (by omega)
  refine ⟨Mt.out (Sa.headK 5) (768 + dz) 0 255, ?_, ?_⟩
  ·show ((F29 n 5 (768 + dz) 0 255).bind fun y => some (y.1, y.2)) = _
   rw [e1]; rfl
  ·show ((F38 n 5 (IntKind.wrap .i64 (768 + dz)) 0 255).bind fun y => some (y.1, true)) = _
   rw [hw, e2]; rfl
 ·obtain ⟨e1, e2⟩ := Mt.ask6 n (by omega) cv (by omega) (by omega)
  refine ⟨Mt.out (Sa.headK 6) cv 0 0, ?_, ?_⟩
  ·show ((F29 n 6 cv 0 0).bind fun y => some (y.1, y.2)) = _
   rw [e1]; rfl
  ·show ((F38 n 6 cv 0 0).bind fun y => some (y.1, true)) = _
   rw [e2]; rfl
theorem askN (h : Gd st tr ad to dz cv) (h8 : 8 ≤ st) : F12 n st tr ad m0 to du dc ds dp dm dv dq dr dk dn dz df cv cn ca cp fs se er = some ([], 12) := by
 have hc := check_eq n st tr ad m0 to du dc ds dp dm dv dq dr dk dn dz df cv cn ca cp fs se er true (okV n st tr ad m0 to du dc ds dp dm dv dq dr dk dn dz df cv cn ca cp fs se er h)
 unfold F12
 rw [hc, decide_eq_true (show st ≥ 8 by omega)]; rfl
end
theorem byte_in (s : List UInt8) (i : Nat) : 0 ≤ IntKind.wrap .i64 (((s.getD i 0).toNat : Nat) : Int) ∧ IntKind.wrap .i64 (((s.getD i 0).toNat : Nat) : Int) ≤ 255 := by
 have := (s.getD i 0).toNat_lt
 rw [w64n _ (by omega)]
 omega
theorem dev_ser (n : Nat) (s : List UInt8) (y) (h : F82 n s = some y) : 0 ≤ y.2.2.2.2.2.2.2.2.2.2.1 ∧ y.2.2.2.2.2.2.2.2.2.2.1 ≤ 255 := by
 have j2 : ∀ b y, F82_j2 n s b = some y → 0 ≤ y.2.2.2.2.2.2.2.2.2.2.1 ∧ y.2.2.2.2.2.2.2.2.2.2.1 ≤ 255 := by
  intro b y h
  unfold F82_j2 at h
  rcases bif_some h with ⟨_, h⟩ | ⟨_, h⟩
  ·cases h; exact ⟨Int.le_refl 0, by decide⟩
  obtain ⟨_, _, h⟩ := bind_some' h
  obtain ⟨_, h⟩ := test_some h
  obtain ⟨_, h⟩ := test_some h
  obtain ⟨_, h⟩ := test_some h
  obtain ⟨_, h⟩ := test_some h
  obtain ⟨_, _, h⟩ := bind_some' h
  obtain ⟨_, _, h⟩ := bind_some' h
  obtain ⟨_, _, h⟩ := bind_some' h
  obtain ⟨_, h⟩ := test_some h
  obtain ⟨_, h⟩ := test_some h
  obtain ⟨_, h⟩ := test_some h
  obtain ⟨_, h⟩ := test_some h
  cases h
  exact byte_in s 16
 unfold F82 at h
 rcases bif_some h with ⟨_, h⟩ | ⟨_, h⟩
 ·cases h; exact ⟨Int.le_refl 0, by decide⟩
 rcases bif_some h with ⟨_, h⟩ | ⟨_, h⟩
 ·exact j2 _ _ h
 obtain ⟨_, h⟩ := test_some h
 rcases bif_some h with ⟨_, h⟩ | ⟨_, h⟩
 ·exact j2 _ _ h
 obtain ⟨_, h⟩ := test_some h
 rcases bif_some h with ⟨_, h⟩ | ⟨_, h⟩
 ·exact j2 _ _ h
 obtain ⟨_, h⟩ := test_some h
 obtain ⟨_, _, h⟩ := bind_some' h
 exact j2 _ _ h
theorem rdP_val (s : CTx) : 0 ≤ (rdP s).1 ∧ (rdP s).1 ≤ 255 := by
 have he : ∀ x : Int × Int × Int × Int × List CFace × Int, x.1 = 0 → 0 ≤ x.1 ∧ x.1 ≤ 255 := by
  intro x hx
  rw [hx]
  exact ⟨Int.le_refl 0, by decide⟩
 unfold rdP
 split
 ·exact he _ rfl
 ·split
  ·exact he _ rfl
  ·rename_i h ds hl
   split
   ·split
    ·exact he _ rfl
    ·unfold endP
     split
     ·have := pb_in h 5
      exact ⟨this.1, by show pb h 5 ≤ 255; omega⟩
     ·exact he _ rfl
   ·exact he _ rfl
section
variable (n : Nat) (hn : 2000 < n) (st tr ad m0 to du dc ds dp dm dv dq dr dk dn dz df cv cn ca cp : Int) (fs : List CFace) (se : CTx) (er : Int) (s : CTx)
include hn
theorem keptGd (y : YT) (h : F46 n st tr ad m0 to du dc ds dp dm dv dq dr dk dn dz df cv cn ca cp fs se er s = some y) (hy : y.2.2.2.2.2.2.2.2.2.2.2.2.2.2.2.2.2.2.2.2.2.2.2.2 = true) (hg : Gd st tr ad to dz cv) : Gd y.1 y.2.1 y.2.2.1 y.2.2.2.2.1 y.2.2.2.2.2.2.2.2.2.2.2.2.2.2.2.1 y.2.2.2.2.2.2.2.2.2.2.2.2.2.2.2.2.2.1 ∧ y.1 = st := by
 obtain ⟨a, b, c, d, e, f⟩ := id hg
 have j5 : ∀ x y, F46_j5 n st tr ad m0 to du dc ds dp dm dv dq dr dk dn dz df cv cn ca cp fs se er s x = some y → Gd y.1 y.2.1 y.2.2.1 y.2.2.2.2.1 y.2.2.2.2.2.2.2.2.2.2.2.2.2.2.2.1 y.2.2.2.2.2.2.2.2.2.2.2.2.2.2.2.2.2.1 ∧ y.1 = st := by
  intro x y h
  unfold F46_j5 at h
  rcases bif_some h with ⟨_, h⟩ | ⟨_, h⟩
  ·cases h; exact ⟨hg, rfl⟩
  obtain ⟨_, h⟩ := test_some h
  cases h; exact ⟨hg, rfl⟩
 have j4 : ∀ x, F46_j4 n st tr ad m0 to du dc ds dp dm dv dq dr dk dn dz df cv cn ca cp fs se er s x = some y → Gd y.1 y.2.1 y.2.2.1 y.2.2.2.2.1 y.2.2.2.2.2.2.2.2.2.2.2.2.2.2.2.1 y.2.2.2.2.2.2.2.2.2.2.2.2.2.2.2.2.2.1 ∧ y.1 = st := by
  intro x h
  unfold F46_j4 at h
  rcases bif_some h with ⟨_, h⟩ | ⟨_, h⟩
  ·cases h; exact ⟨hg, rfl⟩
  rcases bif_some h with ⟨_, h⟩ | ⟨_, h⟩
  ·rcases bif_some h with ⟨_, h⟩ | ⟨_, h⟩
   ·exact j5 _ _ h
   obtain ⟨_, _, h⟩ := bind_some' h
   rcases bif_some h with ⟨_, h⟩ | ⟨_, h⟩
   ·exact j5 _ _ h
   obtain ⟨_, h⟩ := test_some h
   obtain ⟨_, _, h⟩ := bind_some' h
   exact j5 _ _ h
  rcases bif_some h with ⟨_, h⟩ | ⟨_, h⟩
  ·obtain ⟨q, hq, h⟩ := bind_some' h
   have hs := dev_ser n s q hq
   rcases bif_some h with ⟨_, h⟩ | ⟨_, h⟩
   ·rcases bif_some h with ⟨_, h⟩ | ⟨_, h⟩
    ·cases h; exact ⟨⟨a, b, c, d, hs, f⟩, rfl⟩
    ·cases h; exact ⟨⟨a, b, c, d, hs, f⟩, rfl⟩
   ·cases h; exact ⟨⟨a, b, c, d, hs, f⟩, rfl⟩
  rcases bif_some h with ⟨_, h⟩ | ⟨_, h⟩
  ·rcases bif_some h with ⟨_, h⟩ | ⟨_, h⟩
   ·cases h; exact ⟨hg, rfl⟩
   obtain ⟨_, _, h⟩ := bind_some' h
   rcases bif_some h with ⟨_, h⟩ | ⟨_, h⟩
   ·cases h; exact ⟨hg, rfl⟩
   obtain ⟨w, _, h⟩ := bind_some' h
   obtain ⟨q, hq, h⟩ := bind_some' h
   rw [betw] at hq
   cases hq
   cases h
   have hy' : (decide (9 ≤ w) && decide (w ≤ 512)) = true := hy
   simp only [Bool.and_eq_true, decide_eq_true_eq] at hy'
   exact ⟨⟨a, b, c, ⟨by show 0 ≤ w; omega, hy'.2⟩, e, f⟩, rfl⟩
  rcases bif_some h with ⟨_, h⟩ | ⟨_, h⟩
  ·obtain ⟨q, hq, h⟩ := bind_some' h
   have hv : 0 ≤ q.1 ∧ q.1 ≤ 255 := by
    rw [readR n hn, rd_same] at hq
    cases hq
    exact rdP_val s
   rcases bif_some h with ⟨_, h⟩ | ⟨_, h⟩
   ·cases h; exact ⟨⟨a, b, c, d, e, hv⟩, rfl⟩
   ·cases h; exact ⟨⟨a, b, c, d, e, hv⟩, rfl⟩
  obtain ⟨_, _, h⟩ := bind_some' h
  cases h; exact ⟨hg, rfl⟩
 unfold F46 at h
 rcases bif_some h with ⟨_, h⟩ | ⟨_, h⟩
 ·exact j4 _ h
 ·exact j4 _ h
theorem toldGd (code : Int) (r : Int × Int × Int × Int × Int × Int × Int × Int × Int × Int × Int × Int × Int × Int × Int × Int × Int × Int × Int × Int × Int × List CFace × CTx × Int × Int) (h : F22 n st tr ad m0 to du dc ds dp dm dv dq dr dk dn dz df cv cn ca cp fs se er s code = some r) (hg : Gd st tr ad to dz cv) : Gd r.1 r.2.1 r.2.2.1 r.2.2.2.2.1 r.2.2.2.2.2.2.2.2.2.2.2.2.2.2.2.1 r.2.2.2.2.2.2.2.2.2.2.2.2.2.2.2.2.2.1 := by
 obtain ⟨a, b, c, d, e, f⟩ := id hg
 unfold F22 at h
 rw [bS _ _ _ (okG n st tr ad m0 to du dc ds dp dm dv dq dr dk dn dz df cv cn ca cp fs se er hg), cF _ _ _ nT] at h
 rcases bif_some h with ⟨_, h⟩ | ⟨h7, h⟩
 ·cases h; exact hg
 have h7 := of_decide_eq_false h7
 obtain ⟨y, hy, h⟩ := bind_some' h
 rcases bif_some h with ⟨k, h⟩ | ⟨_, h⟩
 ·rcases bif_some h with ⟨_, h⟩ | ⟨_, h⟩
  ·obtain ⟨⟨a', b', c', d', e', f'⟩, es⟩ := keptGd n hn st tr ad m0 to du dc ds dp dm dv dq dr dk dn dz df cv cn ca cp fs se er s y hy k hg
   rcases bif_some h with ⟨h5, h⟩ | ⟨_, h⟩
   ·rcases bif_some h with ⟨_, h⟩ | ⟨_, h⟩
    ·cases h; exact ⟨⟨by show (1 : Int) ≤ 7; omega, by show (7 : Int) ≤ 9; omega⟩, ⟨by show (0 : Int) ≤ 0; omega, by show (0 : Int) ≤ 2; omega⟩, c', d', e', f'⟩
    ·cases h; exact ⟨by show 1 ≤ IntKind.wrap .i64 (st + 1) ∧ IntKind.wrap .i64 (st + 1) ≤ 9; rw [w64 (by omega) (by omega)]; omega, ⟨by show (0 : Int) ≤ 0; omega, by show (0 : Int) ≤ 2; omega⟩, c', d', e', f'⟩
   ·cases h; exact ⟨by show 1 ≤ IntKind.wrap .i64 (st + 1) ∧ IntKind.wrap .i64 (st + 1) ≤ 9; rw [w64 (by omega) (by omega)]; omega, ⟨by show (0 : Int) ≤ 0; omega, by show (0 : Int) ≤ 2; omega⟩, c', d', e', f'⟩
  ·rcases bif_some h with ⟨ht, h⟩ | ⟨_, h⟩
   ·have ht := of_decide_eq_true ht
    cases h; exact ⟨a, by show 0 ≤ IntKind.wrap .i64 (tr + 1) ∧ IntKind.wrap .i64 (tr + 1) ≤ 2; rw [w64 (by omega) (by omega)]; omega, c, d, e, f⟩
   ·cases h; exact ⟨⟨by show (1 : Int) ≤ 9; omega, by show (9 : Int) ≤ 9; omega⟩, ⟨by show (0 : Int) ≤ 0; omega, by show (0 : Int) ≤ 2; omega⟩, c, d, e, f⟩
 ·rcases bif_some h with ⟨ht, h⟩ | ⟨_, h⟩
  ·have ht := of_decide_eq_true ht
   cases h; exact ⟨a, by show 0 ≤ IntKind.wrap .i64 (tr + 1) ∧ IntKind.wrap .i64 (tr + 1) ≤ 2; rw [w64 (by omega) (by omega)]; omega, c, d, e, f⟩
  ·rcases bif_some h with ⟨_, h⟩ | ⟨_, h⟩
   ·cases h; exact ⟨⟨by show (1 : Int) ≤ 9; omega, by show (9 : Int) ≤ 9; omega⟩, ⟨by show (0 : Int) ≤ 0; omega, by show (0 : Int) ≤ 2; omega⟩, c, d, e, f⟩
   ·cases h; exact ⟨⟨by show (1 : Int) ≤ 9; omega, by show (9 : Int) ≤ 9; omega⟩, ⟨by show (0 : Int) ≤ 0; omega, by show (0 : Int) ≤ 2; omega⟩, c, d, e, f⟩
end
end Go.Proofs.YtghbnolfadnoaaaGreat
namespace Go.Proofs.YtghbnolfadnoaaaGreat
open Go Go.RowKit
set_option linter.unusedVariables false
def Fs5 (fates : List Int) : Prop := ∀ f ∈ fates, 1 ≤ f ∧ f ≤ 5
abbrev MT := Int × Int × Int × Int × Int × Int × Int × Int × Int × Int × Int × Int × Int × Int × Int × Int × Int × Int × Int × Int × Int × List CFace × CTx × Int × Int × Int × Int × Int × Int
section
variable (u c s p m v vr l k a z g sv sn sa sp : Int) (F : List CFace) (T : List CTx) (fates : List Int) (n : Nat)
theorem roundM (hn : 10000000000000 < n) (ht : ∀ t ∈ T, t.length ≤ 1048576) (h5 : Fs5 fates) (i : Int) (hi0 : 0 ≤ i) (hi : i < fates.length) (hl : fates.length ≤ 1000) (st tr ad m0 to du dc ds dp dm dv dq dr dk dn dz df cv cn ca cp : Int) (fs : List CFace) (se : CTx) (er : Int) (d1 d2 d3 : Int) (hs : SmF fs) (hg : Gd st tr ad to dz cv) (h8 : st < 8) :
  ∃ (r : Int × Int × Int × Int × Int × Int × Int × Int × Int × Int × Int × Int × Int × Int × Int × Int × Int × Int × Int × Int × Int × List CFace × CTx × Int × Int) (e1 e2 e3 : Int), SmF r.2.2.2.2.2.2.2.2.2.2.2.2.2.2.2.2.2.2.2.2.2.1 ∧ Gd r.1 r.2.1 r.2.2.1 r.2.2.2.2.1 r.2.2.2.2.2.2.2.2.2.2.2.2.2.2.2.1 r.2.2.2.2.2.2.2.2.2.2.2.2.2.2.2.2.2.1 ∧ (∀ K, F4_l18 n u c s p m v vr l k a z g sv sn sa sp F T fates K (i, st, tr, ad, m0, to, du, dc, ds, dp, dm, dv, dq, dr, dk, dn, dz, df, cv, cn, ca, cp, fs, se, er, d1, d2, d3) = K (i + 1, r.1, r.2.1, r.2.2.1, r.2.2.2.1, r.2.2.2.2.1, r.2.2.2.2.2.1, r.2.2.2.2.2.2.1, r.2.2.2.2.2.2.2.1, r.2.2.2.2.2.2.2.2.1, r.2.2.2.2.2.2.2.2.2.1, r.2.2.2.2.2.2.2.2.2.2.1, r.2.2.2.2.2.2.2.2.2.2.2.1, r.2.2.2.2.2.2.2.2.2.2.2.2.1, r.2.2.2.2.2.2.2.2.2.2.2.2.2.1, r.2.2.2.2.2.2.2.2.2.2.2.2.2.2.1, r.2.2.2.2.2.2.2.2.2.2.2.2.2.2.2.1, r.2.2.2.2.2.2.2.2.2.2.2.2.2.2.2.2.1, r.2.2.2.2.2.2.2.2.2.2.2.2.2.2.2.2.2.1, r.2.2.2.2.2.2.2.2.2.2.2.2.2.2.2.2.2.2.1, r.2.2.2.2.2.2.2.2.2.2.2.2.2.2.2.2.2.2.2.1, r.2.2.2.2.2.2.2.2.2.2.2.2.2.2.2.2.2.2.2.2.1, r.2.2.2.2.2.2.2.2.2.2.2.2.2.2.2.2.2.2.2.2.2.1, r.2.2.2.2.2.2.2.2.2.2.2.2.2.2.2.2.2.2.2.2.2.2.1, r.2.2.2.2.2.2.2.2.2.2.2.2.2.2.2.2.2.2.2.2.2.2.2.1, e1, e2, e3)) ∧ (∀ K, F5_l28 n u c s p m v vr l k a z g sv sn sa sp F T fates K (i, st, tr, ad, m0, to, du, dc, ds, dp, dm, dv, dq, dr, dk, dn, dz, df, cv, cn, ca, cp, fs, se, er, d1, d2, d3) = K (i + 1, r.1, r.2.1, r.2.2.1, r.2.2.2.1, r.2.2.2.2.1, r.2.2.2.2.2.1, r.2.2.2.2.2.2.1, r.2.2.2.2.2.2.2.1, r.2.2.2.2.2.2.2.2.1, r.2.2.2.2.2.2.2.2.2.1, r.2.2.2.2.2.2.2.2.2.2.1, r.2.2.2.2.2.2.2.2.2.2.2.1, r.2.2.2.2.2.2.2.2.2.2.2.2.1, r.2.2.2.2.2.2.2.2.2.2.2.2.2.1, r.2.2.2.2.2.2.2.2.2.2.2.2.2.2.1, r.2.2.2.2.2.2.2.2.2.2.2.2.2.2.2.1, r.2.2.2.2.2.2.2.2.2.2.2.2.2.2.2.2.1, r.2.2.2.2.2.2.2.2.2.2.2.2.2.2.2.2.2.1, r.2.2.2.2.2.2.2.2.2.2.2.2.2.2.2.2.2.2.1, r.2.2.2.2.2.2.2.2.2.2.2.2.2.2.2.2.2.2.2.1, r.2.2.2.2.2.2.2.2.2.2.2.2.2.2.2.2.2.2.2.2.1, r.2.2.2.2.2.2.2.2.2.2.2.2.2.2.2.2.2.2.2.2.2.1, r.2.2.2.2.2.2.2.2.2.2.2.2.2.2.2.2.2.2.2.2.2.2.1, r.2.2.2.2.2.2.2.2.2.2.2.2.2.2.2.2.2.2.2.2.2.2.2.1, e1, e2, e3)) := by
 obtain ⟨t, hN, hA⟩ := askG n st tr ad m0 to du dc ds dp dm dv dq dr dk dn dz df cv cn ca cp fs se er (by omega) hg h8
 obtain ⟨q, q1, q2⟩ := controlS u c s p m v vr l k a z g sv sn sa sp F T n (by omega) ht d1 d2 d3 t
 have hw : IntKind.wrap .i64 (i + 1) = i + 1 := w64 (by omega) (by omega)
 have hin : inb i fates.length = true := inb_true hi0 (by omega)
 have hf : 1 ≤ fates.getD i.toNat 0 ∧ fates.getD i.toNat 0 ≤ 5 := by
  refine h5 _ ?_
  rw [List.getD_eq_getElem?_getD, List.getElem?_eq_getElem (show i.toNat < fates.length by omega)]
  exact List.getElem_mem _
 generalize hfe : fates.getD i.toNat 0 = f at hf
 have tl : ∀ (x : CTx) (code : Int), ∃ r : Int × Int × Int × Int × Int × Int × Int × Int × Int × Int × Int × Int × Int × Int × Int × Int × Int × Int × Int × Int × Int × List CFace × CTx × Int × Int, F14 n st tr ad m0 to du dc ds dp dm dv dq dr dk dn dz df cv cn ca cp fs se er x code = some r ∧ F22 n st tr ad m0 to du dc ds dp dm dv dq dr dk dn dz df cv cn ca cp fs se er x code = some r ∧ SmF r.2.2.2.2.2.2.2.2.2.2.2.2.2.2.2.2.2.2.2.2.2.1 ∧ Gd r.1 r.2.1 r.2.2.1 r.2.2.2.2.1 r.2.2.2.2.2.2.2.2.2.2.2.2.2.2.2.1 r.2.2.2.2.2.2.2.2.2.2.2.2.2.2.2.2.2.1 := by
  intro x code
  obtain ⟨r, r1, r2, r3⟩ := toldS n hn st tr ad m0 to du dc ds dp dm dv dq dr dk dn dz df cv cn ca cp fs se er x code hs
  exact ⟨r, r1, r2, r3, toldGd n (by omega) st tr ad m0 to du dc ds dp dm dv dq dr dk dn dz df cv cn ca cp fs se er x code r r2 hg⟩
 have m0' : ∀ (K : Int × Int × Int × Int × Int × Int × Int × Int × Int × Int × Int × Int × Int × Int × Int × Int × Int × Int × Int × Int × Int × Int × List CFace × CTx × Int × Int × Int × Int → Option MT), F4_l18 n u c s p m v vr l k a z g sv sn sa sp F T fates K (i, st, tr, ad, m0, to, du, dc, ds, dp, dm, dv, dq, dr, dk, dn, dz, df, cv, cn, ca, cp, fs, se, er, d1, d2, d3) = (bif f == 1 then F4_j19 n K i st tr ad m0 to du dc ds dp dm dv dq dr dk dn dz df cv cn ca cp fs se er (q.2.2.2.1, q.2.2.2.2, q.1, q.2.1, q.2.2.1) else bif f == 3 then F4_j19 n K i st tr ad m0 to du dc ds dp dm dv dq dr dk dn dz df cv cn ca cp fs se er ([], 9, q.1, q.2.1, q.2.2.1) else bif f == 4 then F4_j19 n K i st tr ad m0 to du dc ds dp dm dv dq dr dk dn dz df cv cn ca cp fs se er ([], 10, d1, d2, d3) else bif f == 5 then F4_j19 n K i st tr ad m0 to du dc ds dp dm dv dq dr dk dn dz df cv cn ca cp fs se er ([], 8, d1, d2, d3) else F4_j19 n K i st tr ad m0 to du dc ds dp dm dv dq dr dk dn dz df cv cn ca cp fs se er ([], 9, d1, d2, d3)) := by
  intro K
  rw [F4_l18]
  rw [cT _ _ _ (decide_eq_true (show i < ((fates.length : Nat) : Int) from hi)), cT _ _ _ hin, bS _ _ _ hN, cF _ _ _ (show ((t, (0 : Int)).2 != 0) = false from rfl), bS _ _ _ q1, bS _ _ _ q1, hfe]
 have r0' : ∀ (K : Int × Int × Int × Int × Int × Int × Int × Int × Int × Int × Int × Int × Int × Int × Int × Int × Int × Int × Int × Int × Int × Int × List CFace × CTx × Int × Int × Int × Int → Option MT), F5_l28 n u c s p m v vr l k a z g sv sn sa sp F T fates K (i, st, tr, ad, m0, to, du, dc, ds, dp, dm, dv, dq, dr, dk, dn, dz, df, cv, cn, ca, cp, fs, se, er, d1, d2, d3) = (bif f == 1 then (bif f != 1 then (bif inb f 6 then F5_j29 n K i st tr ad m0 to du dc ds dp dm dv dq dr dk dn dz df cv cn ca cp fs se er q ([], [0, 0, 9, 9, 10, 8].getD f.toNat 0) else none) else F5_j29 n K i st tr ad m0 to du dc ds dp dm dv dq dr dk dn dz df cv cn ca cp fs se er q (q.2.2.2.1, q.2.2.2.2)) else bif f == 3 then F5_j30 n K fates i st tr ad m0 to du dc ds dp dm dv dq dr dk dn dz df cv cn ca cp fs se er q (q.1, q.2.1, q.2.2.1) else F5_j30 n K fates i st tr ad m0 to du dc ds dp dm dv dq dr dk dn dz df cv cn ca cp fs se er q (d1, d2, d3)) := by
  intro K
  rw [F5_l28]
  rw [cT _ _ _ (decide_eq_true h8), cT _ _ _ (decide_eq_true (show i < ((fates.length : Nat) : Int) from hi)), cT _ _ _ hin, bS _ _ _ hA, bS _ _ _ q2, hfe]
  rfl
 have hh : f = 1 ∨ f = 2 ∨ f = 3 ∨ f = 4 ∨ f = 5 := by omega
 rcases hh with rfl | rfl | rfl | rfl | rfl
 ·obtain ⟨w, r1, r2, r3, r4⟩ := tl q.2.2.2.1 q.2.2.2.2
  refine ⟨w, q.1, q.2.1, q.2.2.1, r3, r4, fun K => ?_, fun K => ?_⟩
  ·rw [m0' K]
   show F4_j19 n K i st tr ad m0 to du dc ds dp dm dv dq dr dk dn dz df cv cn ca cp fs se er (q.2.2.2.1, q.2.2.2.2, q.1, q.2.1, q.2.2.1) = _
   rw [F4_j19, bS _ _ _ r1, hw]
  ·rw [r0' K]
   show F5_j29 n K i st tr ad m0 to du dc ds dp dm dv dq dr dk dn dz df cv cn ca cp fs se er q (q.2.2.2.1, q.2.2.2.2) = _
   rw [F5_j29, bS _ _ _ r2, hw]
 ·obtain ⟨w, r1, r2, r3, r4⟩ := tl [] 9
  refine ⟨w, d1, d2, d3, r3, r4, fun K => ?_, fun K => ?_⟩
  ·rw [m0' K]
   show F4_j19 n K i st tr ad m0 to du dc ds dp dm dv dq dr dk dn dz df cv cn ca cp fs se er ([], 9, d1, d2, d3) = _
   rw [F4_j19, bS _ _ _ r1, hw]
  ·rw [r0' K]
   show F5_j30 n K fates i st tr ad m0 to du dc ds dp dm dv dq dr dk dn dz df cv cn ca cp fs se er q (d1, d2, d3) = _
   rw [F5_j30, hfe]
   show F5_j31 n K i st tr ad m0 to du dc ds dp dm dv dq dr dk dn dz df cv cn ca cp fs se er d1 d2 d3 ([], 9) = _
   rw [F5_j31, bS _ _ _ r2, hw]
 ·obtain ⟨w, r1, r2, r3, r4⟩ := tl [] 9
  refine ⟨w, q.1, q.2.1, q.2.2.1, r3, r4, fun K => ?_, fun K => ?_⟩
  ·rw [m0' K]
   show F4_j19 n K i st tr ad m0 to du dc ds dp dm dv dq dr dk dn dz df cv cn ca cp fs se er ([], 9, q.1, q.2.1, q.2.2.1) = _
   rw [F4_j19, bS _ _ _ r1, hw]
  ·rw [r0' K]
   show F5_j30 n K fates i st tr ad m0 to du dc ds dp dm dv dq dr dk dn dz df cv cn ca cp fs se er q (q.1, q.2.1, q.2.2.1) = _
   rw [F5_j30, hfe]
   show F5_j31 n K i st tr ad m0 to du dc ds dp dm dv dq dr dk dn dz df cv cn ca cp fs se er q.1 q.2.1 q.2.2.1 ([], 9) = _
   rw [F5_j31, bS _ _ _ r2, hw]
 ·obtain ⟨w, r1, r2, r3, r4⟩ := tl [] 10
  refine ⟨w, d1, d2, d3, r3, r4, fun K => ?_, fun K => ?_⟩
  ·rw [m0' K]
   show F4_j19 n K i st tr ad m0 to du dc ds dp dm dv dq dr dk dn dz df cv cn ca cp fs se er ([], 10, d1, d2, d3) = _
   rw [F4_j19, bS _ _ _ r1, hw]
  ·rw [r0' K]
   show F5_j30 n K fates i st tr ad m0 to du dc ds dp dm dv dq dr dk dn dz df cv cn ca cp fs se er q (d1, d2, d3) = _
   rw [F5_j30, hfe]
   show F5_j31 n K i st tr ad m0 to du dc ds dp dm dv dq dr dk dn dz df cv cn ca cp fs se er d1 d2 d3 ([], 10) = _
   rw [F5_j31, bS _ _ _ r2, hw]
 ·obtain ⟨w, r1, r2, r3, r4⟩ := tl [] 8
  refine ⟨w, d1, d2, d3, r3, r4, fun K => ?_, fun K => ?_⟩
  ·rw [m0' K]
   show F4_j19 n K i st tr ad m0 to du dc ds dp dm dv dq dr dk dn dz df cv cn ca cp fs se er ([], 8, d1, d2, d3) = _
   rw [F4_j19, bS _ _ _ r1, hw]
  ·rw [r0' K]
   show F5_j30 n K fates i st tr ad m0 to du dc ds dp dm dv dq dr dk dn dz df cv cn ca cp fs se er q (d1, d2, d3) = _
   rw [F5_j30, hfe]
   show F5_j31 n K i st tr ad m0 to du dc ds dp dm dv dq dr dk dn dz df cv cn ca cp fs se er d1 d2 d3 ([], 8) = _
   rw [F5_j31, bS _ _ _ r2, hw]
theorem loopM (hn : 10000000000000 < n) (ht : ∀ t ∈ T, t.length ≤ 1048576) (h5 : Fs5 fates) (hl : fates.length ≤ 1000) : ∀ (j N : Nat) (i : Int) (st tr ad m0 to du dc ds dp dm dv dq dr dk dn dz df cv cn ca cp : Int) (fs : List CFace) (se : CTx) (er : Int) (d1 d2 d3 : Int), 0 ≤ i → i + j = fates.length → j < N → SmF fs → Gd st tr ad to dz cv →
  ∃ r : MT, loopF (F4_l18 n u c s p m v vr l k a z g sv sn sa sp F T fates) N (i, st, tr, ad, m0, to, du, dc, ds, dp, dm, dv, dq, dr, dk, dn, dz, df, cv, cn, ca, cp, fs, se, er, d1, d2, d3) = some r ∧ loopF (F5_l28 n u c s p m v vr l k a z g sv sn sa sp F T fates) N (i, st, tr, ad, m0, to, du, dc, ds, dp, dm, dv, dq, dr, dk, dn, dz, df, cv, cn, ca, cp, fs, se, er, d1, d2, d3) = some r ∧ SmF r.2.2.2.2.2.2.2.2.2.2.2.2.2.2.2.2.2.2.2.2.2.1 := by
 intro j
 induction j with
 | zero =>
  intro N i st tr ad m0 to du dc ds dp dm dv dq dr dk dn dz df cv cn ca cp fs se er d1 d2 d3 hi0 hi hN hs hg
  obtain ⟨N, rfl⟩ : ∃ M, N = M + 1 := ⟨N - 1, by omega⟩
  refine ⟨(st, tr, ad, m0, to, du, dc, ds, dp, dm, dv, dq, dr, dk, dn, dz, df, cv, cn, ca, cp, fs, se, er, d1, d2, d3, ((fates.length : Nat) : Int), 0), ?_, ?_, hs⟩
  ·show F4_l18 n u c s p m v vr l k a z g sv sn sa sp F T fates _ (i, st, tr, ad, m0, to, du, dc, ds, dp, dm, dv, dq, dr, dk, dn, dz, df, cv, cn, ca, cp, fs, se, er, d1, d2, d3) = _
   rw [F4_l18, cF _ _ _ (decide_eq_false (show ¬ i < ((fates.length : Nat) : Int) by omega))]
  ·show F5_l28 n u c s p m v vr l k a z g sv sn sa sp F T fates _ (i, st, tr, ad, m0, to, du, dc, ds, dp, dm, dv, dq, dr, dk, dn, dz, df, cv, cn, ca, cp, fs, se, er, d1, d2, d3) = _
   rw [F5_l28]
   obtain rfl : i = ((fates.length : Nat) : Int) := by omega
   by_cases h8 : st < 8
   ·rw [cT _ _ _ (decide_eq_true h8), cF _ _ _ (decide_eq_false (show ¬ ((fates.length : Nat) : Int) < ((fates.length : Nat) : Int) by omega))]
   ·rw [cF _ _ _ (decide_eq_false h8)]
 | succ j ih =>
  intro N i st tr ad m0 to du dc ds dp dm dv dq dr dk dn dz df cv cn ca cp fs se er d1 d2 d3 hi0 hi hN hs hg
  obtain ⟨N, rfl⟩ : ∃ M, N = M + 1 := ⟨N - 1, by omega⟩
  by_cases h8 : st < 8
  ·obtain ⟨w, e1, e2, e3, w1, w2, w3, w4⟩ := roundM u c s p m v vr l k a z g sv sn sa sp F T fates n hn ht h5 i hi0 (by omega) hl st tr ad m0 to du dc ds dp dm dv dq dr dk dn dz df cv cn ca cp fs se er d1 d2 d3 hs hg h8
   obtain ⟨x, x1, x2, x3⟩ := ih N (i + 1) w.1 w.2.1 w.2.2.1 w.2.2.2.1 w.2.2.2.2.1 w.2.2.2.2.2.1 w.2.2.2.2.2.2.1 w.2.2.2.2.2.2.2.1 w.2.2.2.2.2.2.2.2.1 w.2.2.2.2.2.2.2.2.2.1 w.2.2.2.2.2.2.2.2.2.2.1 w.2.2.2.2.2.2.2.2.2.2.2.1 w.2.2.2.2.2.2.2.2.2.2.2.2.1 w.2.2.2.2.2.2.2.2.2.2.2.2.2.1 w.2.2.2.2.2.2.2.2.2.2.2.2.2.2.1 w.2.2.2.2.2.2.2.2.2.2.2.2.2.2.2.1 w.2.2.2.2.2.2.2.2.2.2.2.2.2.2.2.2.1 w.2.2.2.2.2.2.2.2.2.2.2.2.2.2.2.2.2.1 w.2.2.2.2.2.2.2.2.2.2.2.2.2.2.2.2.2.2.1 w.2.2.2.2.2.2.2.2.2.2.2.2.2.2.2.2.2.2.2.1 w.2.2.2.2.2.2.2.2.2.2.2.2.2.2.2.2.2.2.2.2.1 w.2.2.2.2.2.2.2.2.2.2.2.2.2.2.2.2.2.2.2.2.2.1 w.2.2.2.2.2.2.2.2.2.2.2.2.2.2.2.2.2.2.2.2.2.2.1 w.2.2.2.2.2.2.2.2.2.2.2.2.2.2.2.2.2.2.2.2.2.2.2.1 e1 e2 e3 (by omega) (by omega) (by omega) w1 w2
   exact ⟨x, (w3 _).trans x1, (w4 _).trans x2, x3⟩
  ·refine ⟨(st, tr, ad, m0, to, du, dc, ds, dp, dm, dv, dq, dr, dk, dn, dz, df, cv, cn, ca, cp, fs, se, er, d1, d2, d3, i, 0), ?_, ?_, hs⟩
   ·show F4_l18 n u c s p m v vr l k a z g sv sn sa sp F T fates _ (i, st, tr, ad, m0, to, du, dc, ds, dp, dm, dv, dq, dr, dk, dn, dz, df, cv, cn, ca, cp, fs, se, er, d1, d2, d3) = _
    rw [F4_l18, cT _ _ _ (decide_eq_true (show i < ((fates.length : Nat) : Int) by omega)), cT _ _ _ (inb_true hi0 (by omega)), bS _ _ _ (askN n st tr ad m0 to du dc ds dp dm dv dq dr dk dn dz df cv cn ca cp fs se er hg (by omega)), cT _ _ _ (show ((([] : CTx), (12 : Int)).2 != 0) = true from rfl)]
   ·show F5_l28 n u c s p m v vr l k a z g sv sn sa sp F T fates _ (i, st, tr, ad, m0, to, du, dc, ds, dp, dm, dv, dq, dr, dk, dn, dz, df, cv, cn, ca, cp, fs, se, er, d1, d2, d3) = _
    rw [F5_l28, cF _ _ _ (decide_eq_false h8)]
end
section
variable (u c s p m v vr l k a z g sv sn sa sp : Int) (F : List CFace) (T : List CTx) (fates : List Int) (n : Nat) (addr : Int)
theorem fateP (f : Int) : F11 n f = some (!(decide (1 ≤ f) && decide (f ≤ 5))) := by
 unfold F11
 by_cases h1 : f < 1
 ·rw [cT _ _ _ (decide_eq_true h1), decide_eq_false (show ¬ 1 ≤ f by omega)]; rfl
 ·rw [cF _ _ _ (decide_eq_false h1), decide_eq_true (show 1 ≤ f by omega)]
  by_cases h5 : f ≤ 5
  ·rw [decide_eq_false (show ¬ f > 5 by omega), decide_eq_true h5]; rfl
  ·rw [decide_eq_true (show f > 5 by omega), decide_eq_false h5]; rfl
theorem fateR (f : Int) : F18 n f = some (!(decide (1 ≤ f) && decide (f ≤ 5))) := by
 unfold F18 F19
 rw [betw]; rfl
theorem findM (hl : fates.length ≤ 1000) : ∀ (j N : Nat) (i : Int), 0 ≤ i → i + j = fates.length → j < N → ∃ X : Int, (0 ≤ X ∨ (X = -1 ∧ ∀ k : Nat, i ≤ k → k < fates.length → 1 ≤ fates.getD k 0 ∧ fates.getD k 0 ≤ 5)) ∧
  loopF (F4_l20 n u c s p m v vr l k a z g sv sn sa sp F T fates (1, 0, addr, 0, 0, 0, 0, 0, 0, 0, 0, 0, 0, 0, 0, 0, 0, 0, 0, 0, 0, [], 0, 0)) N i = F4_j15 n u c s p m v vr l k a z g sv sn sa sp F T fates (1, 0, addr, 0, 0, 0, 0, 0, 0, 0, 0, 0, 0, 0, 0, 0, 0, 0, 0, 0, 0, [], 0, 0) X ∧ loopF (F5_l32 n u c s p m v vr l k a z g sv sn sa sp F T addr fates) N i = F5_j21 n u c s p m v vr l k a z g sv sn sa sp F T addr fates X := by
 intro j
 induction j with
 | zero =>
  intro N i hi0 hi hN
  obtain ⟨N, rfl⟩ : ∃ M, N = M + 1 := ⟨N - 1, by omega⟩
  refine ⟨-1, .inr ⟨rfl, fun k h1 h2 => by omega⟩, ?_, ?_⟩
  ·show F4_l20 n u c s p m v vr l k a z g sv sn sa sp F T fates _ _ i = _
   rw [F4_l20, cF _ _ _ (decide_eq_false (show ¬ i < ((fates.length : Nat) : Int) by omega))]
  ·show F5_l32 n u c s p m v vr l k a z g sv sn sa sp F T addr fates _ i = _
   rw [F5_l32, cF _ _ _ (decide_eq_false (show ¬ i < ((fates.length : Nat) : Int) by omega))]
 | succ j ih =>
  intro N i hi0 hi hN
  obtain ⟨N, rfl⟩ : ∃ M, N = M + 1 := ⟨N - 1, by omega⟩
  have hw : IntKind.wrap .i64 (i + 1) = i + 1 := w64 (by omega) (by omega)
  by_cases hf : 1 ≤ fates.getD i.toNat 0 ∧ fates.getD i.toNat 0 ≤ 5
  ·obtain ⟨X, x1, x2, x3⟩ := ih N (i + 1) (by omega) (by omega) (by omega)
   have hb : (!(decide (1 ≤ fates.getD i.toNat 0) && decide (fates.getD i.toNat 0 ≤ 5))) = false := by rw [decide_eq_true hf.1, decide_eq_true hf.2]; rfl
   refine ⟨X, ?_, ?_, ?_⟩
   ·rcases x1 with h | ⟨h, h'⟩
    ·exact .inl h
    ·refine .inr ⟨h, fun k k1 k2 => ?_⟩
     by_cases hk : (k : Int) = i
     ·rw [show k = i.toNat by omega]; exact hf
     ·exact h' k (by omega) k2
   ·show F4_l20 n u c s p m v vr l k a z g sv sn sa sp F T fates _ _ i = _
    rw [F4_l20, cT _ _ _ (decide_eq_true (show i < ((fates.length : Nat) : Int) by omega)), cT _ _ _ (inb_true hi0 (by omega)), bS _ _ _ (fateP n _), cF _ _ _ hb, hw]
    exact x2
   ·show F5_l32 n u c s p m v vr l k a z g sv sn sa sp F T addr fates _ i = _
    rw [F5_l32, cT _ _ _ (decide_eq_true (show i < ((fates.length : Nat) : Int) by omega)), cT _ _ _ (inb_true hi0 (by omega)), bS _ _ _ (fateR n _), cF _ _ _ hb, hw]
    exact x3
  ·have hb : (!(decide (1 ≤ fates.getD i.toNat 0) && decide (fates.getD i.toNat 0 ≤ 5))) = true := by
    rw [Bool.not_eq_true', Bool.and_eq_false_iff]
    by_cases h1 : 1 ≤ fates.getD i.toNat 0
    ·exact .inr (decide_eq_false fun h => hf ⟨h1, h⟩)
    ·exact .inl (decide_eq_false h1)
   refine ⟨i, .inl hi0, ?_, ?_⟩
   ·show F4_l20 n u c s p m v vr l k a z g sv sn sa sp F T fates _ _ i = _
    rw [F4_l20, cT _ _ _ (decide_eq_true (show i < ((fates.length : Nat) : Int) by omega)), cT _ _ _ (inb_true hi0 (by omega)), bS _ _ _ (fateP n _), cT _ _ _ hb]
   ·show F5_l32 n u c s p m v vr l k a z g sv sn sa sp F T addr fates _ i = _
    rw [F5_l32, cT _ _ _ (decide_eq_true (show i < ((fates.length : Nat) : Int) by omega)), cT _ _ _ (inb_true hi0 (by omega)), bS _ _ _ (fateR n _), cT _ _ _ hb]
theorem bothM (hn : 10000000000000 < n) (ht : ∀ t ∈ T, t.length ≤ 1048576) : ∃ r : MT, F4 n u c s p m v vr l k a z g sv sn sa sp F T addr fates = some r ∧ F5 n u c s p m v vr l k a z g sv sn sa sp F T addr fates = some r ∧ SmF r.2.2.2.2.2.2.2.2.2.2.2.2.2.2.2.2.2.2.2.2.2.1 := by
 have s0 : SmF [] := ⟨by simp, fun f hf => by cases hf⟩
 obtain ⟨e, he1, he2⟩ := sheetS n (by omega) u c s p m v vr l k a z g sv sn sa sp F T ht
 unfold F4 F5
 rw [bS _ _ _ he1, bS _ _ _ he2]
 by_cases h0 : e = 0
 ·subst h0
  rw [cF _ _ _ (show ((0 : Int) != 0) = false from rfl), cF _ _ _ (show ((0 : Int) != 0) = false from rfl)]
  by_cases ha : 1 ≤ addr ∧ addr ≤ 127
  ·have e9 : F9 n addr = some (1, 0, addr, 0, 0, 0, 0, 0, 0, 0, 0, 0, 0, 0, 0, 0, 0, 0, 0, 0, 0, [], 0, 0) := by
    unfold F9
    rw [cF _ _ _ (decide_eq_false (show ¬ addr < 1 by omega)), cF _ _ _ (decide_eq_false (show ¬ addr > 127 by omega))]
   have e17 : F17 n addr 1 127 = some true := by rw [betw, decide_eq_true ha.1, decide_eq_true ha.2]; rfl
   rw [bS _ _ _ e9, bS _ _ _ e17, cF _ _ _ (show (!true) = false from rfl), cF _ _ _ (show ((0 : Int) != 0) = false from rfl)]
   by_cases hl : fates.length ≤ 1000
   ·rw [cF _ _ _ (decide_eq_false (show ¬ ((fates.length : Nat) : Int) > 1000 by omega)), cF _ _ _ (decide_eq_false (show ¬ ((fates.length : Nat) : Int) > 1000 by omega))]
    obtain ⟨X, x1, x2, x3⟩ := findM u c s p m v vr l k a z g sv sn sa sp F T fates n addr hl fates.length n 0 (by omega) (by omega) (by omega)
    rw [x2, x3]
    unfold F4_j15 F5_j21
    rcases x1 with hX | ⟨hX, hf⟩
    ·rw [cT _ _ _ (decide_eq_true (show X ≥ 0 from hX)), cT _ _ _ (decide_eq_true (show X ≥ 0 from hX))]
     exact ⟨(0, 0, 0, 0, 0, 0, 0, 0, 0, 0, 0, 0, 0, 0, 0, 0, 0, 0, 0, 0, 0, [], [], 0, 0, 0, 0, 0, 1), rfl, rfl, s0⟩
    ·subst hX
     rw [cF _ _ _ (decide_eq_false (show ¬ (-1 : Int) ≥ 0 by omega)), cF _ _ _ (decide_eq_false (show ¬ (-1 : Int) ≥ 0 by omega))]
     refine loopM u c s p m v vr l k a z g sv sn sa sp F T fates n hn ht (fun f hf' => ?_) hl fates.length n 0 1 0 addr 0 0 0 0 0 0 0 0 0 0 0 0 0 0 0 0 0 0 [] [] 0 0 0 0 (by omega) (by omega) (by omega) s0 ⟨by omega, by omega, by omega, by omega, by omega, by omega⟩
     obtain ⟨k, hk, rfl⟩ := List.getElem_of_mem hf'
     have := hf k (by omega) hk
     rw [List.getD_eq_getElem?_getD, List.getElem?_eq_getElem hk] at this
     exact this
   ·rw [cT _ _ _ (decide_eq_true (show ((fates.length : Nat) : Int) > 1000 by omega)), cT _ _ _ (decide_eq_true (show ((fates.length : Nat) : Int) > 1000 by omega))]
    exact ⟨(0, 0, 0, 0, 0, 0, 0, 0, 0, 0, 0, 0, 0, 0, 0, 0, 0, 0, 0, 0, 0, [], [], 0, 0, 0, 0, 0, 2), rfl, rfl, s0⟩
  ·have e9 : ∃ y, F9 n addr = some y ∧ y.2.2.2.2.2.2.2.2.2.2.2.2.2.2.2.2.2.2.2.2.2.2.2 = 1 := by
    unfold F9
    by_cases h1 : addr < 1
    ·rw [cT _ _ _ (decide_eq_true h1)]; exact ⟨_, rfl, rfl⟩
    ·rw [cF _ _ _ (decide_eq_false h1), cT _ _ _ (decide_eq_true (show addr > 127 by omega))]; exact ⟨_, rfl, rfl⟩
   obtain ⟨y, y1, y2⟩ := e9
   have e17 : F17 n addr 1 127 = some false := by
    rw [betw]
    by_cases h1 : 1 ≤ addr
    ·rw [decide_eq_false (show ¬ addr ≤ 127 by omega), Bool.and_false]
    ·rw [decide_eq_false h1, Bool.false_and]
   rw [bS _ _ _ y1, bS _ _ _ e17, cT _ _ _ (show (!false) = true from rfl), y2, cT _ _ _ (show ((1 : Int) != 0) = true from rfl)]
   exact ⟨(0, 0, 0, 0, 0, 0, 0, 0, 0, 0, 0, 0, 0, 0, 0, 0, 0, 0, 0, 0, 0, [], [], 0, 0, 0, 0, 0, 1), rfl, rfl, s0⟩
 ·rw [cT _ _ _ (show (e != 0) = true by simpa using h0), cT _ _ _ (show (e != 0) = true by simpa using h0)]
  exact ⟨(0, 0, 0, 0, 0, 0, 0, 0, 0, 0, 0, 0, 0, 0, 0, 0, 0, 0, 0, 0, 0, [], [], 0, 0, 0, 0, 0, e), rfl, rfl, s0⟩
theorem meets (hn : 10000000000000 < n) (ht : ∀ t ∈ T, t.length ≤ 1048576) : F3 n u c s p m v vr l k a z g sv sn sa sp F T addr fates = some true := by
 obtain ⟨r, r1, r2, r3⟩ := bothM u c s p m v vr l k a z g sv sn sa sp F T fates n addr hn ht
 unfold F3
 rw [bS _ _ _ r1, bS _ _ _ r2, bS _ _ _ (same18 n _ _ _ _ _ _ _ _ _ _ _ _ _ _ _ _ _ _ _ _ _ _ _ _ hn r3), cT _ _ _ rfl, cT _ _ _ (Sh.beq_self _ _), cT _ _ _ BEq.rfl, BEq.rfl]
end
abbrev ShS : Sh := .st (.pair (.st (.pair (.int .i64) (.pair (.int .i64) (.pair (.int .i64) (.pair (.int .i64) (.pair (.int .i64) (.pair (.int .i64) (.pair (.int .i64) (.pair (.int .i64) (.pair (.int .i64) (.pair (.int .i64) (.pair (.int .i64) (.int .i64))))))))))))) (.pair (.st (.pair (.int .i64) (.pair (.int .i64) (.pair (.int .i64) (.pair (.int .i64) (.sl (.st (.pair (.int .i64) (.pair (.int .i64) (.pair (.int .i64) (.pair (.int .i64) (.pair (.sl .str) (.sl (.st (.pair (.int .i64) (.pair .bool (.pair (.int .i64) (.pair (.int .i64) (.int .i64))))))))))))))))))) (.sl .str)))
theorem sumM {α : Type} (f : α → Nat) : ∀ (l : List α) (x : α), x ∈ l → f x ≤ sumL f l
 | y :: l, x, h => by
  simp only [sumL]
  rcases List.mem_cons.1 h with rfl | h
  ·omega
  ·have := sumM f l x h; omega
theorem greetMeets_says (a0 : Sh.T ShS) (g0 : Sh.good ShS a0) (u0 : Sh.bulk ShS a0 ≤ 1048576) (a1 : Sh.T (.int .i64)) (g1 : Sh.good (.int .i64) a1) (u1 : Sh.bulk (.int .i64) a1 ≤ 1048576) (a2 : Sh.T (.sl (.int .i64))) (g2 : Sh.good (.sl (.int .i64)) a2) (u2 : Sh.bulk (.sl (.int .i64)) a2 ≤ 1048576) : ∃ n, F3 n a0.1.1 a0.1.2.1 a0.1.2.2.1 a0.1.2.2.2.1 a0.1.2.2.2.2.1 a0.1.2.2.2.2.2.1 a0.1.2.2.2.2.2.2.1 a0.1.2.2.2.2.2.2.2.1 a0.1.2.2.2.2.2.2.2.2.1 a0.1.2.2.2.2.2.2.2.2.2.1 a0.1.2.2.2.2.2.2.2.2.2.2.1 a0.1.2.2.2.2.2.2.2.2.2.2.2 a0.2.1.1 a0.2.1.2.1 a0.2.1.2.2.1 a0.2.1.2.2.2.1 a0.2.1.2.2.2.2 a0.2.2 a1 a2 = some true := by
 have ht : ∀ t ∈ a0.2.2, t.length ≤ 1048576 := by
  intro t ht
  have h1 := sumM (Sh.bulk .str) a0.2.2 t ht
  have h2 : t.length + 1 ≤ sumL (Sh.bulk .str) a0.2.2 := h1
  simp only [ShS, Sh.bulk] at u0
  have h3 : sumL (fun x : Sh.T .str => x.length + 1) a0.2.2 = sumL (Sh.bulk .str) a0.2.2 := rfl
  omega
 exact ⟨20000000000000, meets a0.1.1 a0.1.2.1 a0.1.2.2.1 a0.1.2.2.2.1 a0.1.2.2.2.2.1 a0.1.2.2.2.2.2.1 a0.1.2.2.2.2.2.2.1 a0.1.2.2.2.2.2.2.2.1 a0.1.2.2.2.2.2.2.2.2.1 a0.1.2.2.2.2.2.2.2.2.2.1 a0.1.2.2.2.2.2.2.2.2.2.2.1 a0.1.2.2.2.2.2.2.2.2.2.2.2 a0.2.1.1 a0.2.1.2.1 a0.2.1.2.2.1 a0.2.1.2.2.2.1 a0.2.1.2.2.2.2 a0.2.2 a2 20000000000000 a1 (by omega) ht⟩
end Go.Proofs.YtghbnolfadnoaaaGreat
