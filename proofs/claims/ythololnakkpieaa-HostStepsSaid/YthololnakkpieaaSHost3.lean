/- The law HostSteps, in plain Lean. -/
import Derived.Test.YthololnakkpieaaSHost2
namespace Go.Proofs.Ythololnakkpieaa
open Go Go.RowKit
open Classical
set_option linter.unusedVariables false

section
variable {c e : Cells} {pa pb ga gb se qa qb ra rb te : Int} {b : Slots}
theorem mach_parts (h : machV c pa pb ga gb se e qa qb ra rb te b = true) : ringE c pa pb ga gb se = 0 ∧ ringE e qa qb ra rb te = 0 ∧ boardE b = 0 ∧ below c 35184372088832 ∧ below e 16777216 := of_decide_eq_true h
theorem sameM (n : Nat) (hc : c.length ≤ 1000000000000000) (he : e.length ≤ 1000000000000000) (hn : c.length + e.length + 4 < n) : F14 n c pa pb ga gb se e qa qb ra rb te b c pa pb ga gb se e qa qb ra rb te b = some true := by
  unfold F14
  rw [sameR n c hc (by omega), sameR n e he (by omega)]
  simp only [Option.bind_some, cond_true, Sh.beq_self]
/-- a command is handed in -/
theorem subN (n : Nat) (hn : 300 < n) (hw : wOK c) (hb : b.length = 9) (hc : c.length ≤ 5864062014805) (he : e.length ≤ 5864062014805) (K S E A : Int) :
    ∃ c' pa' pb' ga' gb' se' er, F12 n c pa pb ga gb se e qa qb ra rb te b K S E A = some (pa', pb', ga', gb', se', qa, qb, ra, rb, te, b, er, c', e) ∧ F13 n c pa pb ga gb se e qa qb ra rb te b K S E A = some (c', pa', pb', ga', gb', se', e, qa, qb, ra, rb, te, b, er) ∧ c'.length = c.length := by
  unfold F12 F13
  rw [copyM n hc he, machR n hn hw hb]
  simp only [Option.bind_some]
  rw [validP n hn hw]
  simp only [Option.bind_some]
  cases hm : machV c pa pb ga gb se e qa qb ra rb te b with
  | false => exact ⟨c, pa, pb, ga, gb, se, 4, rfl, rfl, rfl⟩
  | true =>
    obtain ⟨h1, _⟩ := mach_parts hm
    simp only [Bool.not_true, cond_false]
    rw [packP, wordR n (by omega)]
    simp only [Option.bind_some]
    by_cases q : (packV K S E A).2 = 0
    case neg =>
      rw [show ((packV K S E A).2 != 0) = true from bne_iff_ne.2 q]
      exact ⟨c, pa, pb, ga, gb, se, _, rfl, rfl, rfl⟩
    rw [show ((packV K S E A).2 != 0) = false from bne_eq_false_iff_eq.2 q, putP n (by omega) h1, putD n (by omega) h1]
    simp only [Option.bind_some, cond_false, F13_j2]
    unfold putR
    by_cases q2 : (adv c.length pa pb).1 = se
    · rw [if_pos q2]
      exact ⟨c, pa, pb, ga, gb, se, 11, rfl, rfl, rfl⟩
    · rw [if_neg q2]
      exact ⟨_, _, _, _, _, _, 0, rfl, rfl, putV_len _⟩
theorem evWord {code slot g : Int} (hc : 0 ≤ code ∧ code ≤ 255) (hs : 0 ≤ slot ∧ slot ≤ 8) (hg : 0 ≤ g ∧ g ≤ 63) :
    bitsI .or .u64 (bitsI .or .u64 (IntKind.wrap .u64 code) (shlI .u64 (IntKind.wrap .u64 slot) 8)) (shlI .u64 (IntKind.wrap .u64 g) 16) = code + 256 * slot + 65536 * g ∧
    IntKind.wrap .u64 (IntKind.wrap .i64 (IntKind.wrap .i64 (code + IntKind.wrap .i64 (256 * slot)) + IntKind.wrap .i64 (65536 * g))) = code + 256 * slot + 65536 * g := by
  obtain ⟨x, rfl⟩ : ∃ x : Nat, code = (x : Int) := ⟨code.toNat, by omega⟩
  obtain ⟨y, rfl⟩ : ∃ x : Nat, slot = (x : Int) := ⟨slot.toNat, by omega⟩
  obtain ⟨z, rfl⟩ : ∃ x : Nat, g = (x : Int) := ⟨g.toNat, by omega⟩
  constructor
  · have s8 : shlI .u64 (y : Int) 8 = ((y * 2 ^ 8 : Nat) : Int) := ushl y 8 (by omega) (by omega)
    have s16 : shlI .u64 (z : Int) 16 = ((z * 2 ^ 16 : Nat) : Int) := ushl z 16 (by omega) (by omega)
    rw [u64n x (by omega), u64n y (by omega), u64n z (by omega), s8, s16, uOrAdd x y 8 (by omega) (by omega), uOrAdd (x + y * 2 ^ 8) z 16 (by omega) (by omega)]
    omega
  · rw [w64 (n := 256 * (y : Int)) (by omega) (by omega), w64 (n := 65536 * (z : Int)) (by omega) (by omega), w64 (n := (x : Int) + 256 * (y : Int)) (by omega) (by omega), w64 (by omega) (by omega), u64w]
    omega
theorem putV_below {w : Int} (h : ringE e qa qb ra rb te = 0) (hb : below e 16777216) (hw : w < 16777216) : below (putV e qa qb w) 16777216 := by
  obtain ⟨hl, hg⟩ := ring0 h
  obtain ⟨_, _, _, _, h5, _, _⟩ := hg
  intro i hi
  rw [putV_len] at hi
  have hgt := putV_get (pb := qb) hl h5 w i hi
  have hgt' : (putV e qa qb w).getD i (0, (0, false)) = _ := hgt
  have := hb i hi
  unfold cw at *
  rw [hgt']
  split
  · exact hw
  split
  · exact this
  · exact this
theorem mkMach (h1 : ringE c pa pb ga gb se = 0) (h2 : ringE e qa qb ra rb te = 0) (h3 : boardE b = 0) (h4 : below c 35184372088832) (h5 : below e 16777216) : machV c pa pb ga gb se e qa qb ra rb te b = true := decide_eq_true ⟨h1, h2, h3, h4, h5⟩
end
/-- the work, and the document's loop -/
theorem workI (n : Nat) (hn : 2000 < n) (vn : Int) (hv : 1 ≤ vn ∧ vn ≤ 1000) (c0 : Cells) (p1 p2 p3 p4 p5 : Int) (e0 : Cells) (p6 p7 p8 p9 p10 : Int) (b0 : Slots) :
    ∀ (k : Nat) (j : Nat) (c : Cells) (pa pb ga gb se : Int) (e : Cells) (qa qb ra rb te : Int) (b : Slots) (N N' : Nat), machV c pa pb ga gb se e qa qb ra rb te b = true → wOK c → lenB b → (j : Int) ≤ vn → vn - j ≤ k → k < N → k < N' →
    ∃ (j' : Int) (c' : Cells) (pa' pb' ga' gb' se' : Int) (e' : Cells) (qa' qb' ra' rb' te' : Int) (b' : Slots), loopF (F15_l4 n vn) N ((j : Int), pa, pb, ga, gb, se, qa, qb, ra, rb, te, b, c, e) = some (pa', pb', ga', gb', se', qa', qb', ra', rb', te', b', j', c', e') ∧
      (∀ y, loopF (F5_l6 n c0 p1 p2 p3 p4 p5 e0 p6 p7 p8 p9 p10 b0 vn y) N' ((j : Int), c, pa, pb, ga, gb, se, e, qa, qb, ra, rb, te, b) = F5_j5 n c0 p1 p2 p3 p4 p5 e0 p6 p7 p8 p9 p10 b0 y (j', c', pa', pb', ga', gb', se', e', qa', qb', ra', rb', te', b')) ∧ c'.length = c.length ∧ e'.length = e.length
  | k, j, c, pa, pb, ga, gb, se, e, qa, qb, ra, rb, te, b, 0, N', hm, hw, hl, hj, hk, hN, hN' => by omega
  | k, j, c, pa, pb, ga, gb, se, e, qa, qb, ra, rb, te, b, N + 1, 0, hm, hw, hl, hj, hk, hN, hN' => by omega
  | k, j, c, pa, pb, ga, gb, se, e, qa, qb, ra, rb, te, b, N + 1, N' + 1, hm, hw, hl, hj, hk, hN, hN' => by
    obtain ⟨h1, h2, h3, h4, h5⟩ := mach_parts hm
    have lo1 : ∀ y, loopF (F5_l6 n c0 p1 p2 p3 p4 p5 e0 p6 p7 p8 p9 p10 b0 vn y) (N' + 1) ((j : Int), c, pa, pb, ga, gb, se, e, qa, qb, ra, rb, te, b) = F5_l6 n c0 p1 p2 p3 p4 p5 e0 p6 p7 p8 p9 p10 b0 vn y (loopF (F5_l6 n c0 p1 p2 p3 p4 p5 e0 p6 p7 p8 p9 p10 b0 vn y) N') ((j : Int), c, pa, pb, ga, gb, se, e, qa, qb, ra, rb, te, b) := fun y => rfl
    have lo2 : loopF (F15_l4 n vn) (N + 1) ((j : Int), pa, pb, ga, gb, se, qa, qb, ra, rb, te, b, c, e) = F15_l4 n vn (loopF (F15_l4 n vn) N) ((j : Int), pa, pb, ga, gb, se, qa, qb, ra, rb, te, b, c, e) := rfl
    rw [lo2]
    simp only [lo1, F15_l4, F5_l6]
    rw [decide_eq_true (show vn ≤ 1000 by omega)]
    simp only [cond_true]
    by_cases hjv : (j : Int) < vn
    case neg =>
      rw [decide_eq_false hjv]
      have ej : vn = (j : Int) := by omega
      exact ⟨(j : Int), c, pa, pb, ga, gb, se, e, qa, qb, ra, rb, te, b, by rw [← ej]; rfl, fun _ => rfl, rfl, rfl⟩
    rw [decide_eq_true hjv]
    have hga := (ring0 h1).2.2.2.2.2.2.1
    have hgl := (ring0 h1).1
    have hga2 := hga
    obtain ⟨g0, g1⟩ := hga2
    -- the document's step
    obtain ⟨b', cd, sl', d1, d2, d3, d4, d5, d6⟩ := main n (by omega) b hl (unwV (cw c ga.toNat)).1 (unwV (cw c ga.toNat)).2.1 (unwV (cw c ga.toNat)).2.2.1 (unwV (cw c ga.toNat)).2.2.2.1
    obtain ⟨w1, w2⟩ := evWord d5 d6 (show 0 ≤ ga ∧ ga ≤ 63 by omega)
    have hwk : F16 n c pa pb ga gb se e qa qb ra rb te b = some (if cb c ga.toNat = gb ∧ (adv e.length qa qb).1 ≠ te then (c, pa, pb, (adv c.length ga gb).1, (adv c.length ga gb).2, se, putV e qa qb (cd + 256 * sl' + 65536 * ga), (adv e.length qa qb).1, (adv e.length qa qb).2, ra, rb, te, b', true) else (c, pa, pb, ga, gb, se, e, qa, qb, ra, rb, te, b, false)) := by
      unfold F16
      rw [machR n (by omega) hw hl.1, hm]
      simp only [Option.bind_some, Bool.not_true, cond_false]
      rw [inb_true (show (0 : Int) ≤ ga by omega) (show ga < (c.length : Nat) by omega)]
      simp only [cond_true]
      have hu : F50 n ((c.getD ga.toNat (0, (0, false))).1) = some (unwV (cw c ga.toNat)) := unR n (by omega) _ (hw ga.toNat (by omega))
      by_cases q : cb c ga.toNat = gb
      case neg =>
        rw [show ((c.getD ga.toNat (0, (0, false))).2.1 != gb) = true from bne_iff_ne.2 q, if_neg (fun h => q h.1)]; rfl
      rw [show ((c.getD ga.toNat (0, (0, false))).2.1 != gb) = false from bne_eq_false_iff_eq.2 q, hu]
      simp only [cond_false, Option.bind_some]
      rw [d2]
      simp only [Option.bind_some]
      rw [w2, putD n (by omega) h2, advR n hgl hga (ring0 h1).2.2.2.1]
      simp only [Option.bind_some]
      unfold putR
      by_cases q2 : (adv e.length qa qb).1 = te
      · rw [if_pos q2, if_neg (fun h => h.2 q2)]; rfl
      · rw [if_neg q2, if_pos ⟨q, q2⟩]; rfl
    simp only [hwk, Option.bind_some, cond_true]
    rw [putP n (by omega) h2, getP n (by omega) h1]
    simp only [Option.bind_some]
    unfold putR getR
    by_cases q2 : (adv e.length qa qb).1 = te
    · rw [if_pos q2, if_neg (show ¬ (cb c ga.toNat = gb ∧ (adv e.length qa qb).1 ≠ te) from fun h => h.2 q2)]
      exact ⟨(j : Int), c, pa, pb, ga, gb, se, e, qa, qb, ra, rb, te, b, rfl, fun _ => rfl, rfl, rfl⟩
    rw [if_neg q2]
    simp only [bne_self_eq_false, cond_false]
    by_cases q : cb c ga.toNat = gb
    case neg =>
      rw [if_neg q, if_neg (show ¬ (cb c ga.toNat = gb ∧ (adv e.length qa qb).1 ≠ te) from fun h => q h.1)]
      exact ⟨(j : Int), c, pa, pb, ga, gb, se, e, qa, qb, ra, rb, te, b, rfl, fun _ => rfl, rfl, rfl⟩
    rw [if_pos q, if_pos (show cb c ga.toNat = gb ∧ (adv e.length qa qb).1 ≠ te from ⟨q, q2⟩)]
    have hu : F48 n (cw c ga.toNat) = some (unwV (cw c ga.toNat)) := unP n _ (hw ga.toNat (by omega))
    simp only [Bool.not_true, cond_false, hu, Option.bind_some, d1]
    rw [w1, putP n (by omega) h2]
    simp only [Option.bind_some]
    unfold putR
    rw [if_neg q2, w64 (n := (j : Int) + 1) (by omega) (by omega)]
    have hbd : boardE b' = 0 := by
      have : boardG b := by
        by_cases qq : boardG b
        · exact qq
        · unfold boardE at h3; rw [if_neg qq] at h3; omega
      unfold boardE
      rw [if_pos (d4 this)]
    obtain ⟨j', c', pa', pb', ga', gb', se', e', qa', qb', ra', rb', te', b'', r1, r2, r3, r4⟩ := workI n hn vn hv c0 p1 p2 p3 p4 p5 e0 p6 p7 p8 p9 p10 b0 (k - 1) (j + 1) c pa pb (adv c.length ga gb).1 (adv c.length ga gb).2 se (putV e qa qb (cd + 256 * sl' + 65536 * ga)) (adv e.length qa qb).1 (adv e.length qa qb).2 ra rb te b' N N'
      (mkMach (getG h1) (putV_good h2 _) hbd h4 (putV_below h2 h5 (by omega))) hw d3 (by omega) (by omega) (by omega) (by omega)
    exact ⟨j', c', pa', pb', ga', gb', se', e', qa', qb', ra', rb', te', b'', r1, r2, r3, by rw [r4, putV_len]⟩
section
variable {c e : Cells} {pa pb ga gb se qa qb ra rb te : Int} {b : Slots}
theorem reapN (n : Nat) (hn : 300 < n) (hw : wOK c) (hwe : wOK e) (hb : b.length = 9) (hc : c.length ≤ 5864062014805) (he : e.length ≤ 5864062014805) :
    ∃ se' qa' qb' ra' rb' te' v1 v2 v3 ok, F17 n c pa pb ga gb se e qa qb ra rb te b = some (pa, pb, ga, gb, se', qa', qb', ra', rb', te', b, v1, v2, v3, ok, c, e) ∧ F18 n c pa pb ga gb se e qa qb ra rb te b = some (c, pa, pb, ga, gb, se', e, qa', qb', ra', rb', te', b, v1, v2, v3, ok) := by
  unfold F17 F18
  rw [copyM n hc he, machR n hn hw hb]
  simp only [Option.bind_some]
  rw [validP n hn hw]
  simp only [Option.bind_some]
  cases hm : machV c pa pb ga gb se e qa qb ra rb te b with
  | false => exact ⟨se, qa, qb, ra, rb, te, 0, 0, 0, false, rfl, rfl⟩
  | true =>
    obtain ⟨h1, h2, h3, h4, h5⟩ := mach_parts hm
    have hga := (ring0 h2).2.2.2.2.2.2.1
    have hgl := (ring0 h2).1
    have hcl := (ring0 h1).1
    have hga2 := hga
    obtain ⟨g0, g1⟩ := hga2
    simp only [Bool.not_true, cond_false]
    rw [getP n (by omega) h2, inb_true (show (0 : Int) ≤ ra by omega) (show ra < (e.length : Nat) by omega)]
    simp only [Option.bind_some, cond_true]
    unfold getR
    by_cases q : cb e ra.toNat = rb
    case neg =>
      rw [if_neg q, show ((e.getD ra.toNat (0, (0, false))).2.1 != rb) = true from bne_iff_ne.2 q]
      exact ⟨se, qa, qb, ra, rb, te, 0, 0, 0, false, rfl, rfl⟩
    rw [if_pos q, show ((e.getD ra.toNat (0, (0, false))).2.1 != rb) = false from bne_eq_false_iff_eq.2 q]
    simp only [Bool.not_true, cond_false]
    rw [learnP n (by omega) (getG h2), advR n hgl hga (ring0 h2).2.2.2.1]
    simp only [Option.bind_some]
    have hwl := hwe ra.toNat (by omega)
    have hwb := h5 ra.toNat (by omega)
    have ecw : (e.getD ra.toNat (0, (0, false))).1 = cw e ra.toNat := rfl
    rw [ecw]
    obtain ⟨x, hx⟩ : ∃ x : Nat, cw e ra.toNat = (x : Int) := ⟨(cw e ra.toNat).toNat, by omega⟩
    rw [hx] at hwl hwb ⊢
    have a8 : shrI .u64 (x : Int) 8 = ((x / 2 ^ 8 : Nat) : Int) := ushr x 8 (by omega)
    have a16 : shrI .u64 (x : Int) 16 = ((x / 2 ^ 16 : Nat) : Int) := ushr x 16 (by omega)
    have m0 : bitsI .and .u64 (x : Int) 255 = ((x % 2 ^ 8 : Nat) : Int) := uMask x 8 (by omega) (by omega)
    have m8 : bitsI .and .u64 ((x / 2 ^ 8 : Nat) : Int) 255 = ((x / 2 ^ 8 % 2 ^ 8 : Nat) : Int) := uMask (x / 2 ^ 8) 8 (by omega) (by omega)
    simp only [F17_j2, F18_j2, ecw, hx, a8, a16, m0, m8]
    have t1 : ((x : Nat) : Int).tmod 256 = ((x % 256 : Nat) : Int) := by rw [Int.tmod_eq_emod_of_nonneg (by omega)]; omega
    have t2 : ((x : Nat) : Int).tdiv 256 = ((x / 256 : Nat) : Int) := by rw [Int.tdiv_eq_ediv_of_nonneg (by omega)]; omega
    have t3 : ((x / 256 : Nat) : Int).tmod 256 = ((x / 256 % 256 : Nat) : Int) := by rw [Int.tmod_eq_emod_of_nonneg (by omega)]; omega
    have t4 : ((x : Nat) : Int).tdiv 65536 = ((x / 65536 : Nat) : Int) := by rw [Int.tdiv_eq_ediv_of_nonneg (by omega)]; omega
    rw [w64n x (by omega), t1, t2, w64n (x / 256) (by omega), t3, t4, w64n (x / 65536) (by omega), show x % 2 ^ 8 = x % 256 from rfl, w64n (x % 256) (by omega), show x / 2 ^ 8 % 2 ^ 8 = x / 256 % 256 from rfl, w64n (x / 256 % 256) (by omega)]
    rw [w64 (n := ((x / 65536 : Nat) : Int) + 1) (by omega) (by omega), w64 (n := ((c.length : Nat) : Int) - 1) (by omega) (by omega)]
    by_cases qn : x / 65536 + 1 < c.length
    · have hat : atG c ((x / 65536 : Nat) : Int) := ⟨by omega, by omega⟩
      have had := advR n hcl hat (show bit01 0 from .inl rfl)
      rw [w64 (n := ((c.length : Nat) : Int) - 1) (by omega) (by omega)] at had
      rw [decide_eq_true (show ((x / 65536 : Nat) : Int) < ((c.length : Nat) : Int) - 1 by omega), decide_eq_true (show ((x / 65536 : Nat) : Int) + 1 < ((c.length : Nat) : Int) by omega), had, show (((c.length : Nat) : Int) - 1 != 0) = true by rw [bne_iff_ne]; omega]
      simp only [cond_true, Option.bind_some]
      have em : (((x / 65536 : Nat) : Int) + 1).tmod (((c.length : Nat) : Int) - 1) = (adv c.length ((x / 65536 : Nat) : Int) 0).1 := by
        rw [Int.tmod_eq_emod_of_nonneg (by omega)]
        unfold adv
        by_cases qq : ((x / 65536 : Nat) : Int) + 1 = (c.length : Int) - 1
        · rw [if_pos qq, qq, Int.emod_self]
        · rw [if_neg qq]
          exact Int.emod_eq_of_lt (by omega) (by omega)
      rw [em]
      exact ⟨_, _, _, _, _, _, _, _, _, _, rfl, rfl⟩
    · rw [decide_eq_false (show ¬ ((x / 65536 : Nat) : Int) < ((c.length : Nat) : Int) - 1 by omega), decide_eq_false (show ¬ ((x / 65536 : Nat) : Int) + 1 < ((c.length : Nat) : Int) by omega)]
      exact ⟨_, _, _, _, _, _, _, _, _, _, rfl, rfl⟩
end
theorem goodC {c : Cells} (g : ∀ x ∈ c, (Lit.int .u64 x.1).wf = true) : wOK c := by
  intro i hi
  have hm : c.getD i (0, (0, false)) ∈ c := by
    rw [List.getD_eq_getElem?_getD, List.getElem?_eq_getElem hi]; exact List.getElem_mem _
  have h := g _ hm
  have e1 : IntKind.u64.min = 0 := by decide
  have e2 : IntKind.u64.max = 18446744073709551615 := by decide
  have h2 : 0 ≤ cw c i ∧ cw c i ≤ 18446744073709551615 := by
    rw [← e1, ← e2]
    simpa [Lit.wf, cw] using h
  omega
theorem stepsN (n : Nat) (c : Cells) (pa pb ga gb se : Int) (e : Cells) (qa qb ra rb te : Int) (b : Slots) (K S E A vn : Int) (hn : c.length + e.length + 3000 < n) (hw : wOK c) (hwe : wOK e) (hl : lenB b) (hc : c.length ≤ 5864062014805) (he : e.length ≤ 5864062014805) :
    F5 n c pa pb ga gb se e qa qb ra rb te b K S E A vn = some true := by
  obtain ⟨c', pa', pb', ga', gb', se', er, s1, s2, s3⟩ := subN (c := c) (e := e) (pa := pa) (pb := pb) (ga := ga) (gb := gb) (se := se) (qa := qa) (qb := qb) (ra := ra) (rb := rb) (te := te) (b := b) n (by omega) hw hl.1 hc he K S E A
  obtain ⟨se2, qa2, qb2, ra2, rb2, te2, v1, v2, v3, ok, r1, r2⟩ := reapN (c := c) (e := e) (pa := pa) (pb := pb) (ga := ga) (gb := gb) (se := se) (qa := qa) (qb := qb) (ra := ra) (rb := rb) (te := te) (b := b) n (by omega) hw hwe hl.1 hc he
  have last : ∀ (j : Int) (x : Cells) (x1 x2 x3 x4 x5 : Int) (y : Cells) (y1 y2 y3 y4 y5 : Int) (z : Slots), x.length = c.length → y.length = e.length → F5_j5 n c pa pb ga gb se e qa qb ra rb te b (x1, x2, x3, x4, x5, y1, y2, y3, y4, y5, z, j, x, y) (j, x, x1, x2, x3, x4, x5, y, y1, y2, y3, y4, y5, z) = some true := by
    intro j x x1 x2 x3 x4 x5 y y1 y2 y3 y4 y5 z hx hy
    simp only [F5_j5]
    rw [sameM n (by omega) (by omega) (by omega), r1, r2]
    simp only [Option.bind_some, Bool.not_true, cond_false, bne_self_eq_false]
    rw [sameM n (by omega) (by omega) (by omega)]
    simp only [Option.bind_some, cond_true, Sh.beq_self, BEq.rfl]
  unfold F5
  rw [s1, s2]
  simp only [Option.bind_some]
  rw [sameM n (by omega) (by omega) (by omega)]
  simp only [Option.bind_some, Bool.not_true, cond_false, bne_self_eq_false]
  have zero : F15_j3 n vn (pa, pb, ga, gb, se, qa, qb, ra, rb, te, b, c, e) true = some (pa, pb, ga, gb, se, qa, qb, ra, rb, te, b, 0, c, e) := rfl
  have one : ∀ y, (vn ≤ 1000 → (0 : Int) < vn → machV c pa pb ga gb se e qa qb ra rb te b = false) → loopF (F5_l6 n c pa pb ga gb se e qa qb ra rb te b vn y) n (0, c, pa, pb, ga, gb, se, e, qa, qb, ra, rb, te, b) = F5_j5 n c pa pb ga gb se e qa qb ra rb te b y (0, c, pa, pb, ga, gb, se, e, qa, qb, ra, rb, te, b) := by
    intro y hy
    obtain ⟨N, rfl⟩ : ∃ N, n = N + 1 := ⟨n - 1, by omega⟩
    show F5_l6 (N + 1) c pa pb ga gb se e qa qb ra rb te b vn y _ (0, c, pa, pb, ga, gb, se, e, qa, qb, ra, rb, te, b) = _
    simp only [F5_l6]
    by_cases h1 : vn ≤ 1000
    · rw [decide_eq_true h1]
      by_cases h2 : (0 : Int) < vn
      · have hm := hy h1 h2
        have hwk : F16 (N + 1) c pa pb ga gb se e qa qb ra rb te b = some (c, pa, pb, ga, gb, se, e, qa, qb, ra, rb, te, b, false) := by
          unfold F16
          rw [machR (N + 1) (by omega) hw hl.1, hm]; rfl
        rw [decide_eq_true h2, hwk]; rfl
      · rw [decide_eq_false h2]; rfl
    · rw [decide_eq_false h1]; rfl
  unfold F15
  rw [copyM n hc he]
  simp only [Option.bind_some]
  rw [validP n (by omega) hw]
  simp only [Option.bind_some]
  cases hm : machV c pa pb ga gb se e qa qb ra rb te b with
  | false =>
    simp only [Bool.not_false, cond_true, zero, Option.bind_some]
    rw [one _ (fun _ _ => hm)]
    exact last 0 c pa pb ga gb se e qa qb ra rb te b rfl rfl
  | true =>
    simp only [Bool.not_true, cond_false]
    by_cases h1 : vn < 1
    · rw [decide_eq_true h1]
      simp only [cond_true, zero, Option.bind_some]
      rw [one _ (fun _ h => by omega)]
      exact last 0 c pa pb ga gb se e qa qb ra rb te b rfl rfl
    rw [decide_eq_false h1]
    by_cases h2 : vn > 1000
    · rw [decide_eq_true h2]
      simp only [cond_false, zero, Option.bind_some]
      rw [one _ (fun h _ => by omega)]
      exact last 0 c pa pb ga gb se e qa qb ra rb te b rfl rfl
    rw [decide_eq_false h2]
    simp only [cond_false, F15_j3]
    obtain ⟨j', x, x1, x2, x3, x4, x5, y, y1, y2, y3, y4, y5, z, w1, w2, w3, w4⟩ := workI n (by omega) vn (by omega) c pa pb ga gb se e qa qb ra rb te b 1000 0 c pa pb ga gb se e qa qb ra rb te b n n hm hw hl (by omega) (by omega) (by omega) (by omega)
    have w1' : loopF (F15_l4 n vn) n (0, pa, pb, ga, gb, se, qa, qb, ra, rb, te, b, c, e) = _ := w1
    rw [w1']
    simp only [Option.bind_some]
    have w2' := w2 (x1, x2, x3, x4, x5, y1, y2, y3, y4, y5, z, j', x, y)
    refine Eq.trans w2' ?_
    exact last j' x x1 x2 x3 x4 x5 y y1 y2 y3 y4 y5 z w3 w4
theorem steps1 (c : Cells) (pa pb ga gb se : Int) (e : Cells) (qa qb ra rb te : Int) (b : Slots) (K S E A vn : Int) (hw : ∀ x ∈ c, (Lit.int .u64 x.1).wf = true) (hwe : ∀ x ∈ e, (Lit.int .u64 x.1).wf = true) (hb : Sh.good (.st (.arr 9 (.st (.pair (.int .i64) (.pair (.int .i64) (.pair (.arr 32 (.int .i64)) (.arr 32 (.int .i64)))))))) b)
    (hc : c.length * 24 ≤ 140737488351232) (he : e.length * 24 ≤ 140737488351232) : ∃ n, F5 n c pa pb ga gb se e qa qb ra rb te b K S E A vn = some true :=
  ⟨c.length + e.length + 3001, stepsN _ c pa pb ga gb se e qa qb ra rb te b K S E A vn (by omega) (goodC hw) (goodC hwe) ⟨hb.1, fun k hk => lens b hb k hk⟩ (by omega) (by omega)⟩
theorem hostSteps_says (a0 : Sh.T (.st (.pair (.st (.pair (.sl (.st (.pair (.int .u64) (.pair (.int .i64) .bool)))) (.pair (.st (.pair (.int .i64) (.int .i64))) (.pair (.st (.pair (.int .i64) (.int .i64))) (.int .i64))))) (.pair (.st (.pair (.sl (.st (.pair (.int .u64) (.pair (.int .i64) .bool)))) (.pair (.st (.pair (.int .i64) (.int .i64))) (.pair (.st (.pair (.int .i64) (.int .i64))) (.int .i64))))) (.st (.arr 9 (.st (.pair (.int .i64) (.pair (.int .i64) (.pair (.arr 32 (.int .i64)) (.arr 32 (.int .i64)))))))))))) (g0 : Sh.good (.st (.pair (.st (.pair (.sl (.st (.pair (.int .u64) (.pair (.int .i64) .bool)))) (.pair (.st (.pair (.int .i64) (.int .i64))) (.pair (.st (.pair (.int .i64) (.int .i64))) (.int .i64))))) (.pair (.st (.pair (.sl (.st (.pair (.int .u64) (.pair (.int .i64) .bool)))) (.pair (.st (.pair (.int .i64) (.int .i64))) (.pair (.st (.pair (.int .i64) (.int .i64))) (.int .i64))))) (.st (.arr 9 (.st (.pair (.int .i64) (.pair (.int .i64) (.pair (.arr 32 (.int .i64)) (.arr 32 (.int .i64))))))))))) a0) (v0 : Sh.rch (.st (.pair (.st (.pair (.sl (.st (.pair (.int .u64) (.pair (.int .i64) .bool)))) (.pair (.st (.pair (.int .i64) (.int .i64))) (.pair (.st (.pair (.int .i64) (.int .i64))) (.int .i64))))) (.pair (.st (.pair (.sl (.st (.pair (.int .u64) (.pair (.int .i64) .bool)))) (.pair (.st (.pair (.int .i64) (.int .i64))) (.pair (.st (.pair (.int .i64) (.int .i64))) (.int .i64))))) (.st (.arr 9 (.st (.pair (.int .i64) (.pair (.int .i64) (.pair (.arr 32 (.int .i64)) (.arr 32 (.int .i64))))))))))) a0) (a1 : Sh.T (.st (.pair (.int .i64) (.pair (.int .i64) (.pair (.int .i64) (.int .i64)))))) (g1 : Sh.good (.st (.pair (.int .i64) (.pair (.int .i64) (.pair (.int .i64) (.int .i64))))) a1) (v1 : Sh.rch (.st (.pair (.int .i64) (.pair (.int .i64) (.pair (.int .i64) (.int .i64))))) a1) (a2 : Sh.T (.int .i64)) (g2 : Sh.good (.int .i64) a2) (v2 : Sh.rch (.int .i64) a2) :
    ∃ n, F5 n a0.1.1 a0.1.2.1.1 a0.1.2.1.2 a0.1.2.2.1.1 a0.1.2.2.1.2 a0.1.2.2.2 a0.2.1.1 a0.2.1.2.1.1 a0.2.1.2.1.2 a0.2.1.2.2.1.1 a0.2.1.2.2.1.2 a0.2.1.2.2.2 a0.2.2 a1.1 a1.2.1 a1.2.2.1 a1.2.2.2 a2 = some true := steps1 a0.1.1 a0.1.2.1.1 a0.1.2.1.2 a0.1.2.2.1.1 a0.1.2.2.1.2 a0.1.2.2.2 a0.2.1.1 a0.2.1.2.1.1 a0.2.1.2.1.2 a0.2.1.2.2.1.1 a0.2.1.2.2.1.2 a0.2.1.2.2.2 a0.2.2 a1.1 a1.2.1 a1.2.2.1 a1.2.2.2 a2 (fun x hx => (g0.1.1.2 x hx).1) (fun x hx => (g0.2.1.1.2 x hx).1) g0.2.2 v0.1.1.1 v0.2.1.1.1
end Go.Proofs.Ythololnakkpieaa
