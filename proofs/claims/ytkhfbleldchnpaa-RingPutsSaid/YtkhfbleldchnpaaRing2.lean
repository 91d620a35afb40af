/- Ring (plugref): the same error as Check's. -/
import Derived.Test.YtkhfbleldchnpaaRing
namespace Go.Proofs.Ytkhfbleldchnpaa
open Go.RowKit
set_option linter.unusedVariables false
set_option maxRecDepth 100000

def marksOk (n : Nat) (pa pb ga gb se : Int) : Bool := bitOk pb && bitOk gb && atOk n pa && atOk n ga && atOk n se
theorem loopR_eq (n : Nat) : ∀ (t : List RC) (k : Nat), t ≠ [] → k + t.length = n → loopR n k t = (loopP n k t && (lastW t == 0))
  | [], _, h, _ => absurd rfl h
  | [c], k, _, hk => by
    have h1 : ¬ k + 1 < n := by simp at hk; omega
    simp [loopR, loopP, wOk, lastW, h1]
  | c :: d :: t, k, _, hk => by
    have ih := loopR_eq n (d :: t) (k + 1) (by simp) (by simp at hk ⊢; omega)
    have h1 : k + 1 < n := by simp at hk; omega
    have e : lastW (c :: d :: t) = lastW (d :: t) := by simp [lastW, List.getLast?_cons_cons]
    show (linkOk n k c && wOk n k c && loopR n (k + 1) (d :: t)) = _
    rw [ih, e, loopP_cons n k c]
    simp [wOk, h1, Bool.and_assoc]
theorem ringErr_eq (l : List RC) (pa pb ga gb se : Int) (h : ¬ (l.length < 3 ∨ 64 < l.length)) : ringErr l pa pb ga gb se = if (marksOk l.length pa pb ga gb se && loopR l.length 0 l) then 0 else 4 := by
  unfold ringErr
  rw [if_neg h, loopR_eq l.length l 0 (by intro e; subst e; simp at h) (by omega)]
  unfold marksOk
  congr 1
  apply propext
  simp only [Bool.and_eq_true]
  constructor
  · rintro ⟨a, ⟨⟨⟨⟨b, c⟩, d⟩, e⟩, f⟩, g⟩; exact ⟨⟨⟨⟨⟨b, c⟩, e⟩, f⟩, g⟩, a, d⟩
  · rintro ⟨⟨⟨⟨⟨b, c⟩, e⟩, f⟩, g⟩, a, d⟩; exact ⟨a, ⟨⟨⟨⟨b, c⟩, d⟩, e⟩, f⟩, g⟩
theorem loopR_cons (n k : Nat) (c : RC) (t : List RC) : loopR n k (c :: t) = (linkOk n k c && wOk n k c && loopR n (k + 1) t) := rfl
theorem btBit (b : Int) (w : World) : Calls Try.prog 19 #[.int .i64 b, .int .i64 0, .int .i64 1] w fun e w' => e = .returned (.bool (bitOk b)) ∧ w = w' := by
  have h := between_any b 0 1 w
  have e : (decide (0 ≤ b) && decide (b ≤ 1)) = bitOk b := by rw [Bool.eq_iff_iff]; simp [bitOk]; omega
  rwa [e] at h
theorem btAt (n : Nat) (k : Int) (w : World) : Calls Try.prog 19 #[.int .i64 k, .int .i64 0, .int .i64 ((n : Int) - 2)] w fun e w' => e = .returned (.bool (atOk n k)) ∧ w = w' := by
  have h := between_any k 0 ((n : Int) - 2) w
  have e : (decide (0 ≤ k) && decide (k ≤ (n : Int) - 2)) = atOk n k := by rw [Bool.eq_iff_iff]; simp [atOk]; omega
  rwa [e] at h
set_option maxHeartbeats 2000000 in
theorem ringR_any (pa pb ga gb se : Int) (a : Option Addr) (cap : Nat) (l : List RC) (w : World) (hr : Reads w 3 (.slice a l.length cap) l.length (rcells l)) :
    Calls Try.prog 37 #[.agg #[.slice a l.length cap, .int .i64 pa, .int .i64 pb, .int .i64 ga, .int .i64 gb, .int .i64 se]] w fun r w' => r = .returned (.int .i64 (ringErr l pa pb ga gb se)) ∧ Below w.heap.size w w' := by
  obtain ⟨a', cap', e, hcm1, hcm2⟩ := hr.rc_open
  simp only [Value.slice.injEq, true_and] at e
  obtain ⟨rfl, rfl⟩ := e
  unfold maxLen at hcm2
  have hlen : l.length ≤ 9223372036854775807 := by omega
  have HR := Lib.hid hr
  have HB := Lib.hid (between_any (l.length : Int) 3 64)
  clear hr hcm1 hcm2
  by_cases h1 : l.length < 3 ∨ 64 < l.length
  · have e : ringErr l pa pb ga gb se = 1 := if_pos h1
    have hd : (decide ((3 : Int) ≤ (l.length : Int)) && decide ((l.length : Int) ≤ 64)) = false := by simp; omega
    rw [e]
    clear e
    go_enter Try.func37, Try.ntmps37
    go_wp2_with (go_at_call 19; with_reducible refine (HB.out _).mono ?_; rw [hd]; rintro r w2 ⟨rfl, rfl⟩)
    go_ret
    exact ⟨rfl, (Below.refl _ _).alloc (Nat.le_refl _) _⟩
  · have e := ringErr_eq l pa pb ga gb se h1
    have hd : (decide ((3 : Int) ≤ (l.length : Int)) && decide ((l.length : Int) ≤ 64)) = true := by simp; omega
    have HE := Lib.hid e
    clear e
    have hb1 : 3 ≤ l.length := by omega
    have hb2 : l.length ≤ 64 := by omega
    have H1 := Lib.hid (btBit pb)
    have H2 := Lib.hid (btBit gb)
    have H3 := Lib.hid (btAt l.length pa)
    have H4 := Lib.hid (btAt l.length ga)
    have H5 := Lib.hid (btAt l.length se)
    have HM : Hid (marksOk l.length pa pb ga gb se = (bitOk pb && bitOk gb && atOk l.length pa && atOk l.length ga && atOk l.length se)) := rfl
    generalize hn : l.length = n at *
    have HN := Lib.hid hn
    clear hn h1
    generalize marksOk n pa pb ga gb se = mk at *
    generalize bitOk pb = b1 at *
    generalize bitOk gb = b2 at *
    generalize atOk n pa = b3 at *
    generalize atOk n ga = b4 at *
    generalize atOk n se = b5 at *
    obtain rfl | ⟨rfl, rfl | ⟨rfl, rfl | ⟨rfl, rfl | ⟨rfl, rfl | rfl⟩⟩⟩⟩ : b1 = false ∨ (b1 = true ∧ (b2 = false ∨ (b2 = true ∧ (b3 = false ∨ (b3 = true ∧ (b4 = false ∨ (b4 = true ∧ (b5 = false ∨ b5 = true)))))))) := by
      cases b1 <;> cases b2 <;> cases b3 <;> cases b4 <;> cases b5 <;> simp
    all_goals
      have hmk := HM.out
      simp only [Bool.true_and, Bool.and_true, Bool.false_and, Bool.and_false] at hmk
      have HMK := Lib.hid hmk
      clear hmk HM
      go_enter Try.func37, Try.ntmps37
      go_wp2_with (go_at_call 19; first | (with_reducible refine (HB.out _).mono ?_; rw [hd]; rintro r w2 ⟨rfl, rfl⟩) | (with_reducible refine (H1.out _).mono ?_; rintro r w2 ⟨rfl, rfl⟩) | (with_reducible refine (H2.out _).mono ?_; rintro r w2 ⟨rfl, rfl⟩) | (with_reducible refine (H3.out _).mono ?_; rintro r w2 ⟨rfl, rfl⟩) | (with_reducible refine (H4.out _).mono ?_; rintro r w2 ⟨rfl, rfl⟩) | (with_reducible refine (H5.out _).mono ?_; rintro r w2 ⟨rfl, rfl⟩))
      go_loopw [4, 49] (fun f i wr => ∃ k : Nat, k ≤ n ∧ i = .int .i64 k ∧ ∃ b : Bool, f = .bool b ∧ Hid ((mk && loopR n 0 l) = (b && loopR n k (l.drop k))) ∧ Below (w.heap.size + 1) (w.alloc (.cells #[.slice a n cap, .int .i64 pa, .int .i64 pb, .int .i64 ga, .int .i64 gb, .int .i64 se] 65)) wr) (fun _ i _ => n - (intOf i).toNat)
      case atStart => exact ⟨0, Nat.zero_le _, rfl, _, rfl, Lib.hid (by rw [HMK.out]; rfl), Below.refl _ _⟩
      case round =>
        clear H1 H2 H3 H4 H5 HMK HB
        obtain ⟨k, hk, rfl, f, rfl, HS, hbel⟩ := hrel
        have hsz : w.heap.size < wr.heap.size := by have := hbel.size; simp at this; omega
        have hB : Below w.heap.size w wr := ((Below.refl _ _).alloc (Nat.le_refl _) _).trans (hbel.mono (by omega))
        by_cases hlt : k < n
        · have hlt' : k < l.length := by rw [HN.out]; exact hlt
          obtain ⟨b, off, rfl, hb, hc1, hc2, hc3⟩ := Reads.rcell HR.out k hlt'
          have d1 : wr.cell? ⟨b, off + k * 3, none⟩ = some (.int .u64 l[k].1) := (hB.cell (p := ⟨b, off + k * 3, none⟩) hb).trans hc1
          have d2 : wr.cell? ⟨b, off + k * 3 + 1, none⟩ = some (.int .i64 l[k].2.1) := (hB.cell (p := ⟨b, off + k * 3 + 1, none⟩) hb).trans hc2
          have d3 : wr.cell? ⟨b, off + k * 3 + 2, none⟩ = some (.bool l[k].2.2) := (hB.cell (p := ⟨b, off + k * 3 + 2, none⟩) hb).trans hc3
          clear hc1 hc2 hc3
          have HD := Lib.hid (drop_cons l k hlt')
          generalize l[k] = p at *
          obtain ⟨x, y, z⟩ := p
          have HY := Lib.hid (btBit y)
          have hq : ((k : Int) + 1 == (n : Int)) = decide (k + 1 = n) := by
            rw [Bool.eq_iff_iff]
            simp
            omega
          have hlk : (linkOk n k (x, y, z) && wOk n k (x, y, z)) = (((z == decide (k + 1 = n)) && bitOk y) && (decide (k + 1 < n) || x == 0)) := rfl
          generalize decide (k + 1 = n) = q at *
          generalize bitOk y = by' at *
          generalize hx0 : (x == 0) = x0 at *
          have HK := Lib.hid hlk
          clear hlk
          cases f with
          | false =>
            go_wp2_with fail
            go_roundw
            case rel => exact ⟨k + 1, by omega, by go_num, false, rfl, Lib.hid (by rw [HS.out]; rfl), hbel.alloc (by omega) _⟩
            case measure => simp [intOf]; omega
          | true =>
            cases by' with
            | false =>
              go_wp2_with (go_at_call 19; with_reducible refine (HY.out _).mono ?_; rintro r w2 ⟨rfl, rfl⟩)
              go_roundw
              case rel => exact ⟨k + 1, by omega, by go_num, false, rfl, Lib.hid (by rw [HS.out, HD.out, loopR_cons, HK.out, Bool.and_false, Bool.false_and]; simp), hbel.alloc (by omega) _⟩
              case measure => simp [intOf]; omega
            | true =>
              cases hzq : (z == q) with
              | false =>
                go_wp2_with (go_at_call 19; with_reducible refine (HY.out _).mono ?_; rintro r w2 ⟨rfl, rfl⟩)
                go_roundw
                case rel => exact ⟨k + 1, by omega, by go_num, false, rfl, Lib.hid (by rw [HS.out, HD.out, loopR_cons, HK.out, hzq]; simp), hbel.alloc (by omega) _⟩
                case measure => simp [intOf]; omega
              | true =>
                by_cases hkn : k + 1 < n
                · have hkn2 : (k : Int) + 1 < n := by omega
                  go_wp2_with (go_at_call 19; with_reducible refine (HY.out _).mono ?_; rintro r w2 ⟨rfl, rfl⟩)
                  go_roundw
                  case rel => exact ⟨k + 1, by omega, by go_num, true, rfl, Lib.hid (by rw [HS.out, HD.out, loopR_cons, HK.out, hzq]; simp [hkn]), hbel.alloc (by omega) _⟩
                  case measure => simp [intOf]; omega
                · have hkn2 : ¬ (k : Int) + 1 < n := by omega
                  cases x0 with
                  | false =>
                    go_wp2_with (go_at_call 19; with_reducible refine (HY.out _).mono ?_; rintro r w2 ⟨rfl, rfl⟩)
                    go_roundw
                    case rel => exact ⟨k + 1, by omega, by go_num, false, by simp; omega, Lib.hid (by rw [HS.out, HD.out, loopR_cons, HK.out, hzq]; simp [hkn]), hbel.alloc (by omega) _⟩
                    case measure => simp [intOf]; omega
                  | true =>
                    go_wp2_with (go_at_call 19; with_reducible refine (HY.out _).mono ?_; rintro r w2 ⟨rfl, rfl⟩)
                    go_roundw
                    case rel => exact ⟨k + 1, by omega, by go_num, true, rfl, Lib.hid (by rw [HS.out, HD.out, loopR_cons, HK.out, hzq]; simp [hkn]), hbel.alloc (by omega) _⟩
                    case measure => simp [intOf]; omega
        · obtain rfl : k = n := by omega
          have he := HE.out
          rw [HS.out, List.drop_eq_nil_of_le (by rw [HN.out]; exact Nat.le_refl _)] at he
          have HRE := Lib.hid he
          clear he HS HE
          cases f with
          | false =>
            go_wp2_with fail
            go_ret
            exact ⟨ret_i (by rw [HRE.out]; rfl), hB⟩
          | true =>
            go_wp2_with fail
            go_ret
            exact ⟨ret_i (by rw [HRE.out]; rfl), hB⟩
end Go.Proofs.Ytkhfbleldchnpaa
