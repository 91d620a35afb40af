/- Contracts: New, Free (arena), Taken (plugref). -/
import Derived.Test.YtkhfbleldchnpaaSpanEq
import Derived.Test.YtkhfbleldchnpaaKit2
namespace Go.Proofs.Ytkhfbleldchnpaa
open Go.RowKit
set_option linter.unusedVariables false
set_option maxRecDepth 100000

def newErr (n : Int) : Int := if n < 1 ∨ 65536 < n then 1 else 0
def newSize (n : Int) : Int := if n < 1 ∨ 65536 < n then 0 else n
set_option maxHeartbeats 1000000 in
theorem newA_any (n : Int) (w : World) : Calls Try.prog 24 #[.int .i64 n] w fun r w' => r = .returned (.tuple #[.agg #[.int .i64 (newSize n), .slice none 0 0], .int .i64 (newErr n)]) ∧ Below w.heap.size w w' := by
  unfold newErr newSize
  by_cases h : n < 1 ∨ 65536 < n
  · rw [if_pos h, if_pos h]
    rcases h with h | h
    all_goals
      go_enter Try.func24, Try.ntmps24
      go_wp2
      refine bodyPost_ret (v := .tuple #[.agg #[.int .i64 0, .slice none 0 0], .int .i64 1]) (by simp [results, Try.results24, go_sem]) rfl ⟨rfl, ?_⟩
      go_grown
  · rw [if_neg h, if_neg h]
    go_enter Try.func24, Try.ntmps24
    go_wp2
    refine bodyPost_ret (v := .tuple #[.agg #[.int .i64 n, .slice none 0 0], .int .i64 0]) (by simp [results, Try.results24, go_sem]) rfl ⟨rfl, ?_⟩
    go_grown

def total : List (Int × Int) → Int
  | [] => 0
  | p :: l => p.2 + total l
def freeN (size : Int) (l : List (Int × Int)) : Int := if arErr size l = 0 then size - total l else 0
theorem arErr_ok {size : Int} {l : List (Int × Int)} (h : arErr size l = 0) : (1 ≤ size ∧ size ≤ 65536) ∧ l.length ≤ 64 ∧ spOk size 0 l = true := by
  unfold arErr at h
  split at h
  · cases h
  · split at h
    · cases h
    · split at h
      · rename_i a b c; exact ⟨by omega, by omega, c⟩
      · cases h
theorem spOk_cons {size x y z : Int} {t : List (Int × Int)} (h : spOk size x ((y, z) :: t) = true) : (1 ≤ z ∧ x ≤ y ∧ y < size ∧ z ≤ size - y) ∧ spOk size (y + z) t = true := by
  by_cases g : 1 ≤ z ∧ x ≤ y ∧ y < size ∧ z ≤ size - y
  · rw [spOk_yes t g] at h; exact ⟨g, h⟩
  · rw [spOk_no t g] at h; cases h
set_option maxHeartbeats 1000000 in
theorem freeA_any (size : Int) (hs : I64 size) (a : Option Addr) (cap : Nat) (l : List (Int × Int)) (hl : ∀ p ∈ l, I64 p.1 ∧ I64 p.2) (w : World) (hr : Reads w 2 (.slice a l.length cap) l.length (pairs l)) :
    Calls Try.prog 25 #[.agg #[.int .i64 size, .slice a l.length cap]] w fun r w' => r = .returned (.tuple #[.int .i64 (freeN size l), .int .i64 (arErr size l)]) ∧ Below w.heap.size w w' := by
  have HC := Lib.hid (checkA_any size hs a cap l hl (w.alloc (.cells #[.int .i64 size, .slice a l.length cap] 46)) (hr.alloc _))
  have hcm := hr.pairs_open
  obtain ⟨a', cap', e, hcm1, hcm2⟩ := hcm
  simp only [Value.slice.injEq, true_and] at e
  obtain ⟨rfl, rfl⟩ := e
  unfold maxLen at hcm2
  have hlen : l.length ≤ 9223372036854775807 := by omega
  have HR := Lib.hid hr
  clear hr hcm1 hcm2
  by_cases hE : arErr size l = 0
  · obtain ⟨h1, h2, h3⟩ := arErr_ok hE
    have HF : Hid (freeN size l = size - total l) := Lib.hid (if_pos hE)
    rw [hE] at HC ⊢
    have HE := Lib.hid h3
    clear h3 hE
    go_enter Try.func25, Try.ntmps25
    go_wp2_with fail
    refine HC.out.mono ?_
    rintro r_w1 w1 ⟨rfl, hb_w1⟩
    have B_w1 : Below w.heap.size w w1 := by first | exact hb_w1 | exact ((Below.refl _ _).alloc (Nat.le_refl _) _).trans (hb_w1.mono (by simp)) | exact (((Below.refl _ _).alloc (Nat.le_refl _) _).alloc (by simp) _).trans (hb_w1.mono (by simp; omega))
    have z_w1_0 : w.heap.size < w1.heap.size := by have := hb_w1.size; first | omega | (simp at this; omega)
    have c_w1_0_0 : w1.cell? ⟨w.heap.size, 0, none⟩ = some (.int .i64 size) := (hb_w1.cell (by first | assumption | (simp; done) | (simp; omega))).trans (by first | assumption | (simp; done) | simp [*])
    have c_w1_0_1 : w1.cell? ⟨w.heap.size, 1, none⟩ = some (.slice a l.length cap) := (hb_w1.cell (by first | assumption | (simp; done) | (simp; omega))).trans (by first | assumption | (simp; done) | simp [*])
    clear hb_w1
    go_wp2_with fail
    go_loopw [5, 18] (fun n i wr => ∃ k : Nat, k ≤ l.length ∧ i = .int .i64 k ∧ ∃ t x : Int, n = .int .i64 (size - t) ∧ (0 ≤ t ∧ t ≤ x ∧ x ≤ size) ∧ Hid (spOk size x (l.drop k) = true) ∧ Hid (total l = t + total (l.drop k)) ∧ Below w.heap.size w wr)
      (fun _ i _ => l.length - (intOf i).toNat)
    case atStart => exact ⟨0, Nat.zero_le _, rfl, 0, 0, by simp, by omega, HE, Lib.hid (by simp), B_w1⟩
    case round =>
      obtain ⟨k, hk, rfl, t, x, rfl, hx, HS, HT, hbel⟩ := hrel
      have hsz : w.heap.size ≤ wr.heap.size := hbel.size
      by_cases hlt : k < l.length
      · obtain ⟨b, off, rfl, hb, hc1, hc2⟩ := Reads.pair HR.out k hlt
        have d1 : wr.cell? ⟨b, off + k * 2, none⟩ = some (.int .i64 l[k].1) := (hbel.cell (p := ⟨b, off + k * 2, none⟩) hb).trans hc1
        have d2 : wr.cell? ⟨b, off + k * 2 + 1, none⟩ = some (.int .i64 l[k].2) := (hbel.cell (p := ⟨b, off + k * 2 + 1, none⟩) hb).trans hc2
        clear hc1 hc2
        have HD := Lib.hid (drop_get l k hlt)
        have hs2 := HS.out
        have ht2 := HT.out
        rw [HD.out] at hs2 ht2
        clear hl
        generalize l[k] = p at *
        obtain ⟨y, z⟩ := p
        obtain ⟨hz, hs3⟩ := spOk_cons hs2
        simp only [total] at ht2
        have HS2 := Lib.hid hs3
        have HT2 := Lib.hid ht2
        clear hs2 hs3 ht2
        go_wp2_with fail
        go_roundw
        case rel =>
          refine ⟨k + 1, by omega, by go_num, t + z, y + z, ?_, by omega, HS2, Lib.hid ?_, hbel.alloc hsz _⟩
          · rw [show size - t - z = size - (t + z) by omega]
          · have := HT2.out; omega
        case measure => simp [intOf]; omega
      · obtain rfl : k = l.length := by omega
        have ht := HT.out
        rw [List.drop_length] at ht
        simp only [total] at ht
        have HT2 := Lib.hid ht
        clear ht
        go_wp2_with fail
        go_ret2
        exact ⟨ret_ii (by have := HT2.out; have := HF.out; omega) rfl, hbel⟩
  · have HF : Hid (freeN size l = 0) := Lib.hid (if_neg hE)
    rw [HF.out]
    generalize hX : arErr size l = x at *
    have hx : (x != 0) = true := by simpa using hE
    clear hX
    go_enter Try.func25, Try.ntmps25
    go_wp2_with fail
    refine HC.out.mono ?_
    rintro r_w1 w1 ⟨rfl, hb_w1⟩
    have B_w1 : Below w.heap.size w w1 := by first | exact hb_w1 | exact ((Below.refl _ _).alloc (Nat.le_refl _) _).trans (hb_w1.mono (by simp)) | exact (((Below.refl _ _).alloc (Nat.le_refl _) _).alloc (by simp) _).trans (hb_w1.mono (by simp; omega))
    clear hb_w1
    go_wp2_with fail
    go_ret2
    exact ⟨rfl, B_w1⟩
end Go.Proofs.Ytkhfbleldchnpaa
