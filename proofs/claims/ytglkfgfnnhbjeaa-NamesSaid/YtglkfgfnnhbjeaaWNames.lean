/- The walk of the law Names. -/
import Derived.Test.YtglkfgfnnhbjeaaEqInts
import Derived.Handy
namespace Go.Proofs.Ytglkfgfnnhbjeaa
open Go.RowKit
set_option linter.unusedVariables false
set_option maxRecDepth 100000

def packetsL : List Int := [1, 2, 3, 5, 9, 10, 11, 13, 14]
def codesL : List Int := [1, 5, 9, 11, 12, 17, 19]
def statesL : List Int := [0, 1, 2, 3, 0, 1, 2, 3]
def limitsL : List Int := [80, 1000, 64, 126, 512, 4, 4, 2, 8, 200, 1000, 4096, 65536, 64, 4096, 64, 8, 65535, 64, 8, 6, 4, 40, 3, 64, 16, 4, 200, 256, 512, 4, 400, 16, 1000, 16, 65535, 200, 300]
def errsL : List Value := (List.range 17).map fun j => .int .i64 (j : Nat)
def upL (n : Nat) : List Value := (List.range n).map fun j => .int .i64 ((j : Nat) + 1 : Int)
structure Rows7 (w wr : World) : Prop where
  r1 : Reads wr 1 (.slice (some ⟨w.heap.size, 0, none⟩) 14 14) 14 (upL 14)
  r2 : Reads wr 1 (.slice (some ⟨w.heap.size + 1, 0, none⟩) 5 5) 5 (upL 5)
  r3 : Reads wr 1 (.slice (some ⟨w.heap.size + 1 + 1, 0, none⟩) 3 3) 3 (upL 3)
  r4 : Reads wr 1 (.slice (some ⟨w.heap.size + 1 + 1 + 1, 0, none⟩) 9 9) 9 (upL 9)
  r5 : Reads wr 1 (.slice (some ⟨w.heap.size + 1 + 1 + 1 + 1, 0, none⟩) 4 4) 4 (upL 4)
  r6 : Reads wr 1 (.slice (some ⟨w.heap.size + 1 + 1 + 1 + 1 + 1, 0, none⟩) 3 3) 3 (upL 3)
  r7 : Reads wr 1 (.slice (some ⟨w.heap.size + 1 + 1 + 1 + 1 + 1 + 1, 0, none⟩) 8 8) 8 (upL 8)
  r8 : Reads wr 1 (.slice (some ⟨w.heap.size + 1 + 1 + 1 + 1 + 1 + 1 + 1, 0, none⟩) 7 7) 7 [.slice (some ⟨w.heap.size, 0, none⟩) 14 14, .slice (some ⟨w.heap.size + 1, 0, none⟩) 5 5, .slice (some ⟨w.heap.size + 1 + 1, 0, none⟩) 3 3, .slice (some ⟨w.heap.size + 1 + 1 + 1, 0, none⟩) 9 9, .slice (some ⟨w.heap.size + 1 + 1 + 1 + 1, 0, none⟩) 4 4, .slice (some ⟨w.heap.size + 1 + 1 + 1 + 1 + 1, 0, none⟩) 3 3, .slice (some ⟨w.heap.size + 1 + 1 + 1 + 1 + 1 + 1, 0, none⟩) 8 8]
theorem errs_get (k : Nat) (h : k < 17) : errsL[k]? = some (.int .i64 k) := by
  simp [errsL, List.getElem?_map, List.getElem?_range h]
theorem up_get (n k : Nat) (h : k < n) : (upL n)[k]? = some (.int .i64 ((k : Int) + 1)) := by
  simp [upL, List.getElem?_map, List.getElem?_range h]

set_option maxHeartbeats 4000000 in
theorem names_walk (w : World) :
    Calls Try.prog 3 #[] w fun e w' => e = .returned (.bool true) ∧ Below w.heap.size w w' := by
  go_enter Try.func3, Try.ntmps3
  go_wp2_with fail
  go_loopw [13] (fun i wr => ∃ k : Nat, k ≤ 17 ∧ i = .int .i64 k ∧ Reads wr 1 (.slice (some ⟨w.heap.size, 0, none⟩) 17 17) 17 errsL ∧ Below w.heap.size w wr ∧ wr.heap.size = w.heap.size + 1) (fun i _ => 17 - (intOf i).toNat)
  case atStart => exact ⟨0, by omega, rfl, Reads.lit w 22 1 17 errsL rfl (by decide), by go_grown, by simp⟩
  case round =>
    obtain ⟨k, hk, rfl, hE, hbel, hsize⟩ := hrel
    have HS := Lib.hid hsize
    clear hsize
    by_cases hlt : k < 17
    · have hc := hE.cell0 (errs_get k hlt)
      go_wp2_with fail
      go_roundw
      case rel => exact ⟨k + 1, by omega, by go_num, hE, hbel, HS.out⟩
      case measure => simp [intOf]; omega
    · obtain rfl : k = 17 := by omega
      clear hE
      go_wp2_with fail
      obtain ⟨w0, hw0⟩ : ∃ w0 : World, w0 = wr := ⟨_, rfl⟩
      subst hw0
      go_loopw [31] (fun i wr => ∃ k : Nat, k ≤ 7 ∧ i = .int .i64 k ∧ Rows7 w0 wr ∧ Below w.heap.size w wr) (fun i _ => 7 - (intOf i).toNat)
      case atStart =>
        refine ⟨0, by omega, rfl, ?_, ?_⟩
        · refine ⟨?_, ?_, ?_, ?_, ?_, ?_, ?_, ?_⟩
          · exact (((((((Reads.litAt _ 3 1 14 (upL 14) rfl (by decide) _ (by simp)).alloc _).alloc _).alloc _).alloc _).alloc _).alloc _).alloc _
          · exact ((((((Reads.litAt _ 3 1 5 (upL 5) rfl (by decide) _ (by simp)).alloc _).alloc _).alloc _).alloc _).alloc _).alloc _
          · exact (((((Reads.litAt _ 3 1 3 (upL 3) rfl (by decide) _ (by simp)).alloc _).alloc _).alloc _).alloc _).alloc _
          · exact ((((Reads.litAt _ 3 1 9 (upL 9) rfl (by decide) _ (by simp)).alloc _).alloc _).alloc _).alloc _
          · exact (((Reads.litAt _ 3 1 4 (upL 4) rfl (by decide) _ (by simp)).alloc _).alloc _).alloc _
          · exact ((Reads.litAt _ 3 1 3 (upL 3) rfl (by decide) _ (by simp)).alloc _).alloc _
          · exact (Reads.litAt _ 3 1 8 (upL 8) rfl (by decide) _ (by simp)).alloc _
          · exact Reads.litAt _ 24 1 7 [.slice (some ⟨w0.heap.size, 0, none⟩) 14 14, .slice (some ⟨w0.heap.size + 1, 0, none⟩) 5 5, .slice (some ⟨w0.heap.size + 1 + 1, 0, none⟩) 3 3, .slice (some ⟨w0.heap.size + 1 + 1 + 1, 0, none⟩) 9 9, .slice (some ⟨w0.heap.size + 1 + 1 + 1 + 1, 0, none⟩) 4 4, .slice (some ⟨w0.heap.size + 1 + 1 + 1 + 1 + 1, 0, none⟩) 3 3, .slice (some ⟨w0.heap.size + 1 + 1 + 1 + 1 + 1 + 1, 0, none⟩) 8 8] rfl (by decide) _ (by simp)
        · exact hbel.trans (Below.mono (B := w0.heap.size) (by go_grown) (by have := HS.out; omega))
      case round =>
        obtain ⟨k, hk, rfl, h7, hbel⟩ := hrel
        have hsz := hbel.size
        by_cases hlt : k < 7
        · match k, hlt with
          | 0, _ =>
            have hc := h7.r8.cell0 (i := 0) rfl
            have H7 := Lib.hid h7
            clear h7
            go_wp2_with fail
            rename_i wr0
            go_loop [37] (fun i => ∃ j : Nat, j ≤ 14 ∧ i = .int .i64 j) (fun i => 14 - (intOf i).toNat)
            case atStart => exact ⟨0, by omega, rfl⟩
            case round =>
              obtain ⟨j, hj, rfl⟩ := hrel
              by_cases hlj : j < 14
              · have hc2 := H7.out.r1.cell0 (up_get 14 j hlj)
                go_wp2_with fail
                go_round
                case rel => exact ⟨j + 1, by omega, by go_num⟩
                case measure => simp [intOf]; omega
              · obtain rfl : j = 14 := by omega
                go_wp2_with fail
                go_roundw
                case rel => exact ⟨1, by omega, by rfl, H7.out, hbel⟩
                case measure => simp [intOf]
          | 1, _ =>
            have hc := h7.r8.cell0 (i := 1) rfl
            have H7 := Lib.hid h7
            clear h7
            go_wp2_with fail
            rename_i wr0
            go_loop [37] (fun i => ∃ j : Nat, j ≤ 5 ∧ i = .int .i64 j) (fun i => 5 - (intOf i).toNat)
            case atStart => exact ⟨0, by omega, rfl⟩
            case round =>
              obtain ⟨j, hj, rfl⟩ := hrel
              by_cases hlj : j < 5
              · have hc2 := H7.out.r2.cell0 (up_get 5 j hlj)
                go_wp2_with fail
                go_round
                case rel => exact ⟨j + 1, by omega, by go_num⟩
                case measure => simp [intOf]; omega
              · obtain rfl : j = 5 := by omega
                go_wp2_with fail
                go_roundw
                case rel => exact ⟨2, by omega, by rfl, H7.out, hbel⟩
                case measure => simp [intOf]
          | 2, _ =>
            have hc := h7.r8.cell0 (i := 2) rfl
            have H7 := Lib.hid h7
            clear h7
            go_wp2_with fail
            rename_i wr0
            go_loop [37] (fun i => ∃ j : Nat, j ≤ 3 ∧ i = .int .i64 j) (fun i => 3 - (intOf i).toNat)
            case atStart => exact ⟨0, by omega, rfl⟩
            case round =>
              obtain ⟨j, hj, rfl⟩ := hrel
              by_cases hlj : j < 3
              · have hc2 := H7.out.r3.cell0 (up_get 3 j hlj)
                go_wp2_with fail
                go_round
                case rel => exact ⟨j + 1, by omega, by go_num⟩
                case measure => simp [intOf]; omega
              · obtain rfl : j = 3 := by omega
                go_wp2_with fail
                go_roundw
                case rel => exact ⟨3, by omega, by rfl, H7.out, hbel⟩
                case measure => simp [intOf]
          | 3, _ =>
            have hc := h7.r8.cell0 (i := 3) rfl
            have H7 := Lib.hid h7
            clear h7
            go_wp2_with fail
            rename_i wr0
            go_loop [37] (fun i => ∃ j : Nat, j ≤ 9 ∧ i = .int .i64 j) (fun i => 9 - (intOf i).toNat)
            case atStart => exact ⟨0, by omega, rfl⟩
            case round =>
              obtain ⟨j, hj, rfl⟩ := hrel
              by_cases hlj : j < 9
              · have hc2 := H7.out.r4.cell0 (up_get 9 j hlj)
                go_wp2_with fail
                go_round
                case rel => exact ⟨j + 1, by omega, by go_num⟩
                case measure => simp [intOf]; omega
              · obtain rfl : j = 9 := by omega
                go_wp2_with fail
                go_roundw
                case rel => exact ⟨4, by omega, by rfl, H7.out, hbel⟩
                case measure => simp [intOf]
          | 4, _ =>
            have hc := h7.r8.cell0 (i := 4) rfl
            have H7 := Lib.hid h7
            clear h7
            go_wp2_with fail
            rename_i wr0
            go_loop [37] (fun i => ∃ j : Nat, j ≤ 4 ∧ i = .int .i64 j) (fun i => 4 - (intOf i).toNat)
            case atStart => exact ⟨0, by omega, rfl⟩
            case round =>
              obtain ⟨j, hj, rfl⟩ := hrel
              by_cases hlj : j < 4
              · have hc2 := H7.out.r5.cell0 (up_get 4 j hlj)
                go_wp2_with fail
                go_round
                case rel => exact ⟨j + 1, by omega, by go_num⟩
                case measure => simp [intOf]; omega
              · obtain rfl : j = 4 := by omega
                go_wp2_with fail
                go_roundw
                case rel => exact ⟨5, by omega, by rfl, H7.out, hbel⟩
                case measure => simp [intOf]
          | 5, _ =>
            have hc := h7.r8.cell0 (i := 5) rfl
            have H7 := Lib.hid h7
            clear h7
            go_wp2_with fail
            rename_i wr0
            go_loop [37] (fun i => ∃ j : Nat, j ≤ 3 ∧ i = .int .i64 j) (fun i => 3 - (intOf i).toNat)
            case atStart => exact ⟨0, by omega, rfl⟩
            case round =>
              obtain ⟨j, hj, rfl⟩ := hrel
              by_cases hlj : j < 3
              · have hc2 := H7.out.r6.cell0 (up_get 3 j hlj)
                go_wp2_with fail
                go_round
                case rel => exact ⟨j + 1, by omega, by go_num⟩
                case measure => simp [intOf]; omega
              · obtain rfl : j = 3 := by omega
                go_wp2_with fail
                go_roundw
                case rel => exact ⟨6, by omega, by rfl, H7.out, hbel⟩
                case measure => simp [intOf]
          | 6, _ =>
            have hc := h7.r8.cell0 (i := 6) rfl
            have H7 := Lib.hid h7
            clear h7
            go_wp2_with fail
            rename_i wr0
            go_loop [37] (fun i => ∃ j : Nat, j ≤ 8 ∧ i = .int .i64 j) (fun i => 8 - (intOf i).toNat)
            case atStart => exact ⟨0, by omega, rfl⟩
            case round =>
              obtain ⟨j, hj, rfl⟩ := hrel
              by_cases hlj : j < 8
              · have hc2 := H7.out.r7.cell0 (up_get 8 j hlj)
                go_wp2_with fail
                go_round
                case rel => exact ⟨j + 1, by omega, by go_num⟩
                case measure => simp [intOf]; omega
              · obtain rfl : j = 8 := by omega
                go_wp2_with fail
                go_roundw
                case rel => exact ⟨7, by omega, by rfl, H7.out, hbel⟩
                case measure => simp [intOf]
        · obtain rfl : k = 7 := by omega
          clear h7
          go_wp2_with fail
          refine (eqInts_same _ _ packetsL _ ?_ ?_).mono ?_
          · exact ((((Reads.litAt _ 3 1 9 (packetsL.map (Value.int .i64)) rfl (by decide) _ (by simp)).alloc _).alloc _).alloc _).alloc _
          · exact Reads.litAt _ 3 1 9 (packetsL.map (Value.int .i64)) rfl (by decide) _ (by simp)
          rintro e w1 ⟨rfl, hb1⟩
          have r2 : Reads w1 1 (.slice (some ⟨wr.heap.size + 1, 0, none⟩) 7 7) 7 (codesL.map (Value.int .i64)) := by
            refine Reads.below ?_ hb1 (Nat.le_refl _)
            exact (((Reads.litAt _ 3 1 7 (codesL.map (Value.int .i64)) rfl (by decide) _ (by simp)).alloc _).alloc _).alloc _
          have r3 : Reads w1 1 (.slice (some ⟨wr.heap.size + 1 + 1, 0, none⟩) 8 8) 8 (statesL.map (Value.int .i64)) := by
            refine Reads.below ?_ hb1 (Nat.le_refl _)
            exact ((Reads.litAt _ 3 1 8 (statesL.map (Value.int .i64)) rfl (by decide) _ (by simp)).alloc _).alloc _
          have r4 : Reads w1 1 (.slice (some ⟨wr.heap.size + 1 + 1 + 1, 0, none⟩) 38 38) 38 (limitsL.map (Value.int .i64)) := by
            refine Reads.below ?_ hb1 (Nat.le_refl _)
            exact (Reads.litAt _ 3 1 38 (limitsL.map (Value.int .i64)) rfl (by decide) _ (by simp)).alloc _
          have b1 : Below w.heap.size w w1 := (hbel.trans (Below.mono (B := wr.heap.size) (by go_grown) hsz)).trans (hb1.mono (by simp; omega))
          have z1 := b1.size
          clear hb1 hbel
          have R2 := Lib.hid r2
          have R3 := Lib.hid r3
          have R4 := Lib.hid r4
          clear r2 r3 r4
          go_wp2_with fail
          refine (eqInts_same _ _ codesL _ ?_ ?_).mono ?_
          · exact R2.out.alloc _
          · exact Reads.litAt _ 3 1 7 (codesL.map (Value.int .i64)) rfl (by decide) _ (by simp)
          rintro e w2 ⟨rfl, hb2⟩
          have r3 := (R3.out.alloc _).below hb2 (Nat.le_refl _)
          have r4 := (R4.out.alloc _).below hb2 (Nat.le_refl _)
          have b2 : Below w.heap.size w w2 := (b1.alloc z1 _).trans (hb2.mono (by simp; omega))
          have z2 := b2.size
          clear hb2 b1 z1
          have R3 := Lib.hid r3
          have R4 := Lib.hid r4
          clear r3 r4
          go_wp2_with fail
          refine (eqInts_same _ _ statesL _ ?_ ?_).mono ?_
          · exact R3.out.alloc _
          · exact Reads.litAt _ 3 1 8 (statesL.map (Value.int .i64)) rfl (by decide) _ (by simp)
          rintro e w3 ⟨rfl, hb3⟩
          have r4 := (R4.out.alloc _).below hb3 (Nat.le_refl _)
          have b3 : Below w.heap.size w w3 := (b2.alloc z2 _).trans (hb3.mono (by simp; omega))
          have z3 := b3.size
          clear hb3 b2 z2
          have R4 := Lib.hid r4
          clear r4
          go_wp2_with fail
          refine (eqInts_same _ _ limitsL _ ?_ ?_).mono ?_
          · exact R4.out.alloc _
          · exact Reads.litAt _ 3 1 38 (limitsL.map (Value.int .i64)) rfl (by decide) _ (by simp)
          rintro e w4 ⟨rfl, hb4⟩
          have b4 : Below w.heap.size w w4 := (b3.alloc z3 _).trans (hb4.mono (by simp; omega))
          clear hb4 b3 z3
          go_wp2_with fail
          go_ret
          exact ⟨rfl, b4⟩
end Go.Proofs.Ytglkfgfnnhbjeaa
