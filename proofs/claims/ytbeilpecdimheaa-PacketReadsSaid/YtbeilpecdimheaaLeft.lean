/- Contract of plugref.left: long division of bits. -/
import Derived.Test.YtbeilpecdimheaaBits
namespace Go.Proofs.Ytbeilpecdimheaa
open Go.RowKit
set_option linter.unusedVariables false

def xorAt (b : List Bool) (i : Nat) (x : Bool) : List Bool := b.set i (b.getD i false != x)
def xorRun (b : List Bool) (off : Nat) : List Bool → List Bool
  | [] => b
  | p :: ps => xorRun (xorAt b off p) (off + 1) ps
def leftGo (ps b : List Bool) : Nat → List Bool
  | 0 => b
  | i + 1 => if (leftGo ps b i).getD i false then xorRun (leftGo ps b i) (i + 1) ps else leftGo ps b i
def leftL (bs ss ps : List Bool) : List Bool := (leftGo ps (xorRun (bs ++ List.replicate ps.length false) 0 ss) bs.length).drop bs.length

theorem xorAt_length (b : List Bool) (i : Nat) (x : Bool) : (xorAt b i x).length = b.length := by simp [xorAt]
theorem xorRun_length (ps : List Bool) : ∀ (b : List Bool) (off : Nat), (xorRun b off ps).length = b.length := by
  induction ps with
  | nil => intro b off; rfl
  | cons p ps ih => intro b off; rw [xorRun, ih, xorAt_length]
theorem xorRun_snoc (ps : List Bool) (p : Bool) : ∀ (b : List Bool) (off : Nat), xorRun b off (ps ++ [p]) = xorAt (xorRun b off ps) (off + ps.length) p := by
  induction ps with
  | nil => intro b off; rfl
  | cons q ps ih => intro b off; simp only [List.cons_append, xorRun, ih, List.length_cons]; congr 1; omega
theorem leftGo_length (ps b : List Bool) (i : Nat) : (leftGo ps b i).length = b.length := by
  induction i with
  | zero => rfl
  | succ i ih => rw [leftGo]; split
                 · rw [xorRun_length, ih]
                 · exact ih
theorem take_snocB (ss : List Bool) (k : Nat) (h : k < ss.length) : ss.take (k + 1) = ss.take k ++ [ss.getD k false] := by
  rw [List.take_succ_eq_append_getElem h]; simp [List.getD, h]
theorem xorRun_take (b ss : List Bool) (off k : Nat) (h : k < ss.length) : xorRun b off (ss.take (k + 1)) = xorAt (xorRun b off (ss.take k)) (off + k) (ss.getD k false) := by
  rw [take_snocB ss k h, xorRun_snoc, List.length_take, Nat.min_eq_left (by omega)]
theorem mapB_get (l : List Bool) (k : Nat) (h : k < l.length) : (l.map Value.bool)[k]? = some (.bool (l.getD k false)) := by
  simp [List.getD, h]
theorem mapB_set (l : List Bool) (k : Nat) (x : Bool) : (l.map Value.bool).set k (.bool x) = (l.set k x).map Value.bool := by
  rw [List.map_set]

set_option maxHeartbeats 400000 in
theorem left_any (vb vs vp : Value) (bs ss ps : List Bool) (w : World) (hb : Reads w 1 vb bs.length (bs.map Value.bool)) (hs : Reads w 1 vs ss.length (ss.map Value.bool)) (hp : Reads w 1 vp ps.length (ps.map Value.bool))
    (h0 : 0 < ps.length) (h1 : ss.length ≤ bs.length + ps.length) (h2 : bs.length + ps.length ≤ 8589934592) :
    Calls Try.prog 91 #[vb, vs, vp] w fun e w' =>
      ∃ v, e = .returned v ∧ Reads w' 1 v ps.length ((leftL bs ss ps).map Value.bool) ∧ Below w.heap.size w w' := by
  obtain ⟨ab, kb, rfl, -, hb1, hb2, hb3⟩ := id hb.open
  obtain ⟨as1, ks, rfl, -, hs1, hs2, hs3⟩ := id hs.open
  obtain ⟨ap, kp, rfl, -, hp1, hp2, hp3⟩ := id hp.open
  unfold maxLen at hb2 hs2 hp2
  have Hb3 := Lib.hid hb3
  have Hs3 := Lib.hid hs3
  have Hp3 := Lib.hid hp3
  clear hb3 hs3 hp3
  go_enter Try.func91, Try.ntmps91
  go_wp2_with (at_builtin; refine appR_bool rfl _ _ rfl w.heap.size _ 0 [] rfl (World.ownsRow_nil _ _ _ _) _ bs.length bs rfl hb (by omega) (Nat.le_refl _) ?_; intro v0 w0 hown0 _ _ hbel0)
  simp only [Nat.zero_add, List.nil_append] at hown0
  have hz0 := hbel0.size
  go_loopw [7, 17] (fun v i wr => ∃ k : Nat, k ≤ ps.length ∧ i = .int .i64 k ∧ wr.ownsRow w.heap.size 4 1 v (bs.length + k) ((bs ++ List.replicate k false).map Value.bool) ∧ Below w.heap.size w wr)
    (fun _ i _ => ps.length - (intOf i).toNat)
  case atStart => exact ⟨0, Nat.zero_le _, rfl, by simpa using hown0, hbel0⟩
  case round =>
    obtain ⟨k, hk, rfl, hown, hbel⟩ := hrel
    have hsz := hbel.size
    clear hown0 hbel0 hz0
    by_cases hlt : k < ps.length
    · go_wp2_with (at_builtin; refine app_bool rfl _ _ rfl _ _ _ _ rfl hown _ rfl rfl (by omega) hsz ?_; intro v' w' hown' _ _ hb)
      go_roundw
      case rel =>
        refine ⟨k + 1, by omega, by go_num, ?_, hbel.trans hb⟩
        rw [List.replicate_succ', ← List.append_assoc, List.map_append]
        exact hown'
      case measure => simp [intOf]; omega
    · obtain rfl : k = ps.length := by omega
      obtain ⟨g, cap, rfl, hg1, hg2⟩ := hown.form (by omega)
      go_wp2_with fail
      go_loopw [25] (fun i wr => ∃ k : Nat, k ≤ ss.length ∧ i = .int .i64 k ∧ wr.ownsRow w.heap.size 4 1 (.slice (some ⟨g, 0, none⟩) (bs.length + ps.length) cap) (bs.length + ps.length) ((xorRun (bs ++ List.replicate ps.length false) 0 (ss.take k)).map Value.bool) ∧ Below w.heap.size w wr)
        (fun i _ => ss.length - (intOf i).toNat)
      case atStart => exact ⟨0, Nat.zero_le _, rfl, hown, hbel⟩
      case round =>
        rename_i wr0 _ _
        clear hown hbel hsz
        obtain ⟨k, hk, rfl, hown, hbel⟩ := hrel
        by_cases hlt : k < ss.length
        · obtain ⟨sb, so, rfl, hsb, hsx⟩ := Hs3.out (by omega)
          have hc1 := (hbel.cell (p := ⟨sb, so + k, none⟩) hsb).trans (hsx k _ (mapB_get ss k hlt))
          have hc2 := hown.cellAt k (by omega)
          rw [mapB_get _ k (by rw [xorRun_length]; simp; omega)] at hc2
          have hc3 := hown.frozenAt k
          clear hsx
          generalize hy : (xorRun (bs ++ List.replicate ps.length false) 0 (ss.take k)).getD k false = y at hc2
          generalize hx : ss.getD k false = x at hc1
          have HY := Lib.hid hy
          have HX := Lib.hid hx
          clear hy hx
          go_wp2_with fail
          go_roundw
          case rel =>
            refine ⟨k + 1, by omega, by go_num, ?_, hbel.setCell hg1 _⟩
            rw [xorRun_take _ _ _ _ hlt, xorAt, ← mapB_set, Nat.zero_add, HX.out, HY.out]
            exact (hown.stored k (.bool (y != x))).1
          case measure => simp [intOf]; omega
        · obtain rfl : k = ss.length := by omega
          rw [List.take_length] at hown
          generalize hB : xorRun (bs ++ List.replicate ps.length false) 0 ss = b0 at hown
          have hb0 : b0.length = bs.length + ps.length := by rw [← hB, xorRun_length]; simp
          have HB := Lib.hid hB
          clear hB
          go_wp2_with fail
          go_loopw [42] (fun i wr => ∃ k : Nat, k ≤ bs.length ∧ i = .int .i64 k ∧ wr.ownsRow w.heap.size 4 1 (.slice (some ⟨g, 0, none⟩) (bs.length + ps.length) cap) (bs.length + ps.length) ((leftGo ps b0 k).map Value.bool) ∧ Below w.heap.size w wr)
            (fun i _ => bs.length - (intOf i).toNat)
          case atStart => exact ⟨0, Nat.zero_le _, rfl, hown, hbel⟩
          case round =>
            rename_i wr1 _ _ _
            clear hown hbel
            obtain ⟨k, hk, rfl, hown, hbel⟩ := hrel
            have hc2 := hown.cellAt k
            by_cases hlt : k < bs.length
            · have hc2 := hown.cellAt k (by omega)
              rw [mapB_get _ k (by rw [leftGo_length]; omega)] at hc2
              generalize hL : leftGo ps b0 k = b1 at hown hc2
              have hb1l : b1.length = bs.length + ps.length := by rw [← hL, leftGo_length, hb0]
              have hstep : leftGo ps b0 (k + 1) = if b1.getD k false then xorRun b1 (k + 1) ps else b1 := by rw [leftGo, hL]
              have HL := Lib.hid hstep
              clear hL hstep
              cases hbit : b1.getD k false with
              | false =>
                rw [hbit] at hc2
                have HB := Lib.hid hbit
                clear hbit
                go_wp2_with fail
                go_roundw
                case rel =>
                  refine ⟨k + 1, by omega, by go_num, ?_, hbel⟩
                  rw [HL.out, HB.out]
                  exact hown
                case measure => simp [intOf]; omega
              | true =>
                rw [hbit] at hc2
                have HB := Lib.hid hbit
                clear hbit
                go_wp2_with fail
                rename_i wr2 _ _ _
                go_loopw [51] (fun i wr => ∃ j : Nat, j ≤ ps.length ∧ i = .int .i64 j ∧ wr.ownsRow w.heap.size 4 1 (.slice (some ⟨g, 0, none⟩) (bs.length + ps.length) cap) (bs.length + ps.length) ((xorRun b1 (k + 1) (ps.take j)).map Value.bool) ∧ Below w.heap.size w wr)
                  (fun i _ => ps.length - (intOf i).toNat)
                case atStart => exact ⟨0, Nat.zero_le _, rfl, hown, hbel⟩
                case round =>
                  rename_i wr3 _ _ _ _ _
                  clear hown hbel hc2
                  obtain ⟨j, hj, rfl, hown, hbel⟩ := hrel
                  by_cases hlj : j < ps.length
                  · obtain ⟨sb, so, rfl, hsb, hsx⟩ := Hp3.out (by omega)
                    have hc1 := (hbel.cell (p := ⟨sb, so + j, none⟩) hsb).trans (hsx j _ (mapB_get ps j hlj))
                    have hc2 := hown.cellAt (k + 1 + j) (by omega)
                    rw [mapB_get _ (k + 1 + j) (by rw [xorRun_length]; omega)] at hc2
                    have hc3 := hown.frozenAt (k + 1 + j)
                    clear hsx
                    generalize hy : (xorRun b1 (k + 1) (ps.take j)).getD (k + 1 + j) false = y at hc2
                    generalize hx : ps.getD j false = x at hc1
                    have HY := Lib.hid hy
                    have HX := Lib.hid hx
                    clear hy hx
                    go_wp2_with fail
                    go_roundw
                    case rel =>
                      refine ⟨j + 1, by omega, by go_num, ?_, hbel.setCell hg1 _⟩
                      rw [xorRun_take _ _ _ _ hlj, xorAt, ← mapB_set, HX.out, HY.out]
                      exact (hown.stored (k + 1 + j) (.bool (y != x))).1
                    case measure => simp [intOf]; omega
                  · obtain rfl : j = ps.length := by omega
                    rw [List.take_length] at hown
                    go_wp2_with fail
                    go_roundw
                    case rel =>
                      refine ⟨k + 1, by omega, by go_num, ?_, hbel⟩
                      rw [HL.out, HB.out]
                      exact hown
                    case measure => simp [intOf]; omega
            · obtain rfl : k = bs.length := by omega
              have hcap := own_cap hown
              clear hc2
              go_wp2_with fail
              go_ret
              refine ⟨_, rfl, ?_, hbel⟩
              have hd := Reads.drop hown (k := bs.length) (by omega)
              rw [← List.map_drop, Nat.add_sub_cancel_left, ← HB.out] at hd
              exact hd
end Go.Proofs.Ytbeilpecdimheaa
