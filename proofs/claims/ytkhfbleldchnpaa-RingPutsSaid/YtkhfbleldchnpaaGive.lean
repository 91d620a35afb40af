/- Contracts: the closure of Give, slices.IndexFunc, slices.Clone, slices.Delete at spans. -/
import Derived.Test.YtkhfbleldchnpaaArena
import Derived.Lib.SliceRun
import Derived.StillTailTactics
namespace Go.Proofs.Ytkhfbleldchnpaa
open Go.RowKit
set_option linter.unusedVariables false
set_option maxRecDepth 100000

set_option maxHeartbeats 400000 in
theorem giveF_any (x y at' : Int) (b : Nat) (w : World) (hb : b < w.heap.size) (hc : w.cell? ⟨b, 0, none⟩ = some (.int .i64 at')) :
    Calls Try.prog 69 #[.agg #[.int .i64 x, .int .i64 y], .pointer (some ⟨b, 0, none⟩)] w fun e w' => e = .returned (.bool (x == at')) ∧ Below w.heap.size w w' := by
  go_enter Try.func69, Try.ntmps69
  go_wp2
  go_ret
  exact ⟨rfl, (Below.refl _ _).alloc (Nat.le_refl _) _⟩
/-- the first span at a place -/
def idxAt (at' : Int) : List (Int × Int) → Nat
  | [] => 0
  | p :: t => if p.1 = at' then 0 else idxAt at' t + 1
theorem idxAt_le (at' : Int) : ∀ l, idxAt at' l ≤ l.length
  | [] => Nat.le_refl _
  | p :: t => by
    have := idxAt_le at' t
    unfold idxAt
    split
    · simp
    · simp; omega
theorem idxAt_spec (at' : Int) : ∀ (l : List (Int × Int)) (k : Nat) (h : k < l.length), (∀ j (hj : j < k), (l[j]'(by omega)).1 ≠ at') → ((l[k].1 = at' → idxAt at' l = k) ∧ (l[k].1 ≠ at' → k + 1 ≤ idxAt at' l))
  | p :: t, 0, h, _ => by
    constructor
    · intro e
      unfold idxAt
      exact if_pos e
    · intro e
      unfold idxAt
      rw [if_neg (show ¬ p.1 = at' from e)]
      omega
  | p :: t, k + 1, h, hj => by
    have h0 : p.1 ≠ at' := hj 0 (by omega)
    have ih := idxAt_spec at' t k (by simpa using h) (fun j hjk => hj (j + 1) (by omega))
    constructor
    · intro e
      unfold idxAt
      rw [if_neg h0, ih.1 e]
    · intro e
      unfold idxAt
      rw [if_neg h0]
      have := ih.2 e
      omega
def idxV (at' : Int) (l : List (Int × Int)) : Int := if idxAt at' l < l.length then idxAt at' l else -1
theorem idxAt_all (at' : Int) : ∀ (l : List (Int × Int)), (∀ j (hj : j < l.length), l[j].1 ≠ at') → idxAt at' l = l.length
  | [], _ => rfl
  | p :: t, h => by
    unfold idxAt
    rw [if_neg (show ¬ p.1 = at' from h 0 (by simp)), idxAt_all at' t (fun j hj => h (j + 1) (by simpa using hj))]
    rfl
set_option maxHeartbeats 1000000 in
theorem indexF_any (at' : Int) (a : Option Addr) (cap : Nat) (l : List (Int × Int)) (bp : Nat) (w : World) (hr : Reads w 2 (.slice a l.length cap) l.length (pairs l)) (hb : bp < w.heap.size) (hc : w.cell? ⟨bp, 0, none⟩ = some (.int .i64 at')) :
    Calls Try.prog 68 #[.slice a l.length cap, .func (.func 69) #[] #[.pointer (some ⟨bp, 0, none⟩)]] w fun e w' => e = .returned (.int .i64 (idxV at' l)) ∧ Below w.heap.size w w' := by
  obtain ⟨a', cap', e, hcm1, hcm2⟩ := hr.pairs_open
  simp only [Value.slice.injEq, true_and] at e
  obtain ⟨rfl, rfl⟩ := e
  unfold maxLen at hcm2
  have hlen : l.length ≤ 9223372036854775807 := by omega
  have HR := Lib.hid hr
  have HG := Lib.hid giveF_any
  clear hr hcm1 hcm2
  go_enter Try.func68, Try.ntmps68
  go_wp2_with fail
  go_loopw [8] (fun i wr => ∃ k : Nat, k ≤ l.length ∧ i = .int .i64 k ∧ Hid (∀ j (hj : j < k) (h2 : j < l.length), l[j].1 ≠ at') ∧ Below w.heap.size w wr) (fun i _ => l.length - (intOf i).toNat)
  case atStart => exact ⟨0, Nat.zero_le _, rfl, Lib.hid (fun j hj => absurd hj (Nat.not_lt_zero _)), Below.refl _ _⟩
  case round =>
    obtain ⟨k, hk, rfl, HN, hbel⟩ := hrel
    have hsz := hbel.size
    have hbz : bp < wr.heap.size := by omega
    have hc2 : wr.cell? ⟨bp, 0, none⟩ = some (.int .i64 at') := (hbel.cell (p := ⟨bp, 0, none⟩) hb).trans hc
    by_cases hlt : k < l.length
    · obtain ⟨b, off, rfl, hb2, hc3, hc4⟩ := Reads.pair HR.out k hlt
      have d1 : wr.cell? ⟨b, off + k * 2, none⟩ = some (.int .i64 l[k].1) := (hbel.cell (p := ⟨b, off + k * 2, none⟩) hb2).trans hc3
      have d2 : wr.cell? ⟨b, off + k * 2 + 1, none⟩ = some (.int .i64 l[k].2) := (hbel.cell (p := ⟨b, off + k * 2 + 1, none⟩) hb2).trans hc4
      clear hc3 hc4
      have hsp := idxAt_spec at' l k hlt (fun j hj => HN.out j hj (by omega))
      have HS := Lib.hid hsp
      have HV : Hid (∀ j (hj : j < k + 1) (h2 : j < l.length), j ≠ k → l[j].1 ≠ at') := Lib.hid (fun j hj h2 hne => HN.out j (by omega) h2)
      have HK : Hid (∀ j (h2 : j < l.length), j = k → l[j].1 = l[k].1) := Lib.hid (fun j h2 e => by subst e; rfl)
      clear hsp
      generalize l[k] = p at *
      obtain ⟨x, y⟩ := p
      go_wp2_with fail
      refine (HG.out x y at' bp _ hbz hc2).mono ?_
      rintro r w1 ⟨rfl, hb1⟩
      have hB1 : Below w.heap.size w w1 := hbel.trans (hb1.mono hsz)
      clear hb1
      by_cases hx : x = at'
      · have hxx : (x == at') = true := by simpa using hx
        have hi : idxAt at' l = k := HS.out.1 hx
        have HI : Hid (idxV at' l = k) := by
          have : idxV at' l = (k : Int) := by unfold idxV; rw [hi, if_pos hlt]
          exact Lib.hid this
        clear hi hx
        go_wp2_with fail
        go_ret
        exact ⟨ret_i HI.out.symm, hB1⟩
      · have hxx : (x == at') = false := by simpa using hx
        have HX := Lib.hid hx
        clear hx
        go_wp2_with fail
        go_roundw
        case rel =>
          refine ⟨k + 1, by omega, by go_num, Lib.hid (fun j hj h2 => ?_), hB1⟩
          by_cases e : j = k
          · rw [HK.out j h2 e]; exact HX.out
          · exact HV.out j hj h2 e
        case measure => simp [intOf]; omega
    · obtain rfl : k = l.length := by omega
      have hi : idxV at' l = -1 := by
        unfold idxV
        rw [idxAt_all at' l (fun j hj => HN.out j hj hj), if_neg (Nat.lt_irrefl _)]
      have HI := Lib.hid hi
      clear hi
      go_wp2_with fail
      go_ret
      exact ⟨ret_i HI.out.symm, hbel⟩
theorem info_span : (Try.prog.info? 127).map (fun i => (i.zero, i.size, i.bytes)) = some (some (.agg #[.int .i64 0, .int .i64 0]), 2, 16) := by kernel_rfl
theorem pairs_one (l : List (Int × Int)) : ∀ u ∈ pairs l, u.oneCell' = true := by
  intro u hu
  simp only [pairs, List.mem_flatMap] at hu
  obtain ⟨p, _, hp⟩ := hu
  simp at hp
  rcases hp with rfl | rfl <;> rfl
/-- an append of spans -/
theorem appR_span {w : World} {ops : Array Oper} {rest : List Oper} {o : Oper} {a : Act} {Q : Exit → Act → World → Prop} (hgd : o.guard = none) (s x : Operand)
    (ho : o.op = .call { callee := .builtin .append, args := #[s, x], argTypes := #[44, 44] })
    (B : Nat) (v : Value) (n : Nat) (xs : List Value) (hs : a.eval s = v) (hown : w.ownsRow B 127 2 v n xs) (xv : Value) (m : Nat) (us : List (Int × Int)) (hx : a.eval x = xv) (hr : Reads w 2 xv m (pairs us))
    (hnm : n + m ≤ 17179869184) (hB : B ≤ w.heap.size)
    (h : ∀ v' w', w'.ownsRow B 127 2 v' (n + m) (xs ++ pairs us) → w.grownBy w' v.ownBlock → (v'.ownBlock = v.ownBlock ∨ ∃ g, v'.ownBlock = some g ∧ w.heap.size ≤ g) → Below B w w' → wpList Try.prog ops Q rest (a.put o.dst v') w') :
    wpList Try.prog ops Q (o :: rest) a w :=
  wpList_appR hgd s x _ ho B _ _ 2 16 Try.underlying44 info_span rfl (by decide) (by decide) v n xs hs hown xv m _ hx hr (pairs_one us) hnm hB h
set_option maxHeartbeats 1000000 in
theorem cloneS_any (a : Option Addr) (cap : Nat) (l : List (Int × Int)) (w : World) (hr : Reads w 2 (.slice a l.length cap) l.length (pairs l)) (hl64 : l.length ≤ 1000000) :
    Calls Try.prog 71 #[.slice a l.length cap] w fun e w' => ∃ v, e = .returned v ∧ w'.ownsRow w.heap.size 127 2 v l.length (pairs l) ∧ Below w.heap.size w w' := by
  cases a with
  | none =>
    have hq : ∀ w : World, (binOp .eql 44 (.slice none 0 cap) (.slice none 0 0)).run Try.prog w = .ok (.bool true) w := fun w => Lib.run_eql_slice_nil w _ _ _ _ _ _ _ Try.underlying44
    have hz : l = [] := by
      obtain ⟨a', cap', h2, h1, h3, h4, h5⟩ := hr.open
      cases l with
      | nil => rfl
      | cons p t =>
        obtain ⟨b, off, e, _⟩ := h5 (by simp)
        subst e
        simp at h2
    subst hz
    go_enter Try.func71, Try.ntmps71
    go_wp2_with fail
    go_ret
    exact ⟨_, rfl, World.ownsRow_nil _ _ _ _, Below.refl _ _⟩
  | some ad =>
    have HR := Lib.hid hr
    have hq : ∀ w : World, (binOp .eql 44 (.slice (some ad) l.length cap) (.slice none 0 0)).run Try.prog w = .ok (.bool false) w := fun w => Lib.run_eql_slice_nil w _ _ _ _ _ _ _ Try.underlying44
    clear hr
    go_enter Try.func71, Try.ntmps71
    have hown0 : (w.alloc (.cells #[] 127)).ownsRow w.heap.size 127 2 (.slice (some ⟨w.heap.size, 0, none⟩) 0 0) 0 [] := World.ownsRow_lit w #[] 0 (Nat.le_refl _) (Nat.zero_le _) rfl
    go_wp2_with (at_builtin; refine appR_span rfl _ _ rfl w.heap.size _ 0 _ rfl hown0 _ l.length l rfl (HR.out.alloc _) (by omega) (by simp) ?_; intro v2 w2 hown2 _ _ hb2)
    go_ret
    refine ⟨_, rfl, ?_, ((Below.refl _ _).alloc (Nat.le_refl _) _).trans hb2⟩
    simpa using hown2
/-- what a row of spans holds where a cell is still there -/
theorem own_some {w : World} {B : Nat} {e : TypeId} {size g n cap : Nat} {xs : List Value} (h : w.ownsRow B e size (.slice (some ⟨g, 0, none⟩) n cap) n xs) (j : Nat) (hj : j < cap * size) : ∃ u, w.cell? ⟨g, j, none⟩ = some u := by
  rcases h.2 with ⟨h', _⟩ | ⟨g', cap', cur, h', _, hg, _, _, hcs, _⟩
  · simp at h'
  · simp only [Value.slice.injEq, Option.some.injEq, Addr.mk.injEq, and_true, true_and] at h'
    obtain ⟨rfl, rfl⟩ := h'
    rw [cell_of_row w g j cur e (0, 0) hg]
    exact ⟨_, Array.getElem?_eq_getElem (by omega)⟩
/-- a row, seen up to an earlier end -/
theorem own_take {w : World} {B : Nat} {e : TypeId} {size g n cap : Nat} {xs : List Value} (h : w.ownsRow B e size (.slice (some ⟨g, 0, none⟩) n cap) n xs) (k : Nat) (hk : k ≤ n) :
    w.ownsRow B e size (.slice (some ⟨g, 0, none⟩) k cap) k (xs.take (k * size)) := by
  have hle : k * size ≤ n * size := Nat.mul_le_mul_right _ hk
  refine ⟨by rw [List.length_take, h.1]; omega, ?_⟩
  rcases h.2 with ⟨h', _⟩ | ⟨g', cap', cur, h', hB, hg, hnc, hm, hcs, htake⟩
  · simp at h'
  · simp only [Value.slice.injEq, Option.some.injEq, Addr.mk.injEq, and_true, true_and] at h'
    obtain ⟨rfl, rfl⟩ := h'
    refine .inr ⟨g, cap, cur, rfl, hB, hg, by omega, hm, hcs, ?_⟩
    rw [← htake, List.take_take, Nat.min_eq_left hle]
theorem pairs_take (l : List (Int × Int)) : ∀ k, (pairs l).take (k * 2) = pairs (l.take k) := by
  induction l with
  | nil => intro k; simp [pairs]
  | cons p l ih =>
    intro k
    cases k with
    | zero => simp [pairs]
    | succ k =>
      have e : pairs (p :: l) = .int .i64 p.1 :: .int .i64 p.2 :: pairs l := rfl
      have e2 : pairs ((p :: l).take (k + 1)) = .int .i64 p.1 :: .int .i64 p.2 :: pairs (l.take k) := rfl
      rw [e, e2, show (k + 1) * 2 = k * 2 + 2 by omega]
      simp [ih k]
theorem pairs_drop (l : List (Int × Int)) : ∀ k, (pairs l).drop (k * 2) = pairs (l.drop k) := by
  induction l with
  | nil => intro k; simp [pairs]
  | cons p l ih =>
    intro k
    cases k with
    | zero => simp
    | succ k =>
      have e : pairs (p :: l) = .int .i64 p.1 :: .int .i64 p.2 :: pairs l := rfl
      rw [e, show (k + 1) * 2 = k * 2 + 2 by omega]
      simp [ih k]
theorem pairs_append (l m : List (Int × Int)) : pairs (l ++ m) = pairs l ++ pairs m := by simp [pairs]
theorem erase_parts (l : List (Int × Int)) (i : Nat) : l.eraseIdx i = l.take i ++ l.drop (i + 1) := List.eraseIdx_eq_take_drop_succ l i
theorem clearS (w : World) (g o c : Nat) (u1 u2 : Value) (h1 : w.cell? ⟨g, o, none⟩ = some u1) (h2 : w.cell? ⟨g, o + 1, none⟩ = some u2) (f1 : w.frozen? ⟨g, o, none⟩ = false) (f2 : w.frozen? ⟨g, o + 1, none⟩ = false) :
    (Builtin.clear_ #[44] 0 #[.slice (some ⟨g, o, none⟩) 1 c]).run Try.prog w = .ok (.tuple #[]) ((w.setCell ⟨g, o, none⟩ (.int .i64 0)).setCell ⟨g, o + 1, none⟩ (.int .i64 0)) := by
  have hst := run_storeCells_cells (P := Try.prog) g o [.int .i64 0, .int .i64 0] 0 w (by
    intro j hj
    match j, hj with
    | 0, _ => simp [h1]
    | 1, _ => simp [h2]) (by
    intro j hj
    match j, hj with
    | 0, _ => simpa using f1
    | 1, _ => simpa using f2) (by intro v hv; simp at hv; subst hv; rfl)
  have hzv : (zeroValue 127).run Try.prog w = .ok (.agg #[.int .i64 0, .int .i64 0]) w := by kernel_rfl
  have hzc : (Builtin.zeroCells (Value.agg #[.int .i64 0, .int .i64 0]).cells 1).toList = [.int .i64 0, .int .i64 0] := by kernel_rfl
  simp only [Nat.add_zero] at hst
  simp only [Builtin.clear_, Sem.run_bind, run_underlying Try.underlying44, Result.andThen_ok]
  simp [run_underlying Try.underlying44, hzv, hzc, hst, World.setCells, Result.andThen]
set_option maxHeartbeats 1000000 in
theorem deleteS_any (g cap : Nat) (l : List (Int × Int)) (i m : Nat) (hlen : l.length = i + m + 1) (B : Nat) (w : World) (hBw : B ≤ w.heap.size) (hcap : l.length ≤ 1000000) (hown : w.ownsRow B 127 2 (.slice (some ⟨g, 0, none⟩) (i + m + 1) cap) (i + m + 1) (pairs l)) :
    Calls Try.prog 70 #[.slice (some ⟨g, 0, none⟩) (i + m + 1) cap, .int .i64 i, .int .i64 ((i : Int) + 1)] w fun e w' => e = .returned (.slice (some ⟨g, 0, none⟩) (i + m) cap) ∧ w'.ownsRow B 127 2 (.slice (some ⟨g, 0, none⟩) (i + m) cap) (i + m) (pairs (l.eraseIdx i)) ∧ Below B w w' := by
  have hc := own_cap hown
  have hm2 := hc.2.1
  unfold maxLen at hm2
  have hownT : w.drew.ownsRow B 127 2 (.slice (some ⟨g, 0, none⟩) i cap) i (pairs (l.take i)) := by
    have h := own_take (own_below hown ((Below.refl _ _).drew)) i (by omega)
    rwa [pairs_take] at h
  obtain ⟨A, hA, hcell⟩ : ∃ A : Addr, (if cap = i + 1 then some (⟨g, 0, none⟩ : Addr) else some (⟨g, (i + 1) * 2, none⟩ : Addr)) = some A ∧ (∀ j u, (pairs (l.drop (i + 1)))[j]? = some u → w.drew.cell? (A.add j) = some u) := by
    by_cases h : cap = i + 1
    · refine ⟨⟨g, 0, none⟩, by simp [h], fun j u hu => ?_⟩
      have h0 : l.drop (i + 1) = [] := List.drop_eq_nil_of_le (by omega)
      rw [h0] at hu
      simp [pairs] at hu
    · refine ⟨⟨g, (i + 1) * 2, none⟩, by simp [h], fun j u hj => ?_⟩
      rw [← pairs_drop, List.getElem?_drop] at hj
      have hlt : (i + 1) * 2 + j < (i + m + 1) * 2 := by
        rcases List.getElem?_eq_some_iff.1 hj with ⟨h, _⟩
        rw [pairs_length] at h
        omega
      rw [addr_add]
      show w.cell? _ = _
      rw [World.ownsRow.cellAt hown _ hlt]
      exact hj
  have hz : ∀ w : World, (sizeOf (Try.prog.elem 44)).run Try.prog w = .ok 2 w := fun w => by kernel_rfl
  have hs1 : ∀ w : World, (Instr.slice 44 (.slice (some ⟨g, 0, none⟩) (i + m + 1) cap) none (some (.int .i64 (i : Int))) none).run Try.prog w = .ok (.slice (some ⟨g, 0, none⟩) i cap) w := by
    intro w
    rw [run_slice_h w _ _ _ _ (by kernel_rfl) .i64 (i : Int) (by omega) (by omega), hz]
    simp [Result.andThen, sliced, addr_add]
  have hs2 : ∀ w : World, (Instr.slice 44 (.slice (some ⟨g, 0, none⟩) (i + m + 1) cap) (some (.int .i64 ((i : Int) + 1))) none none).run Try.prog w = .ok (.slice (some A) m (cap - (i + 1))) w := by
    intro w
    have e : ((i : Int) + 1).toNat = i + 1 := by omega
    have e2 : i + m + 1 - (i + 1) = m := by omega
    rw [run_slice_l w _ _ _ _ (by kernel_rfl) .i64 ((i : Int) + 1) (by omega) (by omega), hz, ← hA]
    simp only [Result.andThen, sliced, e, e2, Option.map_some, addr_add, Nat.zero_add]
  have hs3 : ∀ w : World, (Instr.slice 44 (.slice (some ⟨g, 0, none⟩) (i + m) cap) (some (.int .i64 ((i : Int) + (m : Int)))) (some (.int .i64 ((i : Int) + (m : Int) + 1))) none).run Try.prog w = .ok (.slice (some ⟨g, (i + m) * 2, none⟩) 1 (cap - (i + m))) w := by
    intro w
    have e : ((i : Int) + (m : Int)).toNat = i + m := by omega
    have e2 : ((i : Int) + (m : Int) + 1).toNat = i + m + 1 := by omega
    rw [run_slice_lh w _ _ _ _ (by kernel_rfl) .i64 .i64 _ _ (by omega) (by omega) (by omega), hz]
    simp only [Result.andThen, sliced, e, e2, Option.map_some, addr_add, Nat.zero_add]
    rw [if_neg (by omega), show i + m + 1 - (i + m) = 1 by omega]
  have hlen2 : (pairs (l.drop (i + 1))).length = m * 2 := by rw [pairs_length, List.length_drop]; omega
  obtain ⟨inf, hinf, hsz2⟩ : ∃ inf, Try.prog.info? 127 = some inf ∧ inf.size = 2 := by
    obtain ⟨j, h1, h2, h3, h4⟩ := info_parts info_span
    exact ⟨j, h1, h3⟩
  have hne : ((i : Int) == (i : Int) + 1) = false := by simp <;> omega
  have hbd : (0 : Int) ≤ i ∧ (i : Int) ≤ (i : Int) + 1 ∧ (i : Int) + 1 ≤ (i : Int) + m + 1 ∧ (i : Int) + m + 1 ≤ cap := by omega
  have HT := Lib.hid hownT
  have HC := Lib.hid hcell
  have HL := Lib.hid hlen2
  have HN := Lib.hid hlen
  have HI := Lib.hid hinf
  have HO := Lib.hid hown
  clear hownT hcell hlen2 hlen hinf hown hA hz
  go_enter Try.func70, Try.ntmps70
  go_wp2_with fail
  go_still_tail 6, (by kernel_rfl)
  change wpList _ _ _ _ _ w.drew
  clear hs1 hs2
  go_wp2_with (at_builtin; refine wpList_append_fits _ rfl _ _ _ rfl B 127 inf 2 Try.underlying44 HI.out hsz2 g i cap _ rfl HT.out A m (cap - (i + 1)) _ rfl HL.out HC.out (pairs_one _) (by omega) ?_; intro w1 hown1 hg1; have hf1 := hown1.frozenAt ((i + m) * 2); have hf2 := hown1.frozenAt ((i + m) * 2 + 1); obtain ⟨u1, hu1⟩ := own_some hown1 ((i + m) * 2) (by omega); obtain ⟨u2, hu2⟩ := own_some hown1 ((i + m) * 2 + 1) (by omega); have hclr := clearS w1 g ((i + m) * 2) (cap - (i + m)) u1 u2 hu1 hu2 hf1 hf2)
  go_ret
  have hl0 : (pairs (l.take i) ++ pairs (l.drop (i + 1))).length = (i + m) * 2 := hown1.1
  have s1 := (hown1.stored ((i + m) * 2) (.int .i64 0)).1
  rw [List.set_eq_of_length_le (by omega)] at s1
  have s2 := (s1.stored ((i + m) * 2 + 1) (.int .i64 0)).1
  rw [List.set_eq_of_length_le (by omega)] at s2
  refine ⟨rfl, ?_, ?_⟩
  · rw [erase_parts, pairs_append]
    exact s2
  · have hb1 : Below B w w1 := ((Below.refl B w).drew).grown hg1 hBw (fun k hk => by simp at hk; omega)
    exact (hb1.setCell hc.2.2.1 _).setCell hc.2.2.1 _
end Go.Proofs.Ytkhfbleldchnpaa
