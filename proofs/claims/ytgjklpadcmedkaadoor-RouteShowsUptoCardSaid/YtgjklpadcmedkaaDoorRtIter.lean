/- strings.SplitSeq at one byte: the iterator's contract. -/
import Derived.WalkKit
import Derived.IntWalk
import Derived.OwnWalkIn
import Derived.TacticsInMore
import Derived.LoopNIn
import Derived.LoopIn
import Derived.Test.YtgjklpadcmedkaaDoorShelf
import Derived.Test.YtgjklpadcmedkaaDoorRtLaw
import Derived.Test.YtgjklpadcmedkaaDoorRtPcs
namespace Go.Proofs.YtgjklpadcmedkaaDoor
open Go Go.RowKit Go.Shelf
set_option linter.unusedVariables false
attribute [local go_sem] Oper.semAt_some

theorem ixb_none : ∀ (a : Tx), (∀ x ∈ a, x ≠ 46) → Lib.indexByte a 46 = -1
  | [], _ => rfl
  | b :: l, h => by
    have hb : (b == 46) = false := by rw [beq_eq_false_iff_ne]; exact h b (by simp)
    rw [Lib.indexByte, hb, ixb_none l fun x hx => h x (List.mem_cons_of_mem _ hx)]; rfl
theorem ixb_some : ∀ (a b : Tx), (∀ x ∈ a, x ≠ 46) → Lib.indexByte (a ++ 46 :: b) 46 = ((a.length : Nat) : Int)
  | [], b, _ => rfl
  | c :: l, b, h => by
    have hb : (c == 46) = false := by rw [beq_eq_false_iff_ne]; exact h c (by simp)
    have h2 : (((l.length : Nat) : Int) == -1) = false := by rw [beq_eq_false_iff_ne]; omega
    rw [List.cons_append, Lib.indexByte, hb, ixb_some l b fun x hx => h x (List.mem_cons_of_mem _ hx), h2]
    simp
/-- a text as the model's bytes -/
def bytesOf (s : Tx) : ByteArray := ⟨s.toArray⟩
theorem bytesOf_list (s : Tx) : (bytesOf s).data.toList = s := rfl
theorem bytesOf_size (s : Tx) : (bytesOf s).size = s.length := by simp [bytesOf, ByteArray.size]
theorem bytes_ext {a b : ByteArray} (h : a.data.toList = b.data.toList) : a = b := by
  cases a; cases b; congr 1; exact Array.ext' h
theorem ext_head (a b : Tx) : (bytesOf (a ++ 46 :: b)).extract 0 a.length = bytesOf a := by
  apply bytes_ext
  simp [bytesOf, ByteArray.data_extract]
theorem ext_tail (a b : Tx) : (bytesOf (a ++ 46 :: b)).extract (a.length + 1) (a ++ 46 :: b).length = bytesOf b := by
  apply bytes_ext
  have e1 : (a ++ 46 :: b).drop (a.length + 1) = b := by rw [List.drop_append]; simp
  have e2 : ((bytesOf (a ++ 46 :: b)).extract (a.length + 1) (a ++ 46 :: b).length).data.toList = ((a ++ 46 :: b).drop (a.length + 1)).take ((a ++ 46 :: b).length - (a.length + 1)) := by
    simp [bytesOf, ByteArray.data_extract]
  rw [e2, e1]
  exact List.take_of_length_le (by simp; omega)
def lenOf : Option Value → Nat
  | some (.string b) => b.size
  | _ => 0
/-- the three boxes: the separator, the text that is left, how much of the separator is kept -/
def Boxes (Bp Bn Bk : Nat) (s : Tx) (W : World) : Prop :=
  W.heap[Bp]? = some (.cells #[.string (bytesOf [46])] 9 (0, 0)) ∧ W.heap[Bn]? = some (.cells #[.string (bytesOf s)] 9 (0, 0)) ∧ W.heap[Bk]? = some (.cells #[.int .i64 0] 3 (0, 0))
theorem cellOf {W : World} {b : Nat} {v : Value} {t : TypeId} (h : W.heap[b]? = some (.cells #[v] t (0, 0))) : W.cell? ⟨b, 0, none⟩ = some v := by simp [World.cell?, h]
theorem frozenOf {W : World} {b : Nat} {v : Value} {t : TypeId} (h : W.heap[b]? = some (.cells #[v] t (0, 0))) : W.frozen? ⟨b, 0, none⟩ = false := by simp [World.frozen?, h]
set_option maxRecDepth 100000 in
set_option maxHeartbeats 2000000 in
theorem split1_in (n l Bp Bn Bk : Nat) (hpn : Bp ≠ Bn) (hkn : Bk ≠ Bn) (s0 : Tx) (hl0 : s0.length ≤ 140737488355328) (J Jx : List Tx → World → Prop)
    (hJ : ∀ s X Y row, J s X → X.grownBy Y row → (∀ r, row = some r → r = Bn) → J s Y)
    (hY : ∀ pre (x : Tx) W1, J pre W1 → pre ++ [x] <+: pcs s0 → YieldAt Fence.wide (n - 1) Tryd.prog l #[.string (bytesOf x)] W1 fun e W' =>
      (e = .returned (.bool true) ∧ J (pre ++ [x]) W' ∧ BoxAs (fun b => b = Bp ∨ b = Bn ∨ b = Bk) W1 W') ∨ (e = .returned (.bool false) ∧ Jx (pre ++ [x]) W'))
    (W : World) (hb : Boxes Bp Bn Bk s0 W) (h0 : J [] W) :
    CallsIn Fence.wide n Tryd.prog 30 #[.func (.yield l) #[] #[], .pointer (some ⟨Bp, 0, none⟩), .pointer (some ⟨Bn, 0, none⟩), .pointer (some ⟨Bk, 0, none⟩)] W fun e W' => (∃ v, e = .returned v) ∧
      ((∃ ys, ys = pcs s0 ∧ J ys W') ∨ (∃ pre, pre <+: pcs s0 ∧ Jx pre W')) := by
  refine callsIn_of_wp Tryd.func30 rfl trivial ?_ rfl
  simp only [Tryd.ntmps30, List.size_toArray, List.length_cons, List.length_nil, Nat.reduceAdd, Nat.reduceSub, Array.replicate_succ, Array.replicate_zero, List.push_toArray, List.append_toArray, List.nil_append, List.cons_append]
  have hc1 := cellOf hb.1
  gi_wp2
  clear hc1
  gi_loopw [] (fun wr => ∃ (pre : List Tx) (s : Tx), pcs s0 = pre ++ pcs s ∧ s.length ≤ s0.length ∧ J pre wr ∧ Boxes Bp Bn Bk s wr)
    (fun wr => lenOf (wr.cell? ⟨Bn, 0, none⟩))
  case atStart =>
    exact ⟨[], s0, rfl, Nat.le_refl _, h0, hb⟩
  case round =>
    obtain ⟨pre, s, hp, hls, hJp, hB⟩ := hrel
    have hc1 := cellOf hB.1
    have hc2 := cellOf hB.2.1
    have hc3 := cellOf hB.2.2
    have hf2 := frozenOf hB.2.1
    have hcon := Tryd.strings_Index_one (bytesOf s) 46 wr
    rcases cut46 s with hs | ⟨a, b, rfl, hs⟩
    · rw [bytesOf_list, ixb_none s hs] at hcon
      gi_wp2
      refine And.intro trivial ?_
      refine And.intro (fun h => by simp [Fence.wide] at h) ?_
      refine (callsIn_wide.2 hcon).mono ?_
      rintro e w' ⟨rfl, rfl⟩
      clear hcon
      obtain ⟨fn, tmps, assign, body, hy, hR⟩ := hY pre s w' hJp (by rw [hp, pcs_none s hs]; exact List.prefix_refl _)
      gi_wp2
      refine And.intro (fun h => by simp [Fence.wide] at h) ?_
      refine hR.mono ?_
      rintro e W3 (⟨rfl, hJ3, hk3⟩ | ⟨rfl, hx3⟩)
      · gi_wp2
        go_end0
        exact ⟨⟨_, rfl⟩, .inl ⟨_, by rw [hp, pcs_none s hs], hJ3⟩⟩
      · gi_wp2
        go_end0
        exact ⟨⟨_, rfl⟩, .inr ⟨_, by rw [hp, pcs_none s hs]; exact List.prefix_refl _, hx3⟩⟩
    · rw [bytesOf_list, ixb_some a b hs] at hcon
      gi_wp2
      refine And.intro trivial ?_
      refine And.intro (fun h => by simp [Fence.wide] at h) ?_
      refine (callsIn_wide.2 hcon).mono ?_
      rintro e w' ⟨rfl, rfl⟩
      clear hcon
      obtain ⟨fn, tmps, assign, body, hy, hR⟩ := hY pre a w' hJp (by rw [hp, pcs_some a b hs]; exact ⟨pcs b, by simp⟩)
      have hll : (a ++ 46 :: b).length = a.length + 1 + b.length := by simp; omega
      have hw1 : wrap64 ((a.length : Nat) : Int) = ((a.length : Nat) : Int) := IntWalk.wrap64_in _ ⟨by omega, by omega⟩
      have hz1 : ((a.length : Nat) : Int) ≤ ((bytesOf (a ++ 46 :: b)).size : Nat) := by rw [bytesOf_size, hll]; omega
      rw [← ext_head a b] at hy
      gi_wp2
      refine And.intro (fun h => by simp [Fence.wide] at h) ?_
      refine hR.mono ?_
      rintro e W3 (⟨rfl, hJ3, hk3⟩ | ⟨rfl, hx3⟩)
      · have hB3 : Boxes Bp Bn Bk (a ++ 46 :: b) W3 := ⟨(hk3.2 Bp (.inl rfl)).trans hB.1, (hk3.2 Bn (.inr (.inl rfl))).trans hB.2.1, (hk3.2 Bk (.inr (.inr rfl))).trans hB.2.2⟩
        clear hc1 hc2 hc3 hf2
        have hc1 := cellOf hB3.1
        have hc2 := cellOf hB3.2.1
        have hf2 := frozenOf hB3.2.1
        have hs46 : (((bytesOf [46]).size : Nat) : Int) = 1 := rfl
        have hw2 : wrap64 (((a.length : Nat) : Int) + 1) = ((a.length : Nat) : Int) + 1 := IntWalk.wrap64_in _ ⟨by omega, by omega⟩
        have hz2 : ((a.length : Nat) : Int) + 1 ≤ ((bytesOf (a ++ 46 :: b)).size : Nat) := by rw [bytesOf_size, hll]; omega
        gi_wp2
        go_roundw
        case rel =>
          have hv : (bytesOf (a ++ 46 :: b)).extract (a.length + 1) (bytesOf (a ++ 46 :: b)).size = bytesOf b := by rw [bytesOf_size]; exact ext_tail a b
          rw [hv]
          refine ⟨_, _, _, _, _, _, _, _, _, _, _, _, _, _, _, _, _, _, _, _, _, _, ⟨pre ++ [a], b, ?_, ?_, ?_, ?_⟩, rfl⟩
          · rw [hp, pcs_some a b hs]; simp
          · omega
          · exact hJ _ _ _ _ hJ3 (grownBy_setCell' W3 Bn _) (fun r e => by cases e; rfl)
          · exact ⟨Boxed.other hB3.1 hpn _, Boxed.set _ hB3.2.1, Boxed.other hB3.2.2 hkn _⟩
        case measure =>
          have hv : (bytesOf (a ++ 46 :: b)).extract (a.length + 1) (bytesOf (a ++ 46 :: b)).size = bytesOf b := by rw [bytesOf_size]; exact ext_tail a b
          rw [hv, cellOf (Boxed.set _ hB3.2.1), cellOf hB.2.1]
          simp only [lenOf, bytesOf_size]
          omega
      · gi_wp2
        refine bodyPost_ret (results_none rfl _ _ _) rfl ?_
        refine ⟨⟨_, rfl⟩, .inr ⟨_, ?_, hx3⟩⟩
        rw [hp, pcs_some a b hs]
        exact ⟨pcs b, by simp⟩
theorem split_in (n : Nat) (s : Tx) (w : World) :
    CallsIn Fence.wide n Tryd.prog 23 #[.string (bytesOf s), .string (bytesOf [46]), .int .i64 0] w fun e w' =>
      e = .returned (.func (.func 30) #[] #[.pointer (some ⟨w.heap.size + 1, 0, none⟩), .pointer (some ⟨w.heap.size, 0, none⟩), .pointer (some ⟨w.heap.size + 2, 0, none⟩)]) ∧
      w' = ((w.alloc (.cells #[.string (bytesOf s)] 9)).alloc (.cells #[.string (bytesOf [46])] 9)).alloc (.cells #[.int .i64 0] 3) := by
  refine callsIn_of_wp Tryd.func23 rfl trivial ?_ rfl
  simp only [Tryd.ntmps23, List.size_toArray, List.length_cons, List.length_nil, Nat.reduceAdd, Nat.reduceSub, Array.replicate_succ, Array.replicate_zero, List.push_toArray, List.append_toArray, List.nil_append, List.cons_append]
  gi_wp2
  go_ret
  exact ⟨rfl, rfl⟩
theorem seq_in (n : Nat) (s : Tx) (w : World) :
    CallsIn Fence.wide n Tryd.prog 14 #[.string (bytesOf s), .string (bytesOf [46])] w fun e w' =>
      e = .returned (.func (.func 30) #[] #[.pointer (some ⟨w.heap.size + 1, 0, none⟩), .pointer (some ⟨w.heap.size, 0, none⟩), .pointer (some ⟨w.heap.size + 2, 0, none⟩)]) ∧
      w' = ((w.alloc (.cells #[.string (bytesOf s)] 9)).alloc (.cells #[.string (bytesOf [46])] 9)).alloc (.cells #[.int .i64 0] 3) := by
  refine callsIn_of_wp Tryd.func14 rfl trivial ?_ rfl
  simp only [Tryd.ntmps14, List.size_toArray, List.length_cons, List.length_nil, Nat.reduceAdd, Nat.reduceSub, Array.replicate_succ, Array.replicate_zero, List.push_toArray, List.append_toArray, List.nil_append, List.cons_append]
  gi_wp2
  refine And.intro trivial ?_
  refine And.intro (fun h => by simp [Fence.wide] at h) ?_
  refine (split_in _ s w).mono ?_
  rintro e w' ⟨rfl, rfl⟩
  gi_wp2
  go_ret
  exact ⟨rfl, rfl⟩
/-- the iterator, as the law takes it -/
theorem seq_box (n : Nat) (Bp Bn Bk : Nat) (hpn : Bp ≠ Bn) (hkn : Bk ≠ Bn) (s : Tx) (hl : s.length ≤ 140737488355328) (w : World) (hb : Boxes Bp Bn Bk s w) :
    SeqBox n Tryd.prog 30 #[.pointer (some ⟨Bp, 0, none⟩), .pointer (some ⟨Bn, 0, none⟩), .pointer (some ⟨Bk, 0, none⟩)] (fun x : Tx => #[.string (bytesOf x)]) Bn (fun b => b = Bp ∨ b = Bn ∨ b = Bk)
      (fun ys => ys = pcs s) (fun pre => pre <+: pcs s) w := fun l J Jx W hW hJ _ hY h0 =>
  split1_in n l Bp Bn Bk hpn hkn s hl J Jx hJ hY W
    ⟨(hW.block Bp (Array.getElem?_eq_some_iff.1 hb.1).1).trans hb.1, (hW.block Bn (Array.getElem?_eq_some_iff.1 hb.2.1).1).trans hb.2.1, (hW.block Bk (Array.getElem?_eq_some_iff.1 hb.2.2).1).trans hb.2.2⟩ h0
end Go.Proofs.YtgjklpadcmedkaaDoor
