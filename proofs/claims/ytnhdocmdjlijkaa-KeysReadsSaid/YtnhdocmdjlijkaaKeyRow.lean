/- keys.Write: the row of its bytes, in memory. -/
import Derived.Test.YtnhdocmdjlijkaaKeyDiff
import Derived.ArgAppend
namespace Go.Proofs.Ytnhdocmdjlijkaa
open Go Go.RowKit Go.Shelf
set_option linter.unusedVariables false

def u8s (l : List Int) : List Value := l.map (Value.int .u8)
theorem u8s_len (l : List Int) : (u8s l).length = l.length := by simp [u8s]
/-- the row: its first byte, the rest behind the second; while the first eight cells are enough, what lies behind, too -/
def RowX (n : Nat) (f : Int) (r : List Int) (W : World) (v : Value) : Prop :=
  ∃ g cap, ∃ cur : Array Value, v = .slice (some ⟨g, 0, none⟩) (2 + r.length) cap ∧ n ≤ g ∧ W.heap[g]? = some (.cells cur 5 (0, 0)) ∧ cur.size = cap ∧ 2 + r.length ≤ cap ∧ cap ≤ maxLen ∧
    cur.toList.take (2 + r.length) = u8s (f :: 0 :: r) ∧ (r.length ≤ 6 → cur.toList = u8s (f :: 0 :: (r ++ List.replicate (6 - r.length) 0)))
theorem RowX.own {n : Nat} {f : Int} {r : List Int} {W : World} {v : Value} (h : RowX n f r W v) : W.ownsRow n 5 1 v (2 + r.length) (u8s (f :: 0 :: r)) := by
  obtain ⟨g, cap, cur, rfl, h1, h2, h3, h4, h5, h6, _⟩ := h
  exact ⟨by simp [u8s]; omega, .inr ⟨g, cap, cur, rfl, h1, h2, h4, h5, by omega, by rw [Nat.mul_one]; exact h6⟩⟩
theorem RowX.kept {n : Nat} {f : Int} {r : List Int} {W W' : World} {v : Value} {row : Option Nat} (h : RowX n f r W v) (hg : W.grownBy W' row) (hne : v.ownBlock = none ∨ v.ownBlock ≠ row) : RowX n f r W' v := by
  obtain ⟨g, cap, cur, rfl, h1, h2, h3⟩ := h
  refine ⟨g, cap, cur, rfl, h1, (hg.block g (Array.getElem?_eq_some_iff.1 h2).1 (fun e => ?_)).trans h2, h3⟩
  rcases hne with h | h
  · cases h
  · exact h (by simpa [Value.ownBlock] using e)
theorem heap_set {W : World} {g k : Nat} {cur : Array Value} {t : TypeId} {u : Value} (h : W.heap[g]? = some (.cells cur t (0, 0))) : (W.setCell ⟨g, k, none⟩ u).heap[g]? = some (.cells (cur.setIfInBounds k u) t (0, 0)) := by
  obtain ⟨hlt, he⟩ := Array.getElem?_eq_some_iff.1 h
  simp [World.setCell, hlt, he, Array.getElem_modify]
theorem cell_at {W : World} {g k : Nat} {cur : Array Value} {t : TypeId} (h : W.heap[g]? = some (.cells cur t (0, 0))) : W.cell? ⟨g, k, none⟩ = cur[k]? := by
  simp [World.cell?, h]
theorem frozen_at {W : World} {g k : Nat} {cur : Array Value} {t : TypeId} (h : W.heap[g]? = some (.cells cur t (0, 0))) : W.frozen? ⟨g, k, none⟩ = false := by
  simp [World.frozen?, h]
/-- the first byte is another -/
theorem RowX.first {n : Nat} {f f' : Int} {r : List Int} {W : World} {g len cap : Nat} (h : RowX n f r W (.slice (some ⟨g, 0, none⟩) len cap)) : RowX n f' r (W.setCell ⟨g, 0, none⟩ (.int .u8 f')) (.slice (some ⟨g, 0, none⟩) len cap) := by
  obtain ⟨g', cap', cur, e, h1, h2, h3, h4, h5, h6, h7⟩ := h
  simp only [Value.slice.injEq, Option.some.injEq, Addr.mk.injEq, and_true] at e
  obtain ⟨rfl, rfl, rfl⟩ := e
  have e0 : ∀ (c : List Value) (k : Nat) (l : List Int), c.take (2 + k) = u8s (f :: l) → (c.set 0 (.int .u8 f')).take (2 + k) = u8s (f' :: l) := by
    intro c k l hc
    cases c with
    | nil => simp [u8s] at hc
    | cons a c =>
      rw [show 2 + k = (1 + k) + 1 by omega] at hc ⊢
      simp only [List.set_cons_zero, List.take_succ_cons, u8s, List.map_cons, List.cons.injEq] at hc ⊢
      exact ⟨trivial, hc.2⟩
  refine ⟨g, cap, cur.setIfInBounds 0 (.int .u8 f'), rfl, h1, heap_set h2, by simpa using h3, h4, h5, ?_, fun hr => ?_⟩
  · rw [Array.toList_setIfInBounds]
    exact e0 _ _ _ h6
  · rw [Array.toList_setIfInBounds, h7 hr]
    rfl
/-- a byte behind -/
theorem row_append (ty : TypeId) {n : Nat} {f : Int} {r : List Int} {W : World} {v : Value} (h : RowX n f r W v) (hn : n ≤ W.heap.size) (hr : r.length ≤ 300) (x : Int) (ad : Addr) (c : Nat) (had : W.cell? ad = some (.int .u8 x)) :
    ∃ v' W', (Builtin.append_ #[112, 112] ty #[v, .slice (some ad) 1 c]).run Try.prog W = .ok v' W' ∧ RowX n f (r ++ [x]) W' v' ∧ W.grownBy W' v.ownBlock := by
  have h0 := h
  obtain ⟨g, cap, cur, rfl, h1, h2, h3, h4, h5, h6, h7⟩ := h
  have hinfo : (Try.prog.info? 5).map (fun i => (i.zero, i.size, i.bytes)) = some (some (.int .u8 0), 1, 1) := by kernel_rfl
  obtain ⟨i, hi, hz, hsz, hby⟩ := info_parts hinfo
  have hnews : ∀ j u, ([Value.int .u8 x] : List Value)[j]? = some u → W.cell? (ad.add j) = some u := by
    intro j u hj
    match j, hj with
    | 0, hj => simp at hj; subst hj; simpa [Addr.add] using had
  have hone : ∀ u ∈ ([Value.int .u8 x] : List Value), u.oneCell' = true := by simp [Value.oneCell']
  by_cases hroom : 2 + r.length + 1 ≤ cap
  · have hrun := run_append_room_cells (P := Try.prog) W 112 ty 5 i Try.underlying112 hi g 0 (2 + r.length) cap ad 1 c [.int .u8 x] (by rw [hsz]; rfl) hnews hone hroom
      (by intro j hj; rw [hsz]; simp only [List.length_cons, List.length_nil] at hj; rw [cell_at h2, Array.getElem?_eq_getElem (by omega)]; rfl) (by intro j hj; exact frozen_at h2)
    refine ⟨_, _, hrun, ?_, ?_⟩
    · rw [hsz]
      simp only [World.setCells, Nat.zero_add, Nat.mul_one]
      refine ⟨g, cap, cur.setIfInBounds (2 + r.length) (.int .u8 x), by simp [Nat.add_assoc], h1, heap_set h2, by simpa using h3, by simp; omega, h5, ?_, fun hr6 => ?_⟩
      · rw [Array.toList_setIfInBounds, List.length_append, List.length_singleton, ← Nat.add_assoc, List.take_add_one, List.take_set_of_le (Nat.le_refl _), h6, List.getElem?_set]
        simp [u8s, h3]; omega
      · rw [List.length_append, List.length_singleton] at hr6
        rw [Array.toList_setIfInBounds, h7 (by omega)]
        have e1 : 6 - r.length = (6 - (r ++ [x]).length) + 1 := by simp; omega
        rw [e1, List.replicate_succ]
        simp only [u8s, List.map_cons, List.map_append, List.map_nil, List.append_assoc, List.cons_append, List.nil_append]
        rw [show 2 + r.length = r.length + 1 + 1 by omega, List.set_cons_succ, List.set_cons_succ, List.set_append_right _ _ (by simp)]
        simp
    · rw [hsz]
      simp only [World.setCells, Nat.zero_add, Nat.mul_one]
      exact ⟨rfl, rfl, rfl, by simp [World.setCell], fun k hk hne => Below.heap_setCell _ _ _ k (fun e => hne (by rw [e]; rfl))⟩
  · obtain ⟨v', W', hrun, hown, hgr⟩ := run_append_arg_grows (P := Try.prog) W 112 ty 5 i (.int .u8 0) 1 1 Try.underlying112 hi hz hsz hby rfl (by decide) ⟨g, 0, none⟩ (2 + r.length) cap (u8s (f :: 0 :: r)) (by simp [u8s]; omega)
      (by
        intro j u hj
        rw [Addr.add_lit, Nat.zero_add, cell_at h2, ← Array.getElem?_toList]
        rw [← h6, List.getElem?_take] at hj
        split at hj
        · exact hj
        · cases hj) ad 1 c [.int .u8 x] rfl hnews (by omega) (by unfold maxLen; omega) (by omega)
    refine ⟨v', W', hrun, ?_, ⟨hgr.os, hgr.tape, hgr.output, hgr.size, fun k hk _ => hgr.block k hk (by simp)⟩⟩
    obtain ⟨e1, e2 | ⟨g', cap', cur', rfl, q1, q2, q3, q4, q5, q6⟩⟩ := hown
    · omega
    · refine ⟨g', cap', cur', by simp [Nat.add_assoc], by omega, q2, by omega, by simp; omega, q4, ?_, fun hr6 => ?_⟩
      · rw [Nat.mul_one] at q6
        rw [List.length_append, List.length_singleton, ← Nat.add_assoc, q6]
        simp [u8s]
      · exfalso
        rw [List.length_append, List.length_singleton] at hr6
        have := congrArg List.length (h7 (by omega))
        simp [u8s] at this
        omega
theorem RowX.open {n : Nat} {f : Int} {r : List Int} {W : World} {v : Value} (h : RowX n f r W v) : ∃ g cap, v = .slice (some ⟨g, 0, none⟩) (2 + r.length) cap ∧ n ≤ g ∧ W.cell? ⟨g, 0, none⟩ = some (.int .u8 f) ∧ W.frozen? ⟨g, 0, none⟩ = false ∧ g < W.heap.size ∧ (∃ cur, W.heap[g]? = some (.cells cur 5 (0, 0))) ∧ 2 + r.length ≤ cap := by
  obtain ⟨g, cap, cur, rfl, h1, h2, h3, h4, h5, h6, _⟩ := h
  refine ⟨g, cap, rfl, h1, ?_, frozen_at h2, (Array.getElem?_eq_some_iff.1 h2).1, ⟨cur, h2⟩, h4⟩
  rw [cell_at h2, ← Array.getElem?_toList]
  have : (cur.toList.take (2 + r.length))[0]? = some (.int .u8 f) := by rw [h6]; rfl
  rwa [List.getElem?_take, if_pos (by omega)] at this
theorem RowX.alloc {n : Nat} {f : Int} {r : List Int} {W : World} {v : Value} (h : RowX n f r W v) (o : Obj) : RowX n f r (W.alloc o) v := by
  refine h.kept (World.grownBy_alloc W o none) (.inr ?_)
  obtain ⟨g, cap, cur, rfl, _⟩ := h
  simp [Value.ownBlock]
theorem obj_app {n : Nat} {f : Int} {r : List Int} {W w2 : World} {b B5 : Nat} {o : Obj} {v v' : Value} {tmp : Obj} (h : W.heap[b]? = some o) (ho : ∀ cur, o ≠ .cells cur 5 (0, 0)) (hrow : RowX n f r W v) (hg : (W.alloc tmp).grownBy w2 v.ownBlock) (hne : b ≠ B5) : (w2.setCell ⟨B5, 0, none⟩ v').heap[b]? = some o := by
  have hlt := (Array.getElem?_eq_some_iff.1 h).1
  have h1 : (W.alloc tmp).heap[b]? = W.heap[b]? := Below.heap_alloc W tmp b hlt
  have h2 : w2.heap[b]? = (W.alloc tmp).heap[b]? := by
    refine hg.block b (by rw [World.size_alloc]; omega) fun e => ?_
    obtain ⟨g, cap, cur, rfl, _, hgb, _⟩ := hrow
    obtain rfl : b = g := by simpa [Value.ownBlock] using e
    rw [h] at hgb
    exact ho cur (Option.some.inj hgb)
  exact (Below.heap_setCell _ _ _ b hne).trans (h2.trans (h1.trans h))
theorem box_not {t : TypeId} {u : Value} (ht : t ≠ 5) : ∀ cur, (Obj.cells #[u] t (0, 0)) ≠ .cells cur 5 (0, 0) := by
  intro cur e
  injection e with _ e2 _
  exact ht e2
theorem box_at {W : World} {g B : Nat} {t : TypeId} {u x : Value} {cur : Array Value} (ht : t ≠ 5) (h : Boxed W B t u) (hg : W.heap[g]? = some (.cells cur 5 (0, 0))) : Boxed (W.setCell ⟨g, 0, none⟩ x) B t u := by
  refine h.other (fun e => ?_) x
  subst e
  rw [show W.heap[B]? = _ from h] at hg
  exact box_not ht cur (Option.some.inj hg)
theorem conv_row {P : Program} {W : World} {g : Nat} {cur : Array Value} {src dst : TypeId} (hs : P.underlying src = some (.slice 5)) (he : P.underlying 5 = some (.int .u8)) (hd : P.underlying dst = some .string) (h : W.heap[g]? = some (.cells cur 5 (0, 0))) (xs : List Int) (n cap : Nat) (hl : xs.length = n) (hx : cur.toList.take n = u8s xs) : (convert src dst (.slice (some ⟨g, 0, none⟩) n cap)).run P W = .ok (.string (strOfNums xs)) W := by
  refine run_convert_bytes_arg W src 5 hs he g 0 n cap xs hl (fun i hi => ?_) dst hd
  rw [Nat.zero_add, cell_at h, ← Array.getElem?_toList]
  have h1 : (cur.toList.take n)[i]? = (u8s xs)[i]? := by rw [hx]
  rw [List.getElem?_take, if_pos (by omega)] at h1
  rw [h1]
  simp [u8s, List.getElem?_eq_getElem (show i < xs.length by omega)]
/-- the operation -/
theorem wpListIn_append_X {F : Fence} {m : Nat} (w : World) {ops : Array Oper} {rest : List Oper} {o : Oper} {a : Act} {Q : Exit → Act → World → Prop}
    (hg : o.guard = none) (s y : Operand) (hop : o.op = Op.call { callee := Callee.builtin Builtin.append, args := #[s, y], argTypes := #[112, 112] })
    {n : Nat} {f : Int} {r : List Int} {v : Value} (hs : a.eval s = v) (h : RowX n f r w v) (hn : n ≤ w.heap.size) (hr : r.length ≤ 300) (x : Int) (ad : Addr) (c : Nat) (hy : a.eval y = .slice (some ad) 1 c) (had : w.cell? ad = some (.int .u8 x))
    (hK : ∀ v' w', RowX n f (r ++ [x]) w' v' → w.grownBy w' v.ownBlock → wpListIn F m Try.prog ops Q rest (a.put o.dst v') w') : wpListIn F m Try.prog ops Q (o :: rest) a w := by
  refine wpListIn_plain hg fun K hK' => ?_
  obtain ⟨v', w', hrun, r1, r2⟩ := row_append o.type h hn hr x ad c had
  unfold Oper.wpIn
  refine ⟨?_, ?_⟩
  · simp [Oper.about, hop, resolve, Target.leads, Sem.run_pure]
  · rw [Oper.semAt_plain F _ _ (by rw [hop]; intro c hc'; cases hc')]
    simp [execOp, hop, resolve, invoke, builtin, hs, hy, hrun, Result.andThen]
    exact hK' _ _ (hK v' w' r1 r2)
end Go.Proofs.Ytnhdocmdjlijkaa
