import Derived.Test.YtdomallemkbinaaGreatDoorKeyDiff
import Derived.ArgAppend
/- keys.Write: the row of its bytes, in memory. -/
namespace Go.Proofs.YtdomallemkbinaaGreatDoor
open Go Go.RowKit Go.Shelf
set_option linter.unusedVariables false

def u8s (l : List Int) : List Value := l.map (Value.int .u8)
/-- the row: its first byte, the rest behind the second; while the first eight cells are enough, what lies behind, too -/
def RowX (n : Nat) (f : Int) (r : List Int) (W : World) (v : Value) : Prop :=
  ∃ g cap, ∃ cur : Array Value, v = .slice (some ⟨g, 0, none⟩) (2 + r.length) cap ∧ n ≤ g ∧ W.heap[g]? = some (.cells cur 5 (0, 0)) ∧ cur.size = cap ∧ 2 + r.length ≤ cap ∧ cap ≤ maxLen ∧
    cur.toList.take (2 + r.length) = u8s (f :: 0 :: r) ∧ (r.length ≤ 6 → cur.toList = u8s (f :: 0 :: (r ++ List.replicate (6 - r.length) 0)))
theorem RowX.own {n : Nat} {f : Int} {r : List Int} {W : World} {v : Value} (h : RowX n f r W v) : W.ownsRow n 5 1 v (2 + r.length) (u8s (f :: 0 :: r)) := by
  obtain ⟨g, cap, cur, rfl, h1, h2, h3, h4, h5, h6, _⟩ := h
  exact ⟨by simp [u8s]; omega, .inr ⟨g, cap, cur, rfl, h1, h2, h4, h5, by omega, by rw [Nat.mul_one]; exact h6⟩⟩
theorem RowX.kept {n : Nat} {f : Int} {r : List Int} {W W' : World} {v : Value} {row : Option Nat} (h : RowX n f r W v) (hg : W.grownBy W' row) (hne : v.ownBlock = none ∨ v.ownBlock ≠ row) : RowX n f r W' v := by
  obtain ⟨g, cap, cur, rfl, h1, h2, h3⟩ := h
  refine ⟨g, cap, cur, rfl, h1, (hg.block g (Array.getElem?_eq_some_iff.1 h2).1 (fun e => ?_)).trans h2, h3⟩
  rcases hne with h | h
  · cases h
  · exact h (by simpa [Value.ownBlock] using e)
theorem heap_set {W : World} {g k : Nat} {cur : Array Value} {t : TypeId} {u : Value} (h : W.heap[g]? = some (.cells cur t (0, 0))) : (W.setCell ⟨g, k, none⟩ u).heap[g]? = some (.cells (cur.setIfInBounds k u) t (0, 0)) := by
  obtain ⟨hlt, he⟩ := Array.getElem?_eq_some_iff.1 h
  simp [World.setCell, hlt, he, Array.getElem_modify]
theorem cell_at {W : World} {g k : Nat} {cur : Array Value} {t : TypeId} (h : W.heap[g]? = some (.cells cur t (0, 0))) : W.cell? ⟨g, k, none⟩ = cur[k]? := by
  simp [World.cell?, h]
theorem frozen_at {W : World} {g k : Nat} {cur : Array Value} {t : TypeId} (h : W.heap[g]? = some (.cells cur t (0, 0))) : W.frozen? ⟨g, k, none⟩ = false := by
  simp [World.frozen?, h]
/-- the first byte is another -/
theorem RowX.first {n : Nat} {f f' : Int} {r : List Int} {W : World} {g len cap : Nat} (h : RowX n f r W (.slice (some ⟨g, 0, none⟩) len cap)) : RowX n f' r (W.setCell ⟨g, 0, none⟩ (.int .u8 f')) (.slice (some ⟨g, 0, none⟩) len cap) := by
  obtain ⟨g', cap', cur, e, h1, h2, h3, h4, h5, h6, h7⟩ := h
  simp only [Value.slice.injEq, Option.some.injEq, Addr.mk.injEq, and_true] at e
  obtain ⟨rfl, rfl, rfl⟩ := e
  have e0 : ∀ (c : List Value) (k : Nat) (l : List Int), c.take (2 + k) = u8s (f :: l) → (c.set 0 (.int .u8 f')).take (2 + k) = u8s (f' :: l) := by
    intro c k l hc
    cases c with
    | nil => simp [u8s] at hc
    | cons a c =>
      rw [show 2 + k = (1 + k) + 1 by omega] at hc ⊢
      simp only [List.set_cons_zero, List.take_succ_cons, u8s, List.map_cons, List.cons.injEq] at hc ⊢
      exact ⟨trivial, hc.2⟩
  refine ⟨g, cap, cur.setIfInBounds 0 (.int .u8 f'), rfl, h1, heap_set h2, by simpa using h3, h4, h5, ?_, fun hr => ?_⟩
  · rw [Array.toList_setIfInBounds]
    exact e0 _ _ _ h6
  · rw [Array.toList_setIfInBounds, h7 hr]
    rfl
/-- a byte behind -/
theorem row_append (ty : TypeId) {n : Nat} {f : Int} {r : List Int} {W : World} {v : Value} (h : RowX n f r W v) (hn : n ≤ W.heap.size) (hr : r.length ≤ 300) (x : Int) (ad : Addr) (c : Nat) (had : W.cell? ad = some (.int .u8 x)) :
    ∃ v' W', (Builtin.append_ #[50, 50] ty #[v, .slice (some ad) 1 c]).run Tryz.prog W = .ok v' W' ∧ RowX n f (r ++ [x]) W' v' ∧ W.grownBy W' v.ownBlock := by
  have h0 := h
  obtain ⟨g, cap, cur, rfl, h1, h2, h3, h4, h5, h6, h7⟩ := h
  have hinfo : (Tryz.prog.info? 5).map (fun i => (i.zero, i.size, i.bytes)) = some (some (.int .u8 0), 1, 1) := by kernel_rfl
  obtain ⟨i, hi, hz, hsz, hby⟩ := info_parts hinfo
  have hnews : ∀ j u, ([Value.int .u8 x] : List Value)[j]? = some u → W.cell? (ad.add j) = some u := by
    intro j u hj
    match j, hj with
    | 0, hj => simp at hj; subst hj; simpa [Addr.add] using had
  have hone : ∀ u ∈ ([Value.int .u8 x] : List Value), u.oneCell' = true := by simp [Value.oneCell']
  by_cases hroom : 2 + r.length + 1 ≤ cap
  · have hrun := run_append_room_cells (P := Tryz.prog) W 50 ty 5 i Tryz.underlying50 hi g 0 (2 + r.length) cap ad 1 c [.int .u8 x] (by rw [hsz]; rfl) hnews hone hroom
      (by intro j hj; rw [hsz]; simp only [List.length_cons, List.length_nil] at hj; rw [cell_at h2, Array.getElem?_eq_getElem (by omega)]; rfl) (by intro j hj; exact frozen_at h2)
    refine ⟨_, _, hrun, ?_, ?_⟩
    · rw [hsz]
      simp only [World.setCells, Nat.zero_add, Nat.mul_one]
      refine ⟨g, cap, cur.setIfInBounds (2 + r.length) (.int .u8 x), by simp [Nat.add_assoc], h1, heap_set h2, by simpa using h3, by simp; omega, h5, ?_, fun hr6 => ?_⟩
      · rw [Array.toList_setIfInBounds, List.length_append, List.length_singleton, ← Nat.add_assoc, List.take_add_one, List.take_set_of_le (Nat.le_refl _), h6, List.getElem?_set]
        simp [u8s, h3]; omega
      · rw [List.length_append, List.length_singleton] at hr6
        rw [Array.toList_setIfInBounds, h7 (by omega)]
        have e1 : 6 - r.length = (6 - (r ++ [x]).length) + 1 := by simp; omega
        rw [e1, List.replicate_succ]
        simp only [u8s, List.map_cons, List.map_append, List.map_nil, List.append_assoc, List.cons_append, List.nil_append]
        rw [show 2 + r.length = r.length + 1 + 1 by omega, List.set_cons_succ, List.set_cons_succ, List.set_append_right _ _ (by simp)]
        simp
    · rw [hsz]
      simp only [World.setCells, Nat.zero_add, Nat.mul_one]
      exact ⟨rfl, rfl, rfl, by simp [World.setCell], fun k hk hne => Below.heap_setCell _ _ _ k (fun e => hne (by rw [e]; rfl))⟩
  · obtain ⟨v', W', hrun, hown, hgr⟩ := run_append_arg_grows (P := Tryz.prog) W 50 ty 5 i (.int .u8 0) 1 1 Tryz.underlying50 hi hz hsz hby rfl (by decide) ⟨g, 0, none⟩ (2 + r.length) cap (u8s (f :: 0 :: r)) (by simp [u8s]; omega)
      (by
        intro j u hj
        rw [Addr.add_lit, Nat.zero_add, cell_at h2, ← Array.getElem?_toList]
        rw [← h6, List.getElem?_take] at hj
        split at hj
        · exact hj
        · cases hj) ad 1 c [.int .u8 x] rfl hnews (by omega) (by unfold maxLen; omega) (by omega)
    refine ⟨v', W', hrun, ?_, ⟨hgr.os, hgr.tape, hgr.output, hgr.size, fun k hk _ => hgr.block k hk (by simp)⟩⟩
    obtain ⟨e1, e2 | ⟨g', cap', cur', rfl, q1, q2, q3, q4, q5, q6⟩⟩ := hown
    · omega
    · refine ⟨g', cap', cur', by simp [Nat.add_assoc], by omega, q2, by omega, by simp; omega, q4, ?_, fun hr6 => ?_⟩
      · rw [Nat.mul_one] at q6
        rw [List.length_append, List.length_singleton, ← Nat.add_assoc, q6]
        simp [u8s]
      · exfalso
        rw [List.length_append, List.length_singleton] at hr6
        have := congrArg List.length (h7 (by omega))
        simp [u8s] at this
        omega
theorem RowX.open {n : Nat} {f : Int} {r : List Int} {W : World} {v : Value} (h : RowX n f r W v) : ∃ g cap, v = .slice (some ⟨g, 0, none⟩) (2 + r.length) cap ∧ n ≤ g ∧ W.cell? ⟨g, 0, none⟩ = some (.int .u8 f) ∧ W.frozen? ⟨g, 0, none⟩ = false ∧ g < W.heap.size ∧ (∃ cur, W.heap[g]? = some (.cells cur 5 (0, 0))) ∧ 2 + r.length ≤ cap := by
  obtain ⟨g, cap, cur, rfl, h1, h2, h3, h4, h5, h6, _⟩ := h
  refine ⟨g, cap, rfl, h1, ?_, frozen_at h2, (Array.getElem?_eq_some_iff.1 h2).1, ⟨cur, h2⟩, h4⟩
  rw [cell_at h2, ← Array.getElem?_toList]
  have : (cur.toList.take (2 + r.length))[0]? = some (.int .u8 f) := by rw [h6]; rfl
  rwa [List.getElem?_take, if_pos (by omega)] at this
theorem RowX.alloc {n : Nat} {f : Int} {r : List Int} {W : World} {v : Value} (h : RowX n f r W v) (o : Obj) : RowX n f r (W.alloc o) v := by
  refine h.kept (World.grownBy_alloc W o none) (.inr ?_)
  obtain ⟨g, cap, cur, rfl, _⟩ := h
  simp [Value.ownBlock]
theorem obj_app {n : Nat} {f : Int} {r : List Int} {W w2 : World} {b B5 : Nat} {o : Obj} {v v' : Value} {tmp : Obj} (h : W.heap[b]? = some o) (ho : ∀ cur, o ≠ .cells cur 5 (0, 0)) (hrow : RowX n f r W v) (hg : (W.alloc tmp).grownBy w2 v.ownBlock) (hne : b ≠ B5) : (w2.setCell ⟨B5, 0, none⟩ v').heap[b]? = some o := by
  have hlt := (Array.getElem?_eq_some_iff.1 h).1
  have h1 : (W.alloc tmp).heap[b]? = W.heap[b]? := Below.heap_alloc W tmp b hlt
  have h2 : w2.heap[b]? = (W.alloc tmp).heap[b]? := by
    refine hg.block b (by rw [World.size_alloc]; omega) fun e => ?_
    obtain ⟨g, cap, cur, rfl, _, hgb, _⟩ := hrow
    obtain rfl : b = g := by simpa [Value.ownBlock] using e
    rw [h] at hgb
    exact ho cur (Option.some.inj hgb)
  exact (Below.heap_setCell _ _ _ b hne).trans (h2.trans (h1.trans h))
theorem box_not {t : TypeId} {u : Value} (ht : t ≠ 5) : ∀ cur, (Obj.cells #[u] t (0, 0)) ≠ .cells cur 5 (0, 0) := by
  intro cur e
  injection e with _ e2 _
  exact ht e2
theorem box_at {W : World} {g B : Nat} {t : TypeId} {u x : Value} {cur : Array Value} (ht : t ≠ 5) (h : Boxed W B t u) (hg : W.heap[g]? = some (.cells cur 5 (0, 0))) : Boxed (W.setCell ⟨g, 0, none⟩ x) B t u := by
  refine h.other (fun e => ?_) x
  subst e
  rw [show W.heap[B]? = _ from h] at hg
  exact box_not ht cur (Option.some.inj hg)
theorem conv_row {P : Program} {W : World} {g : Nat} {cur : Array Value} {src dst : TypeId} (hs : P.underlying src = some (.slice 5)) (he : P.underlying 5 = some (.int .u8)) (hd : P.underlying dst = some .string) (h : W.heap[g]? = some (.cells cur 5 (0, 0))) (xs : List Int) (n cap : Nat) (hl : xs.length = n) (hx : cur.toList.take n = u8s xs) : (convert src dst (.slice (some ⟨g, 0, none⟩) n cap)).run P W = .ok (.string (strOfNums xs)) W := by
  refine run_convert_bytes_arg W src 5 hs he g 0 n cap xs hl (fun i hi => ?_) dst hd
  rw [Nat.zero_add, cell_at h, ← Array.getElem?_toList]
  have h1 : (cur.toList.take n)[i]? = (u8s xs)[i]? := by rw [hx]
  rw [List.getElem?_take, if_pos (by omega)] at h1
  rw [h1]
  simp [u8s, List.getElem?_eq_getElem (show i < xs.length by omega)]
/-- the operation -/
theorem wpListIn_append_X {F : Fence} {m : Nat} (w : World) {ops : Array Oper} {rest : List Oper} {o : Oper} {a : Act} {Q : Exit → Act → World → Prop}
    (hg : o.guard = none) (s y : Operand) (hop : o.op = Op.call { callee := Callee.builtin Builtin.append, args := #[s, y], argTypes := #[50, 50] })
    {n : Nat} {f : Int} {r : List Int} {v : Value} (hs : a.eval s = v) (h : RowX n f r w v) (hn : n ≤ w.heap.size) (hr : r.length ≤ 300) (x : Int) (ad : Addr) (c : Nat) (hy : a.eval y = .slice (some ad) 1 c) (had : w.cell? ad = some (.int .u8 x))
    (hK : ∀ v' w', RowX n f (r ++ [x]) w' v' → w.grownBy w' v.ownBlock → wpListIn F m Tryz.prog ops Q rest (a.put o.dst v') w') : wpListIn F m Tryz.prog ops Q (o :: rest) a w := by
  refine wpListIn_plain hg fun K hK' => ?_
  obtain ⟨v', w', hrun, r1, r2⟩ := row_append o.type h hn hr x ad c had
  unfold Oper.wpIn
  refine ⟨?_, ?_⟩
  · simp [Oper.about, hop, resolve, Target.leads, Sem.run_pure]
  · rw [Oper.semAt_plain F _ _ (by rw [hop]; intro c hc'; cases hc')]
    simp [execOp, hop, resolve, invoke, builtin, hs, hy, hrun, Result.andThen]
    exact hK' _ _ (hK v' w' r1 r2)
end Go.Proofs.YtdomallemkbinaaGreatDoor

/- keys.Write: a report of a set of keys. -/
namespace Go.Proofs.YtdomallemkbinaaGreatDoor
open Go Go.RowKit Go.Shelf
set_option linter.unusedVariables false
attribute [local go_sem] Oper.semAt_some

def orB (f : Int) (k : Nat) : Int := Go.bits .or .u8 f (2 ^ k % 256)
def wstep (s : Int × List Int) (x : C256) : Int × List Int := if 224 ≤ x.val ∧ x.val ≤ 231 then (orB s.1 (x.val - 224), s.2) else (s.1, s.2 ++ [((x.val : Nat) : Int)])
def wst (l : List C256) : Int × List Int := l.foldl wstep (0, [])
theorem wst_snoc (l : List C256) (x : C256) : wst (l ++ [x]) = wstep (wst l) x := by simp [wst]
theorem wst_len (l : List C256) : (wst l).2.length ≤ l.length := by
  suffices h : ∀ (l : List C256) (s : Int × List Int), (l.foldl wstep s).2.length ≤ s.2.length + l.length by simpa [wst] using h l (0, [])
  intro l
  induction l with
  | nil => intro s; simp
  | cons x l ih =>
    intro s
    have h1 := ih (wstep s x)
    have h2 : (wstep s x).2.length ≤ s.2.length + 1 := by
      unfold wstep
      split <;> simp
    simp only [List.foldl_cons, List.length_cons]
    omega
/-- what the loop keeps -/
def WI (w : World) (s : Int × List Int) (W : World) : Prop :=
  (∃ v, Boxed W (w.heap.size + 4) 50 v ∧ RowX (w.heap.size + 3) s.1 s.2 W v) ∧ (Boxed W (w.heap.size + 1) 9 (.string ⟨#[]⟩) ∧ Boxed W (w.heap.size + 2) 27 (.int .i64 0)) ∧ Below w.heap.size w W
def WX (w : World) (c : Code) (pre : List C256) (W : World) : Prop :=
  c = .ret ∧ (∃ x ∈ pre, x.val < 4) ∧ (Boxed W (w.heap.size + 1) 9 (.string ⟨#[]⟩) ∧ Boxed W (w.heap.size + 2) 27 (.int .i64 4)) ∧ Below w.heap.size w W
theorem WI.own {w : World} {B : Nat} (hB : w.heap.size ≤ B) (f : List C256 → Int × List Int) : OwnFrom B (fun pre W => WI w (f pre) W) := by
  rintro s X Y row ⟨⟨v, hv, hr⟩, ⟨h1, h2⟩, hb⟩ hg hrow
  have hrow' : ∀ r, row = some r → ∃ o : Obj, X.heap[r]? = some o ∧ o.isCells = false := fun r e => (hrow r e).2
  refine ⟨⟨v, cellsObj_kept hv hg hrow', hr.kept hg ?_⟩, ⟨cellsObj_kept h1 hg hrow', cellsObj_kept h2 hg hrow'⟩, hb.grown hg hb.size fun j e => Nat.le_trans hB (hrow j e).1⟩
  obtain ⟨g, cap, cur, rfl, _, hgb, _⟩ := hr
  refine .inr fun e' => ?_
  obtain ⟨o, ho, hc⟩ := hrow' g (by simpa [Value.ownBlock] using e'.symm)
  rw [hgb] at ho; cases ho; cases hc
theorem WX.own {w : World} {B : Nat} (hB : w.heap.size ≤ B) (c : Code) : OwnFrom B (WX w c) := by
  rintro s X Y row ⟨hc, hx, ⟨h1, h2⟩, hb⟩ hg hrow
  have hrow' : ∀ r, row = some r → ∃ o : Obj, X.heap[r]? = some o ∧ o.isCells = false := fun r e => (hrow r e).2
  exact ⟨hc, hx, ⟨cellsObj_kept h1 hg hrow', cellsObj_kept h2 hg hrow'⟩, hb.grown hg hb.size fun j e => Nat.le_trans hB (hrow j e).1⟩
theorem apnd {w W w2 : World} {b0 b1 b2 b3 : Int} {pre : List C256} {x : C256} {v v' : Value} {tmp : Obj} (hpre : ∀ y ∈ pre, 4 ≤ y.val) (hrow : RowX (w.heap.size + 3) (wst pre).1 (wst pre).2 W v)
    (hS : Boxed W (w.heap.size + 1) 9 (.string ⟨#[]⟩)) (hE : Boxed W (w.heap.size + 2) 27 (.int .i64 0)) (hB : Below w.heap.size w W) (hC : Held4 W (w.heap.size + 5) b0 b1 b2 b3)
    (hX : RowX (w.heap.size + 3) (wst pre).1 ((wst pre).2 ++ [((x.val : Nat) : Int)]) w2 v') (hg : (W.alloc tmp).grownBy w2 v.ownBlock) (hv2 : Boxed w2 (w.heap.size + 4) 50 v) (hv3 : Boxed (w2.setCell ⟨w.heap.size + 4, 0, none⟩ v') (w.heap.size + 4) 50 v')
    (hk : KeepsOthers W (w2.setCell ⟨w.heap.size + 4, 0, none⟩ v')) (hb : Below (w.heap.size + 3) W (w2.setCell ⟨w.heap.size + 4, 0, none⟩ v')) (h4 : 4 ≤ x.val) (h7 : ¬ (224 ≤ x.val ∧ x.val ≤ 231)) (n : Nat) :
    KeepsFrom n W (w2.setCell ⟨w.heap.size + 4, 0, none⟩ v') ∧ BoxKept (w.heap.size + 5) W (w2.setCell ⟨w.heap.size + 4, 0, none⟩ v') ∧ (∀ y ∈ pre ++ [x], 4 ≤ y.val) ∧ WI w (wst (pre ++ [x])) (w2.setCell ⟨w.heap.size + 4, 0, none⟩ v') ∧ Held4 (w2.setCell ⟨w.heap.size + 4, 0, none⟩ v') (w.heap.size + 5) b0 b1 b2 b3 := by
  have hC3 : Held4 (w2.setCell ⟨w.heap.size + 4, 0, none⟩ v') (w.heap.size + 5) b0 b1 b2 b3 := obj_app hC (fun cur e => by injection e with _ e2 _; exact absurd e2 (by decide)) hrow hg (by omega)
  refine ⟨hk.from n, ⟨hb.size, hC3.trans hC.symm⟩, fun y hy => ?_, ⟨⟨v', hv3, ?_⟩, ⟨obj_app hS (box_not (by decide)) hrow hg (by omega), obj_app hE (box_not (by decide)) hrow hg (by omega)⟩, hB.trans (hb.mono (by omega))⟩, hC3⟩
  · rcases List.mem_append.1 hy with h | h
    · exact hpre y h
    · obtain rfl : y = x := by simpa using h
      exact h4
  · rw [wst_snoc, wstep, if_neg h7]
    exact hX.kept (grownBy_setCell' w2 _ v') (.inr (hv2.not_row (by decide) hX.own).symm)
theorem orred {w W : World} {b0 b1 b2 b3 : Int} {pre : List C256} {x : C256} {g len cap : Nat} (hpre : ∀ y ∈ pre, 4 ≤ y.val) (hrow : RowX (w.heap.size + 3) (wst pre).1 (wst pre).2 W (.slice (some ⟨g, 0, none⟩) len cap)) (hv : Boxed W (w.heap.size + 4) 50 (.slice (some ⟨g, 0, none⟩) len cap))
    (hS : Boxed W (w.heap.size + 1) 9 (.string ⟨#[]⟩)) (hE : Boxed W (w.heap.size + 2) 27 (.int .i64 0)) (hB : Below w.heap.size w W) (hC : Held4 W (w.heap.size + 5) b0 b1 b2 b3) (h7 : 224 ≤ x.val ∧ x.val ≤ 231) (n : Nat) :
    KeepsFrom n W (W.setCell ⟨g, 0, none⟩ (.int .u8 (orB (wst pre).1 (x.val - 224)))) ∧ BoxKept (w.heap.size + 5) W (W.setCell ⟨g, 0, none⟩ (.int .u8 (orB (wst pre).1 (x.val - 224)))) ∧ (∀ y ∈ pre ++ [x], 4 ≤ y.val) ∧ WI w (wst (pre ++ [x])) (W.setCell ⟨g, 0, none⟩ (.int .u8 (orB (wst pre).1 (x.val - 224)))) ∧ Held4 (W.setCell ⟨g, 0, none⟩ (.int .u8 (orB (wst pre).1 (x.val - 224)))) (w.heap.size + 5) b0 b1 b2 b3 := by
  have hr2 := hrow
  obtain ⟨g', cap', cur, e, q1, q2, _⟩ := hr2
  simp only [Value.slice.injEq, Option.some.injEq, Addr.mk.injEq, and_true] at e
  obtain ⟨rfl, _, _⟩ := e
  have hne : w.heap.size + 5 ≠ g := fun e => by
    subst e
    rw [show W.heap[w.heap.size + 5]? = _ from hC] at q2
    injection Option.some.inj q2 with _ e2 _
    exact absurd e2 (by decide)
  have hC3 : Held4 (W.setCell ⟨g, 0, none⟩ (.int .u8 (orB (wst pre).1 (x.val - 224)))) (w.heap.size + 5) b0 b1 b2 b3 := (Below.heap_setCell _ _ _ _ hne).trans hC
  refine ⟨(KeepsOthers.setCell _ _ _).from n, ⟨by simp [World.setCell], hC3.trans hC.symm⟩, fun y hy => ?_, ⟨⟨_, box_at (by decide) hv q2, ?_⟩, ⟨box_at (by decide) hS q2, box_at (by decide) hE q2⟩, hB.setCell (p := ⟨g, 0, none⟩) (by show w.heap.size ≤ g; omega) _⟩, hC3⟩
  · rcases List.mem_append.1 hy with h | h
    · exact hpre y h
    · obtain rfl : y = x := by simpa using h
      omega
  · rw [wst_snoc, wstep, if_pos h7]
    exact hrow.first
theorem bad {w W : World} {pre : List C256} {x : C256} (hS : Boxed W (w.heap.size + 1) 9 (.string ⟨#[]⟩)) (hE : Boxed W (w.heap.size + 2) 27 (.int .i64 0)) (hB : Below w.heap.size w W) (h4 : x.val < 4) (n : Nat) :
    KeepsFrom n W ((W.setCell ⟨w.heap.size + 1, 0, none⟩ (.string ⟨#[]⟩)).setCell ⟨w.heap.size + 2, 0, none⟩ (.int .i64 4)) ∧ WX w .ret (pre ++ [x]) ((W.setCell ⟨w.heap.size + 1, 0, none⟩ (.string ⟨#[]⟩)).setCell ⟨w.heap.size + 2, 0, none⟩ (.int .i64 4)) := by
  refine ⟨((KeepsOthers.setCell _ _ _).trans (KeepsOthers.setCell _ _ _)).from n, rfl, ⟨x, by simp, h4⟩, ⟨(hS.set _).other (by omega) _, (hE.other (by omega) _).set _⟩, (hB.setCell (p := ⟨w.heap.size + 1, 0, none⟩) (by show w.heap.size ≤ w.heap.size + 1; omega) _).setCell (p := ⟨w.heap.size + 2, 0, none⟩) (by show w.heap.size ≤ w.heap.size + 2; omega) _⟩
/-- what Write answers -/
def keysWriteV (h : BitsL) : List UInt8 × Int :=
  if (codesB h).any (fun c => decide (c.val < 4)) = true then ([], 4)
  else if 6 < (wst (codesB h)).2.length then ([UInt8.ofNat (wst (codesB h)).1.toNat, 0, 1, 1, 1, 1, 1, 1], 0)
  else (((wst (codesB h)).1 :: 0 :: ((wst (codesB h)).2 ++ List.replicate (6 - (wst (codesB h)).2.length) 0)).map (fun n => UInt8.ofNat n.toNat), 0)
theorem res2 (W : World) (tmps : Array Value) (a b : Nat) (s : ByteArray) (k : Int) (ha : tmps.getD 2 undef = .pointer (some ⟨a, 0, none⟩)) (hb : tmps.getD 3 undef = .pointer (some ⟨b, 0, none⟩)) (h1 : Boxed W a 9 (.string s)) (h2 : Boxed W b 27 (.int .i64 k)) :
    (results Tryz.f6 tmps).run Tryz.prog W = .ok (.tuple #[.string s, .int .i64 k]) W := by
  have hres : Tryz.f6.results = #[.cell 2 9, .cell 3 27] := by kernel_rfl
  have c1 := h1.cell
  have c2 := h2.cell
  have l1 : (loadVar 9 ⟨a, 0, none⟩).run Tryz.prog W = .ok (.string s) W := by
    simp [loadVar, isAgg, run_underlying Tryz.underlying9, load, Sem.run, c1]
  have l2 : (loadVar 27 ⟨b, 0, none⟩).run Tryz.prog W = .ok (.int .i64 k) W := by
    simp [loadVar, isAgg, run_underlying Tryz.underlying27, load, Sem.run, c2]
  rw [Array.getD_eq_getD_getElem?] at ha hb
  simp only [results, hres]
  simp [Sem.run_bind, Result.andThen, ha, hb, asAddr, l1, l2]
def Mark (p : Prop) : Prop := p
theorem mark {p : Prop} (h : Mark p) : p := h
theorem make8 (w : World) : (Instr.makeSlice 50 (.int .i64 2) (.int .i64 8)).run Tryz.prog w = .ok (.slice (some ⟨w.heap.size, 0, none⟩) 2 8) (w.alloc (.cells #[.int .u8 0, .int .u8 0, .int .u8 0, .int .u8 0, .int .u8 0, .int .u8 0, .int .u8 0, .int .u8 0] 5)) := by kernel_rfl
set_option maxRecDepth 100000 in
set_option maxHeartbeats 2000000 in
theorem write_calls (b0 b1 b2 b3 : Int) (w : World) :
    Calls Tryz.prog 6 #[.agg #[.int .u64 b0, .int .u64 b1, .int .u64 b2, .int .u64 b3]] w fun e W' => e = .returned (.tuple #[.string ⟨(keysWriteV [b0, b1, b2, b3]).1.toArray⟩, .int .i64 (keysWriteV [b0, b1, b2, b3]).2]) ∧ Below w.heap.size w W' := by
  refine (callsIn_wide (n := 5)).1 ?_
  refine callsIn_of_wp_marks Tryz.func6 rfl trivial ?_ rfl
  simp only [Tryz.ntmps6, List.size_toArray, List.length_cons, List.length_nil, Nat.reduceAdd, Nat.reduceSub, Array.replicate_succ, Array.replicate_zero, List.push_toArray, List.append_toArray, List.nil_append, List.cons_append]
  gi_wp2
  rw [make8]
  gi_wp2
  refine And.intro trivial ?_
  refine (codes_in _ b0 b1 b2 b3 _).mono ?_
  rintro e w1 ⟨rfl, rfl⟩
  gi_wp2
  simp only [Nat.add_assoc, Nat.reduceAdd]
  obtain ⟨w1, hw1⟩ : ∃ w1, (((((w.alloc (.cells #[.int .u64 b0, .int .u64 b1, .int .u64 b2, .int .u64 b3] 25)).alloc (.cells #[.string ⟨#[]⟩] 9)).alloc (.cells #[.int .i64 0] 27)).alloc (.cells #[.int .u8 0, .int .u8 0, .int .u8 0, .int .u8 0, .int .u8 0, .int .u8 0, .int .u8 0, .int .u8 0] 5)).alloc (.cells #[.slice (some ⟨w.heap.size + 3, 0, none⟩) 2 8] 50)).alloc (.cells #[.int .u64 b0, .int .u64 b1, .int .u64 b2, .int .u64 b3] 25) = w1 := ⟨_, rfl⟩
  rw [hw1]
  have up : ∀ (W : World) (o : Obj) (k : Nat) (x : Obj), W.heap[k]? = some x → (W.alloc o).heap[k]? = some x := fun W o k x h => (Below.heap_alloc W o k (Array.getElem?_eq_some_iff.1 h).1).trans h
  have nw : ∀ (W : World) (o : Obj) (k : Nat), W.heap.size = k → (W.alloc o).heap[k]? = some o := fun W o k h => by rw [← h]; exact World.alloc_heap_new W o
  have hs1 : w1.heap.size = w.heap.size + 6 := by rw [← hw1]; simp
  have hB1 : Below w.heap.size w w1 := by rw [← hw1]; exact ((((((Below.refl _ w).alloc (Nat.le_refl _) _).alloc (by simp) _).alloc (by simp; omega) _).alloc (by simp; omega) _).alloc (by simp; omega) _).alloc (by simp; omega) _
  have hS : Boxed w1 (w.heap.size + 1) 9 (.string ⟨#[]⟩) := by rw [← hw1]; exact up _ _ _ _ (up _ _ _ _ (up _ _ _ _ (up _ _ _ _ (nw _ _ _ (by simp)))))
  have hE : Boxed w1 (w.heap.size + 2) 27 (.int .i64 0) := by rw [← hw1]; exact up _ _ _ _ (up _ _ _ _ (up _ _ _ _ (nw _ _ _ (by simp))))
  have hR : w1.heap[w.heap.size + 3]? = some (.cells #[.int .u8 0, .int .u8 0, .int .u8 0, .int .u8 0, .int .u8 0, .int .u8 0, .int .u8 0, .int .u8 0] 5 (0, 0)) := by rw [← hw1]; exact up _ _ _ _ (up _ _ _ _ (nw _ _ _ (by simp)))
  have hL : Boxed w1 (w.heap.size + 4) 50 (.slice (some ⟨w.heap.size + 3, 0, none⟩) 2 8) := by rw [← hw1]; exact up _ _ _ _ (nw _ _ _ (by simp))
  have hC : Held4 w1 (w.heap.size + 5) b0 b1 b2 b3 := by rw [← hw1]; exact nw _ _ _ (by simp)
  have hX : RowX (w.heap.size + 3) 0 [] w1 (.slice (some ⟨w.heap.size + 3, 0, none⟩) 2 8) := ⟨_, 8, _, rfl, Nat.le_refl _, hR, rfl, by simp, by unfold maxLen; omega, rfl, fun _ => rfl⟩
  clear hw1 up nw hR
  refine wpIn_rangeFunc_ownG rfl (by omega) (gf := 20) (lb := #[.pointer (some ⟨w.heap.size + 5, 0, none⟩)]) rfl trivial (enters_of Tryz.func20 (by kernel_rfl) rfl)
    (codes_stops _ (w.heap.size + 5) b0 b1 b2 b3 w1 (by omega) hC.cells) boxKept_t (boxKept_b (by omega)) (Below.refl _ _) (fun _ => rfl)
    (fun pre W => (∀ x ∈ pre, 4 ≤ x.val) ∧ WI w (wst pre) W ∧ Held4 W (w.heap.size + 5) b0 b1 b2 b3)
    (WX w)
    (fun s X Y row hs hg hr => ⟨hs.1, WI.own (B := w1.heap.size) (by omega) wst s X Y row hs.2.1 hg hr, cellsObj_kept hs.2.2 hg (fun r e => (hr r e).2)⟩)
    (fun c => WX.own (by omega) c)
    ⟨by simp, ⟨⟨_, hL, hX⟩, ⟨hS, hE⟩, hB1⟩, hC⟩
    (fun x => { tmps := #[.agg #[.int .u64 b0, .int .u64 b1, .int .u64 b2, .int .u64 b3], .pointer (some ⟨w.heap.size, 0, none⟩), .pointer (some ⟨w.heap.size + 1, 0, none⟩), .pointer (some ⟨w.heap.size + 2, 0, none⟩), .pointer (some ⟨w.heap.size + 4, 0, none⟩), .int .i64 ((x.val : Nat) : Int), .slice (some ⟨w.heap.size + 3, 0, none⟩) 2 8, .agg #[.int .u64 b0, .int .u64 b1, .int .u64 b2, .int .u64 b3], .func (.func 20) #[] #[.pointer (some ⟨w.heap.size + 5, 0, none⟩)], .int .i64 ((x.val : Nat) : Int), undef, undef, undef, undef, undef, undef, undef, undef, undef, undef, undef, undef, undef, undef, undef, undef, undef, undef, undef, undef, undef, undef, undef, undef, undef, undef, undef, undef, undef, undef, undef, undef, undef, undef], defers := [] }) ?assign ?body ?done ?stop
  case assign =>
    intro l x W K hK
    gi_wp2
    exact hK
  case stop =>
    rintro D c pre W hD hpre ⟨rfl, hx, ⟨h1, h2⟩, hb⟩ hK
    have c1 := h1.cell
    have c2 := h2.cell
    gi_wp2
    refine ⟨by simp, .inl ⟨_, _, rfl, run_takeDeferred hK, ?_⟩⟩
    have hb2 := belowK_b (w := w) (Nat.le_refl _) W D _ (.deferred none) (by omega) hK rfl rfl
    have e1 : Boxed (W.putObj D (.deferred none)) (w.heap.size + 1) 9 (.string ⟨#[]⟩) := (World.putObj_heap_other (by omega)).trans h1
    have e2 : Boxed (W.putObj D (.deferred none)) (w.heap.size + 2) 27 (.int .i64 4) := (World.putObj_heap_other (by omega)).trans h2
    refine ⟨_, res2 _ _ _ _ _ _ rfl rfl e1 e2, ?_, hb.trans hb2⟩
    have hany : (codesB [b0, b1, b2, b3]).any (fun c => decide (c.val < 4)) = true := by
      obtain ⟨x, hx1, hx2⟩ := hx
      exact List.any_eq_true.2 ⟨x, hpre.subset hx1, by simpa using hx2⟩
    unfold keysWriteV
    rw [if_pos hany]
  case body =>
    rintro l pre x W ⟨hpre, ⟨⟨v, hv, hrow⟩, ⟨hS2, hE2⟩, hB⟩, hC2⟩ hlt
    have hWs : w.heap.size + 5 < W.heap.size := (Array.getElem?_eq_some_iff.1 hC2).1
    have hc := hv.cell
    have hlen : (wst pre).2.length ≤ 256 := by
      have h1 := wst_len pre
      have h2 := codesB_len [b0, b1, b2, b3]
      omega
    by_cases h4 : x.val < 4
    · have t4 : ((x.val : Nat) : Int) < 4 := by omega
      have s1 := hS2.cell
      have s2 := hS2.frozen
      have s3 := hE2.cell
      have s4 := hE2.frozen
      gi_wp2
      exact bad hS2 hE2 hB h4 _
    · have t4 : ¬ ((x.val : Nat) : Int) < 4 := by omega
      by_cases h7 : 224 ≤ x.val ∧ x.val ≤ 231
      · have t5 : ((x.val : Nat) : Int) ≥ 224 := by omega
        have t6 : ((x.val : Nat) : Int) ≤ 231 := by omega
        obtain ⟨g, cap, rfl, hg0, s1, s2, hgl, ⟨cur, hcur⟩, hcap⟩ := hrow.open
        gi_wp2
        exact orred hpre hrow hv hS2 hE2 hB hC2 h7 _
      · by_cases h8 : 224 ≤ x.val
        · have t5 : ((x.val : Nat) : Int) ≥ 224 := by omega
          have t6 : ¬ ((x.val : Nat) : Int) ≤ 231 := by omega
          gi_wp2_with (gi_at_builtin; refine mark ?_)
          unfold Mark
          refine wpListIn_append_X _ rfl _ _ rfl rfl (hrow.alloc _) (by simp; omega) (by omega) ((x.val : Nat) : Int) ⟨W.heap.size, 0, none⟩ 1 rfl (by simp) ?_
          intro v' w2 hX2 hgrow
          obtain ⟨g', cap', ev, _⟩ := hX2.open
          obtain ⟨m, hm⟩ : ∃ m, 2 + ((wst pre).2 ++ [((x.val : Nat) : Int)]).length = m := ⟨_, rfl⟩
          rw [hm] at ev
          subst ev
          clear hm
          obtain ⟨hv2, hv3, hr3, hk3, hb3⟩ := hv.appended (by decide) hrow.own (by omega) (by omega) hX2.own hgrow
          have hc1 := hv2.cell
          have hf1 := hv2.frozen
          gi_wp2
          exact apnd hpre hrow hS2 hE2 hB hC2 hX2 hgrow hv2 hv3 hk3 hb3 (by omega) h7 _
        · have t5 : ¬ ((x.val : Nat) : Int) ≥ 224 := by omega
          gi_wp2_with (gi_at_builtin; refine mark ?_)
          unfold Mark
          refine wpListIn_append_X _ rfl _ _ rfl rfl (hrow.alloc _) (by simp; omega) (by omega) ((x.val : Nat) : Int) ⟨W.heap.size, 0, none⟩ 1 rfl (by simp) ?_
          intro v' w2 hX2 hgrow
          obtain ⟨g', cap', ev, _⟩ := hX2.open
          obtain ⟨m, hm⟩ : ∃ m, 2 + ((wst pre).2 ++ [((x.val : Nat) : Int)]).length = m := ⟨_, rfl⟩
          rw [hm] at ev
          subst ev
          clear hm
          obtain ⟨hv2, hv3, hr3, hk3, hb3⟩ := hv.appended (by decide) hrow.own (by omega) (by omega) hX2.own hgrow
          have hc1 := hv2.cell
          have hf1 := hv2.frozen
          gi_wp2
          exact apnd hpre hrow hS2 hE2 hB hC2 hX2 hgrow hv2 hv3 hk3 hb3 (by omega) h7 _
  case done =>
    rintro D ys W hD rfl ⟨hpre, ⟨⟨v, hv, hrow⟩, ⟨hS2, hE2⟩, hB⟩, hC2⟩ hK
    have hc := hv.cell
    obtain ⟨g, cap, cur, rfl, q1, q2, q3, q4, q5, q6, q7⟩ := hrow
    generalize hst : wst (codesB [b0, b1, b2, b3]) = st at *
    have s1 := hS2.cell
    have s2 := hS2.frozen
    have s3 := hE2.cell
    have s4 := hE2.frozen
    have hnone : ¬ (codesB [b0, b1, b2, b3]).any (fun c => decide (c.val < 4)) = true := by
      intro h
      obtain ⟨x, hx1, hx2⟩ := List.any_eq_true.1 h
      have := hpre x hx1
      simp at hx2
      omega
    have fin : ∀ s : ByteArray, Boxed (((W.setCell ⟨w.heap.size + 1, 0, none⟩ (.string s)).setCell ⟨w.heap.size + 2, 0, none⟩ (.int .i64 0)).putObj D (.deferred none)) (w.heap.size + 1) 9 (.string s) ∧ Boxed (((W.setCell ⟨w.heap.size + 1, 0, none⟩ (.string s)).setCell ⟨w.heap.size + 2, 0, none⟩ (.int .i64 0)).putObj D (.deferred none)) (w.heap.size + 2) 27 (.int .i64 0)
        ∧ ((W.setCell ⟨w.heap.size + 1, 0, none⟩ (.string s)).setCell ⟨w.heap.size + 2, 0, none⟩ (.int .i64 0)).heap[D]? = some (.deferred (some [])) ∧ Below w.heap.size w (((W.setCell ⟨w.heap.size + 1, 0, none⟩ (.string s)).setCell ⟨w.heap.size + 2, 0, none⟩ (.int .i64 0)).putObj D (.deferred none)) := fun s => by
      have hk2 : ((W.setCell ⟨w.heap.size + 1, 0, none⟩ (.string s)).setCell ⟨w.heap.size + 2, 0, none⟩ (.int .i64 0)).heap[D]? = some (.deferred (some [])) := (Below.heap_setCell _ _ _ D (by show D ≠ w.heap.size + 2; omega)).trans ((Below.heap_setCell _ _ _ D (by show D ≠ w.heap.size + 1; omega)).trans hK)
      refine ⟨(World.putObj_heap_other (by omega)).trans ((hS2.set _).other (by omega) _), (World.putObj_heap_other (by omega)).trans ((hE2.other (by omega) _).set _), hk2, ?_⟩
      exact ((hB.setCell (p := ⟨w.heap.size + 1, 0, none⟩) (by show w.heap.size ≤ w.heap.size + 1; omega) _).setCell (p := ⟨w.heap.size + 2, 0, none⟩) (by show w.heap.size ≤ w.heap.size + 2; omega) _).trans (belowK_b (w := w) (Nat.le_refl _) _ D _ (.deferred none) (by omega) hk2 rfl rfl)
    by_cases h6 : 6 < st.2.length
    · have t1 : ((2 + st.2.length : Nat) : Int) > 8 := by omega
      have t2 : 2 ≤ cap := by omega
      have hcv := conv_row (P := Tryz.prog) (src := 50) (dst := 9) Tryz.underlying50 Tryz.underlying5 Tryz.underlying9 q2 [st.1, 0] 2 cap rfl (by
        have e : cur.toList.take 2 = (cur.toList.take (2 + st.2.length)).take 2 := by rw [List.take_take]; congr 1; omega
        rw [e, q6]; rfl)
      rw [show strOfNums [st.1, 0] = ⟨#[UInt8.ofNat st.1.toNat, 0]⟩ from rfl] at hcv
      gi_wp2
      obtain ⟨f1, f2, f3, f4⟩ := fin (⟨#[UInt8.ofNat st.1.toNat, 0]⟩ ++ ⟨#[1, 1, 1, 1, 1, 1]⟩)
      refine ⟨by simp, .inl ⟨_, _, rfl, run_takeDeferred f3, ?_⟩⟩
      refine ⟨_, res2 _ _ _ _ _ _ rfl rfl f1 f2, ?_, f4⟩
      unfold keysWriteV
      rw [if_neg hnone, hst, if_pos h6]
      rfl
    · have t1 : ¬ ((2 + st.2.length : Nat) : Int) > 8 := by omega
      have t2 : cap = 8 := by
        have := congrArg List.length (q7 (by omega))
        simp [u8s] at this
        omega
      have t3 : cur.size = 8 := by omega
      clear q3
      subst t2
      have hcv := conv_row (P := Tryz.prog) (src := 50) (dst := 9) Tryz.underlying50 Tryz.underlying5 Tryz.underlying9 q2 (st.1 :: 0 :: (st.2 ++ List.replicate (6 - st.2.length) 0)) 8 8 (by simp; omega) (by
        rw [List.take_of_length_le (by simp; omega)]; exact q7 (by omega))
      gi_wp2
      obtain ⟨f1, f2, f3, f4⟩ := fin (strOfNums (st.1 :: 0 :: (st.2 ++ List.replicate (6 - st.2.length) 0)))
      refine ⟨by simp, .inl ⟨_, _, rfl, run_takeDeferred f3, ?_⟩⟩
      refine ⟨_, res2 _ _ _ _ _ _ rfl rfl f1 f2, ?_, f4⟩
      unfold keysWriteV
      rw [if_neg hnone, hst, if_neg h6]
      rfl
end Go.Proofs.YtdomallemkbinaaGreatDoor
