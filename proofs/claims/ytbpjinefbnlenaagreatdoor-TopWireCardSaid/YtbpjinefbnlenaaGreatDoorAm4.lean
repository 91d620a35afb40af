/- A machine of values, part 4: operations that only compute. -/
import Derived.Test.YtbpjinefbnlenaaGreatDoorAm3
import Derived.Laws.BytesArg
import Derived.Laws.BytesString
namespace Go.Proofs.YtbpjinefbnlenaaGreatDoor
open Go Go.RowKit
set_option linter.unusedVariables false

/-- an operation that writes nothing of the machine's: its value, its new blocks, its conditions -/
def PureOp (P : Program) (o : Oper) (ts : List AV) (mem : List Blk) (base : Nat) (av : AV) (new : List Blk) (C : Prop) : Prop :=
  ∀ (B : Nat) (w : World) (G : Gh) (a : Act), C → MemR B w G mem → TmpsR w G ts a → (∀ t r, r ∈ (ts.getD t .unk).refs → r < base) → (∀ i r, r ∈ (lk mem i).refs → r < base) →
    ∀ (next : Act → World → Prop) (Q : Exit → Act → World → Prop), (∀ v w' G', NewR w w' G G' base new → ValR w' G' av v → next (a.put o.dst v) w') → o.wp P a w next Q
theorem pure_val {P : Program} {o : Oper} {ts : List AV} {mem : List Blk} {base : Nat} {av : AV} {C : Prop}
    (h : ∀ (B : Nat) (w : World) (G : Gh) (a : Act), C → MemR B w G mem → TmpsR w G ts a → ∃ v, (execOp a.eval o).run P w = .ok (.value v) w ∧ ValR w G av v) : PureOp P o ts mem base av [] C := by
  intro B w G a hC hm ht _ _ next Q hn
  obtain ⟨v, hr, hv⟩ := h B w G a hC hm ht
  unfold Oper.wp
  rw [hr]
  exact hn v w G (NewR.none (Below.refl _ _)) hv
theorem flat_tup {a : AV} (h : a.flat = true) : ∀ b, a ≠ .tup b := by intro b e; subst e; cases h
theorem val_int {w : World} {G : Gh} {k : IntKind} {n : Int} {v : Value} (h : ValR w G (.int k n) v) : v = .int k n := by
  have h' : [v] = [Value.int k n] := h
  simpa using h'
theorem val_bool {w : World} {G : Gh} {b : Bool} {v : Value} (h : ValR w G (.bool b) v) : v = .bool b := by
  have h' : [v] = [Value.bool b] := h
  simpa using h'
theorem val_str {w : World} {G : Gh} {s : List UInt8} {v : Value} (h : ValR w G (.str s) v) : v = .string ⟨s.toArray⟩ := by
  have h' : [v] = [Value.string ⟨s.toArray⟩] := h
  simpa using h'

/-! numbers -/
def bitsI (op : BinOp) (k : IntKind) (x y : Int) : Int := Go.bits op k x y
def shlI (k : IntKind) (x y : Int) : Int := k.wrap (x * 2 ^ (min y.toNat k.bits))
def shrI (k : IntKind) (x y : Int) : Int := x.fdiv (2 ^ (min y.toNat k.bits))
/-- two numbers of one kind -/
def binI (op : BinOp) (k : IntKind) (x y : Int) : Option (AV × Prop) :=
  match op with
  | .add => some (.int k (k.wrap (x + y)), True)
  | .sub => some (.int k (k.wrap (x - y)), True)
  | .mul => some (.int k (k.wrap (x * y)), True)
  | .quo => some (.int k (k.wrap (x.tdiv y)), y ≠ 0)
  | .rem => some (.int k (x.tmod y), y ≠ 0)
  | .and => some (.int k (bitsI .and k x y), True)
  | .or => some (.int k (bitsI .or k x y), True)
  | .xor => some (.int k (bitsI .xor k x y), True)
  | .andNot => some (.int k (bitsI .andNot k x y), True)
  | .eql => some (.bool (x == y), True)
  | .neq => some (.bool (x != y), True)
  | .lss => some (.bool (decide (x < y)), True)
  | .leq => some (.bool (decide (x ≤ y)), True)
  | .gtr => some (.bool (decide (x > y)), True)
  | .geq => some (.bool (decide (x ≥ y)), True)
  | .shl => some (.int k (shlI k x y), 0 ≤ y)
  | .shr => some (.int k (shrI k x y), 0 ≤ y)
theorem str_toList (s : List UInt8) : (⟨s.toArray⟩ : ByteArray).toList = s := by
  rw [ByteArray.toList_eq]
theorem str_cat (l m : List UInt8) : (⟨l.toArray⟩ : ByteArray) ++ ⟨m.toArray⟩ = ⟨(l ++ m).toArray⟩ := by
  apply ByteArray.ext
  simp [ByteArray.data_append]
theorem str_size (s : List UInt8) : (⟨s.toArray⟩ : ByteArray).size = s.length := by simp [ByteArray.size]
/-- two texts -/
def binS (op : BinOp) (x y : List UInt8) : Option (AV × Prop) :=
  match op with
  | .add => some (.str (x ++ y), x.length + y.length ≤ 9223372036854775807)
  | .eql => some (.bool (x == y), True)
  | .neq => some (.bool (!(x == y)), True)
  | .lss => some (.bool (Op.bytesLess x y), True)
  | .leq => some (.bool (Op.bytesLess x y || x == y), True)
  | .gtr => some (.bool (!(Op.bytesLess x y || x == y)), True)
  | .geq => some (.bool (!Op.bytesLess x y), True)
  | _ => none
theorem run_binI {P : Program} {w : World} {op : BinOp} {k k' : IntKind} {x y : Int} {av : AV} {C : Prop} (hk : k = k' ∨ op = .shl ∨ op = .shr) (h : binI op k x y = some (av, C)) (hC : C) (t : TypeId) :
    ∃ v, (binOp op t (.int k x) (.int k' y)).run P w = .ok v w ∧ ∀ G, ValR w G av v := by
  cases op <;> simp only [binI, Option.some.injEq, Prod.mk.injEq] at h <;> obtain ⟨rfl, rfl⟩ := h
  case shl => exact ⟨_, by simp [binOp, Op.shift, shlI, Int.not_lt.2 hC], fun G => rfl⟩
  case shr => exact ⟨_, by simp [binOp, Op.shift, shrI, Int.not_lt.2 hC], fun G => rfl⟩
  all_goals
    have hk' : k = k' := by rcases hk with h | h | h <;> first | exact h | cases h
    subst hk'
    first
      | exact ⟨_, by simp [binOp, Op.intArith]; rfl, fun G => rfl⟩
      | exact ⟨_, by simp [binOp]; simp only [Op.intDiv, if_neg hC]; rfl, fun G => rfl⟩
      | exact ⟨_, by simp [binOp]; rfl, fun G => rfl⟩
      | exact ⟨_, by simp [binOp, Op.intCmp]; rfl, fun G => rfl⟩
theorem run_binS {P : Program} {w : World} {op : BinOp} {x y : List UInt8} {av : AV} {C : Prop} (h : binS op x y = some (av, C)) (hC : C) (t : TypeId) :
    ∃ v, (binOp op t (.string ⟨x.toArray⟩) (.string ⟨y.toArray⟩)).run P w = .ok v w ∧ ∀ G, ValR w G av v := by
  cases op <;> simp only [binS, Option.some.injEq, Prod.mk.injEq, reduceCtorEq] at h <;> obtain ⟨rfl, rfl⟩ := h
  case add =>
    refine ⟨_, ?_, fun G => rfl⟩
    have e : ¬ ((x.length + y.length : Nat) : Int) > IntKind.i64.max := by
      have : IntKind.i64.max = 9223372036854775807 := by decide
      omega
    simp only [binOp, Op.stringOp, str_size, if_neg e, str_cat]
    rfl
  all_goals exact ⟨_, by simp only [binOp, Op.stringOp, str_toList]; rfl, fun G => rfl⟩
/-- '==' of bools -/
theorem run_eqB {P : Program} {w : World} {x y : Bool} (d : Nat) (t : TypeId) (ht : P.underlying t = some .bool) : (Op.equalIn (d + 1) t (.bool x) (.bool y)).run P w = .ok (x == y) w := by
  simp only [Op.equalIn, Sem.run_bind, run_underlying ht, Result.andThen_ok]
  rfl
theorem run_binB {P : Program} {w : World} {x y : Bool} (t : TypeId) (ht : P.underlying t = some .bool) :
    (binOp .eql t (.bool x) (.bool y)).run P w = .ok (.bool (x == y)) w ∧ (binOp .neq t (.bool x) (.bool y)).run P w = .ok (.bool (!(x == y))) w := by
  have h := run_eqB (w := w) (x := x) (y := y) 9999 t ht
  constructor
  · show (do let r ← Op.equalIn (9999 + 1) t (.bool x) (.bool y); pure (.bool r) : Sem Value).run P w = _
    simp only [Sem.run_bind, h, Result.andThen_ok]
    rfl
  · show (do let r ← Op.equalIn (9999 + 1) t (.bool x) (.bool y); pure (.bool !r) : Sem Value).run P w = _
    simp only [Sem.run_bind, h, Result.andThen_ok]
    rfl
def evBin (P : Program) (op : BinOp) (t : TypeId) (a b : AV) : Option (AV × Prop) :=
  match a, b with
  | .int k x, .int k' y => if k = k' ∨ op = .shl ∨ op = .shr then binI op k x y else none
  | .str x, .str y => binS op x y
  | .bool x, .bool y =>
    match P.underlying t with
    | some .bool =>
      match op with
      | .eql => some (.bool (x == y), True)
      | .neq => some (.bool (!(x == y)), True)
      | _ => none
    | _ => none
  | _, _ => none
theorem evBin_ok {P : Program} {w : World} {G : Gh} {op : BinOp} {t : TypeId} {a b av : AV} {C : Prop} {u v : Value} (x y : Operand) (h : evBin P op t a b = some (av, C)) (hC : C) (ha : ValR w G a u) (hb : ValR w G b v) :
    ∃ r, (do eqGuard op t x y u v; binOp op t u v : Sem Value).run P w = .ok r w ∧ ValR w G av r := by
  unfold evBin at h
  split at h
  · rename_i k p k' q
    split at h
    · rename_i hk
      rw [val_int ha, val_int hb]
      obtain ⟨r, hr, hv⟩ := run_binI (P := P) (w := w) (k' := k') hk h hC t
      refine ⟨r, ?_, hv G⟩
      have e : (eqGuard op t x y (.int k p) (.int k' q)).run P w = .ok () w := by unfold eqGuard; split <;> rfl
      simp only [Sem.run_bind, e, Result.andThen_ok, hr]
    · cases h
  · rename_i p q
    rw [val_str ha, val_str hb]
    obtain ⟨r, hr, hv⟩ := run_binS (P := P) (w := w) h hC t
    refine ⟨r, ?_, hv G⟩
    have e : (eqGuard op t x y (.string ⟨p.toArray⟩) (.string ⟨q.toArray⟩)).run P w = .ok () w := by unfold eqGuard; split <;> rfl
    simp only [Sem.run_bind, e, Result.andThen_ok, hr]
  · rename_i p q
    rw [val_bool ha, val_bool hb]
    split at h
    · rename_i ht
      have e : (eqGuard op t x y (.bool p) (.bool q)).run P w = .ok () w := by unfold eqGuard; split <;> rfl
      split at h <;> simp only [Option.some.injEq, Prod.mk.injEq, reduceCtorEq] at h <;> obtain ⟨rfl, rfl⟩ := h
      · exact ⟨_, by simp only [Sem.run_bind, e, Result.andThen_ok, (run_binB (w := w) t ht).1], rfl⟩
      · exact ⟨_, by simp only [Sem.run_bind, e, Result.andThen_ok, (run_binB (w := w) t ht).2], rfl⟩
    · cases h
  · cases h
def evUn (op : UnOp) (a : AV) : Option AV :=
  match op, a with
  | .neg, .int k n => some (.int k (k.wrap (0 - n)))
  | .xor, .int k n => some (.int k (bitsI .xor k (if k.signed then -1 else k.max) n))
  | .not, .bool b => some (.bool !b)
  | _, _ => none
theorem evUn_ok {P : Program} {w : World} {G : Gh} {op : UnOp} {a av : AV} {u : Value} (h : evUn op a = some av) (ha : ValR w G a u) : ∃ r, (Op.unary op u).run P w = .ok r w ∧ ValR w G av r := by
  unfold evUn at h
  split at h <;> simp only [Option.some.injEq, reduceCtorEq] at h
  · subst h; rw [val_int ha]; exact ⟨_, rfl, rfl⟩
  · subst h; rw [val_int ha]; exact ⟨_, rfl, rfl⟩
  · subst h; rw [val_bool ha]; exact ⟨_, rfl, rfl⟩
theorem CatR.ints {w : World} {fz : Nat → Prop} {k : IntKind} : ∀ {l : List Int} {cs : List Value}, CatR (ShR w fz (.int k)) l cs → cs = l.map (Value.int k)
  | [], cs, h => h
  | x :: l, cs, ⟨c1, c2, e, h1, h2⟩ => by
    have e1 : c1 = [Value.int k x] := h1
    have e2 := CatR.ints h2
    rw [e, e1, e2]; rfl
/-- 'string(b)' of a slice of bytes that reads as these numbers -/
theorem run_convBytes {P : Program} {w : World} {fz : Nat → Prop} (src e : TypeId) (hs : P.underlying src = some (.slice e)) (he : P.underlying e = some (.int .u8)) (dst : TypeId) (hd : P.underlying dst = some .string)
    {v : Value} {xs : List Int} (h : ShR w fz (.sl (.int .u8)) xs [v]) : (convert src dst v).run P w = .ok (.string (strOfNums xs)) w := by
  obtain ⟨a, cap, e1, hc, hm, hx⟩ := h
  obtain rfl : v = .slice a xs.length cap := by simpa using e1
  by_cases h0 : xs.length = 0
  · obtain rfl : xs = [] := List.length_eq_zero_iff.1 h0
    cases a with
    | none => rw [List.length_nil, run_convert_bytes_nil w src e hs he 0 cap dst hd]; rfl
    | some a =>
      rw [List.length_nil, run_convert_bytes_string w src dst e _ 0 cap hs he hd, run_bytesToString w _ 0 cap [] (by simpa using run_loadCells_list (P := P) w a [] (fun j v hj => by simp at hj))]
      rfl
  · obtain ⟨b, off, cells, rfl, _, _, hcat, hcell⟩ := hx (by omega)
    have hcs := CatR.ints hcat
    subst hcs
    refine run_convert_bytes_arg w src e hs he b off xs.length cap xs rfl (fun i hi => ?_) dst hd
    rw [hcell i (.int .u8 (xs.getD i 0))]
    rw [List.getElem?_map, getD_some (d := 0) hi]; rfl
/-- bytes as numbers, and back -/
def strOf (l : List Int) : List UInt8 := l.map fun n => UInt8.ofNat n.toNat
def evConv (P : Program) (src dst : TypeId) (a : AV) : Option AV :=
  match P.underlying src, P.underlying dst, a with
  | some _, some (.int k), .int _ n => some (.int k (k.wrap n))
  | some _, some .string, .str s => some (.str s)
  | some (.slice e), some .string, .sl (.int .u8) l =>
    match P.underlying e with
    | some (.int .u8) => some (.str (strOf l))
    | _ => none
  | _, _, _ => none
theorem evConv_ok {P : Program} {w : World} {G : Gh} {src dst : TypeId} {a av : AV} {u : Value} (h : evConv P src dst a = some av) (ha : ValR w G a u) : ∃ r, (convert src dst u).run P w = .ok r w ∧ ValR w G av r := by
  unfold evConv at h
  split at h
  · rename_i d k k' n h1 h2
    simp only [Option.some.injEq] at h
    subst h
    rw [val_int ha]
    refine ⟨_, ?_, rfl⟩
    simp only [convert, Sem.run_bind, run_underlying h1, run_underlying h2, Result.andThen_ok]
    rfl
  · rename_i d s h1 h2
    simp only [Option.some.injEq] at h
    subst h
    rw [val_str ha]
    refine ⟨_, ?_, rfl⟩
    simp only [convert, Sem.run_bind, run_underlying h1, run_underlying h2, Result.andThen_ok]
    rfl
  · rename_i e l h1 h2
    split at h
    · rename_i h3
      simp only [Option.some.injEq] at h
      subst h
      refine ⟨_, run_convBytes src e h1 h3 dst h2 (show ShR w G.fz (.sl (.int .u8)) l [u] from ha), ?_⟩
      show [Value.string (strOfNums l)] = [Value.string ⟨(strOf l).toArray⟩]
      rfl
    · cases h
  · cases h
end Go.Proofs.YtbpjinefbnlenaaGreatDoor
