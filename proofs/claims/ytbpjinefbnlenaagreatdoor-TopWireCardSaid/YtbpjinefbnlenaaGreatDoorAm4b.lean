/- A machine of values, part 4b: '==' of structs and arrays. -/
import Derived.Test.YtbpjinefbnlenaaGreatDoorAm6
import Derived.ChangeKeysEq
import Derived.Laws.StructEq
import Derived.LaidEqlPtr
import Derived.Lib.Builder
namespace Go.Proofs.YtbpjinefbnlenaaGreatDoor
open Go Go.RowKit
set_option linter.unusedVariables false

def Sh.beq : (s : Sh) → s.T → s.T → Bool
  | .int _, x, y => (x == y : Bool)
  | .bool, x, y => (x == y : Bool)
  | .str, x, y => (x == y : Bool)
  | .unit, _, _ => true
  | .pair a b, x, y => a.beq x.1 y.1 && b.beq x.2 y.2
  | .st a, x, y => a.beq x y
  | .arr n a, x, y => (List.range n).all fun i => a.beq (x.getD i a.dflt) (y.getD i a.dflt)
  | .sl _, _, _ => true
mutual
def eqTy (P : Program) : Nat → TypeId → Sh → Bool
  | 0, _, _ => false
  | n + 1, t, .int k => (match P.underlying t with | some (.int q) => q == k | _ => false)
  | n + 1, t, .bool => (match P.underlying t with | some .bool => true | _ => false)
  | n + 1, t, .str => (match P.underlying t with | some .string => true | _ => false)
  | n + 1, t, .arr m a => (match P.underlying t with | some (.array q e) => q == m && (eqTy P n e a && ((match P.info? e with | some i => i.size == a.size | none => false) && (match P.info? t with | some i => i.size == m * a.size | none => false))) | _ => false)
  | n + 1, t, .st a => (match P.underlying t with | some (.struct fs) => !P.stoodInHeld t && (eqFs P n fs.toList a 0 && (match P.info? t with | some i => i.size == a.size | none => false)) | _ => false)
  | _ + 1, _, _ => false
def eqFs (P : Program) : Nat → List Field → Sh → Nat → Bool
  | 0, _, _, _ => false
  | n + 1, [], .unit, _ => true
  | n + 1, [f], s, off => f.name != "_" && (f.offset == off && eqTy P n f.type s)
  | n + 1, f :: g :: l, .pair a b, off => f.name != "_" && (f.offset == off && (eqTy P n f.type a && eqFs P n (g :: l) b (off + a.size)))
  | _, _, _, _ => false
end

theorem eqTy_ld {P : Program} {n : Nat} {t : TypeId} {s : Sh} (x : s.T) (h : eqTy P n t s = true) : ldOk P t (s.av x) = true := by
  cases n with
  | zero => cases s <;> simp [eqTy] at h
  | succ n =>
    cases s with
    | int k =>
      simp only [eqTy] at h
      split at h
      · rename_i q hu
        simp [ldOk, hu, Sh.av, AV.flat]
      · cases h
    | bool =>
      simp only [eqTy] at h
      split at h
      · rename_i hu
        simp [ldOk, hu, Sh.av, AV.flat]
      · cases h
    | str =>
      simp only [eqTy] at h
      split at h
      · rename_i hu
        simp [ldOk, hu, Sh.av, AV.flat]
      · cases h
    | st a =>
      simp only [eqTy] at h
      split at h
      · rename_i fs hu
        simp only [Bool.and_eq_true] at h
        simp only [ldOk, hu, Sh.av, AV.agg, AV.size, Sh.av_size, Bool.true_and]
        exact h.2.2
      · cases h
    | arr m a =>
      simp only [eqTy] at h
      split at h
      · rename_i q e hu
        simp only [Bool.and_eq_true] at h
        simp only [ldOk, hu, Sh.av, AV.agg, AV.size, Bool.true_and]
        exact h.2.2.2
      · cases h
    | _ => simp [eqTy] at h
theorem part_sh {P : Program} {w : World} {G : Gh} {n : Nat} {t : TypeId} {s : Sh} {x : s.T} {c2 : List Value} (c1 c3 : List Value) (h : eqTy P n t s = true) (hc : ShR w G.fz s x c2) :
    ∃ v, (part t (c1 ++ c2 ++ c3).toArray c1.length).run P w = .ok v w ∧ ValR w G (s.av x) v :=
  part_ok (eqTy_ld x h) ((CellsR.av s x c2).2 hc)
theorem eqi_ok {P : Program} {w : World} {G : Gh} : ∀ (n : Nat) (e : TypeId) (a : Sh) (x y : List a.T) (cs ds : Array Value) (d : Nat), eqTy P n e a = true → (∀ (x y : a.T) (u v : Value), ValR w G (a.av x) u → ValR w G (a.av y) v → (Op.equalIn (d + n) e u v).run P w = .ok (a.beq x y) w) → CatR (ShR w G.fz a) x cs.toList → CatR (ShR w G.fz a) y ds.toList →
    ∀ (q : Nat), x.length = q → y.length = q → ∀ is : List Nat, (∀ i ∈ is, i < q) → (Op.eqItems (d + n) e a.size cs ds is).run P w = .ok (is.all fun i => a.beq (x.getD i a.dflt) (y.getD i a.dflt)) w
  | n, e, a, x, y, cs, ds, d, he, IH, hx, hy, q, hlx, hly, [], _ => by simp [Op.eqItems]
  | n, e, a, x, y, cs, ds, d, he, IH, hx, hy, q, hlx, hly, i :: is, hall => by
    have hi : i < q := hall i (by simp)
    have e1 : x[i]? = some (x.getD i a.dflt) := getD_some (by omega)
    have e2 : y[i]? = some (y.getD i a.dflt) := getD_some (by omega)
    obtain ⟨a1, c1, b1, f1, g1, h1, -, -⟩ := CatR.at (fun z c hz => ShR.length a z c hz) hx e1
    obtain ⟨a2, c2, b2, f2, g2, h2, -, -⟩ := CatR.at (fun z c hz => ShR.length a z c hz) hy e2
    obtain ⟨v1, p1, r1⟩ := part_sh (P := P) (G := G) a1 b1 he h1
    obtain ⟨v2, p2, r2⟩ := part_sh (P := P) (G := G) a2 b2 he h2
    rw [← f1, g1] at p1
    rw [← f2, g2] at p2
    have ih := IH _ _ v1 v2 r1 r2
    have ih2 := eqi_ok n e a x y cs ds d he IH hx hy q hlx hly is (fun j hj => hall j (by simp [hj]))
    simp only [Op.eqItems, Sem.run_bind, p1, p2, ih, Result.andThen_ok, List.all_cons]
    cases a.beq (x.getD i a.dflt) (y.getD i a.dflt)
    · simp
    · simpa using ih2
mutual
theorem eq_ok {P : Program} {w : World} {G : Gh} : ∀ (n : Nat) (t : TypeId) (s : Sh) (x y : s.T) (u v : Value) (d : Nat), eqTy P n t s = true → ValR w G (s.av x) u → ValR w G (s.av y) v → (Op.equalIn (d + n) t u v).run P w = .ok (s.beq x y) w
  | 0, t, s, x, y, u, v, d, h, hx, hy => by cases s <;> simp [eqTy] at h
  | n + 1, t, .int k, x, y, u, v, d, h, hx, hy => by
    simp only [eqTy] at h
    split at h
    · rename_i q hu
      obtain rfl : u = .int k x := by simpa using (show [u] = [Value.int k x] from hx)
      obtain rfl : v = .int k y := by simpa using (show [v] = [Value.int k y] from hy)
      rw [show d + (n + 1) = (d + n) + 1 from rfl, run_equalIn_int w (d + n) t k q x y hu]; rfl
    · cases h
  | n + 1, t, .bool, x, y, u, v, d, h, hx, hy => by
    simp only [eqTy] at h
    split at h
    · rename_i hu
      obtain rfl : u = .bool x := by simpa using (show [u] = [Value.bool x] from hx)
      obtain rfl : v = .bool y := by simpa using (show [v] = [Value.bool y] from hy)
      rw [show d + (n + 1) = (d + n) + 1 from rfl, run_equalIn_bool' w (d + n) t x y hu]; rfl
    · cases h
  | n + 1, t, .str, x, y, u, v, d, h, hx, hy => by
    simp only [eqTy] at h
    split at h
    · rename_i hu
      obtain rfl : u = .string ⟨List.toArray x⟩ := by simpa using (show [u] = [Value.string ⟨List.toArray x⟩] from hx)
      obtain rfl : v = .string ⟨List.toArray y⟩ := by simpa using (show [v] = [Value.string ⟨List.toArray y⟩] from hy)
      rw [show d + (n + 1) = (d + n) + 1 from rfl, run_equalIn_string w (d + n) t _ _ hu, ByteArray.toList_eq, ByteArray.toList_eq]; rfl
    · cases h
  | n + 1, t, .st a, x, y, u, v, d, h, hx, hy => by
    simp only [eqTy] at h
    split at h
    · rename_i fs hu
      simp only [Bool.and_eq_true, Bool.not_eq_true'] at h
      obtain ⟨hp, hf, hi⟩ := h
      obtain ⟨cs, rfl, hcx⟩ := hx
      obtain ⟨ds, rfl, hcy⟩ := hy
      have hfo : P.fieldsOf t = fs := by simp only [Program.fieldsOf, hu]
      rw [show d + (n + 1) = (d + n) + 1 from rfl, run_equalIn_struct w (d + n) t cs ds (by rw [hfo]; exact hu) hp, hfo]
      have := eqf_ok n fs.toList a 0 x y [] cs.toList [] ds.toList d hf rfl rfl ((CellsR.av a x _).1 hcx) ((CellsR.av a y _).1 hcy)
      simpa [Sh.beq] using this
    · cases h
  | n + 1, t, .arr m a, x, y, u, v, d, h, hx, hy => by
    simp only [eqTy] at h
    split at h
    · rename_i q e hu
      simp only [Bool.and_eq_true, beq_iff_eq] at h
      obtain ⟨rfl, he, hi, -⟩ := h
      obtain ⟨cs, rfl, hlx, hcx⟩ := hx
      obtain ⟨ds, rfl, hly, hcy⟩ := hy
      cases hin : P.info? e with
      | none => rw [hin] at hi; cases hi
      | some i =>
        rw [hin] at hi
        have hz : P.cellsOf e = a.size := by simp only [Program.cellsOf, hin]; simpa using hi
        rw [show d + (n + 1) = (d + n) + 1 from rfl, run_equalIn_array w (d + n) cs ds hu hin, hz]
        exact eqi_ok n e a x y cs ds d he (fun x y u v hx hy => eq_ok n e a x y u v d he hx hy) hcx hcy q hlx hly (List.range q) (fun i hi => List.mem_range.1 hi)
    · cases h
  | n + 1, t, .unit, x, y, u, v, d, h, hx, hy => by simp [eqTy] at h
  | n + 1, t, .pair a b, x, y, u, v, d, h, hx, hy => by simp [eqTy] at h
  | n + 1, t, .sl a, x, y, u, v, d, h, hx, hy => by simp [eqTy] at h
theorem eqf_ok {P : Program} {w : World} {G : Gh} : ∀ (n : Nat) (fs : List Field) (s : Sh) (off : Nat) (x y : s.T) (c1 cx c2 cy : List Value) (d : Nat), eqFs P n fs s off = true → c1.length = off → c2.length = off →
    ShR w G.fz s x cx → ShR w G.fz s y cy → (Op.eqFields (d + n) (c1 ++ cx).toArray (c2 ++ cy).toArray fs).run P w = .ok (s.beq x y) w
  | 0, fs, s, off, x, y, c1, cx, c2, cy, d, h, hl1, hl2, hx, hy => by simp [eqFs] at h
  | n + 1, [], s, off, x, y, c1, cx, c2, cy, d, h, hl1, hl2, hx, hy => by
    cases s <;> simp [eqFs] at h
    simp [Op.eqFields, Sh.beq]
  | n + 1, [f], s, off, x, y, c1, cx, c2, cy, d, h, hl1, hl2, hx, hy => by
    simp only [eqFs, Bool.and_eq_true, bne_iff_ne, ne_eq, beq_iff_eq] at h
    obtain ⟨hn, hoff, ht⟩ := h
    obtain ⟨v1, p1, r1⟩ := part_sh (P := P) (G := G) c1 [] ht hx
    obtain ⟨v2, p2, r2⟩ := part_sh (P := P) (G := G) c2 [] ht hy
    rw [List.append_nil, hl1, ← hoff] at p1
    rw [List.append_nil, hl2, ← hoff] at p2
    have ih := eq_ok n f.type s x y v1 v2 (d + 1) ht r1 r2
    rw [show d + 1 + n = d + (n + 1) by omega] at ih
    simp only [Op.eqFields, hn, ne_eq, not_false_eq_true, if_true, Sem.run_bind, p1, p2, ih, Result.andThen_ok]
    cases s.beq x y <;> simp
  | n + 1, f :: g :: l, s, off, x, y, c1, cx, c2, cy, d, h, hl1, hl2, hx, hy => by
    cases s with
    | pair a b =>
      simp only [eqFs, Bool.and_eq_true, bne_iff_ne, ne_eq, beq_iff_eq] at h
      obtain ⟨hn, hoff, ht, hr⟩ := h
      obtain ⟨xa, xb, rfl, hxa, hxb⟩ := hx
      obtain ⟨ya, yb, rfl, hya, hyb⟩ := hy
      obtain ⟨v1, p1, r1⟩ := part_sh (P := P) (G := G) c1 xb ht hxa
      obtain ⟨v2, p2, r2⟩ := part_sh (P := P) (G := G) c2 yb ht hya
      rw [List.append_assoc, hl1, ← hoff] at p1
      rw [List.append_assoc, hl2, ← hoff] at p2
      have ih := eq_ok n f.type a x.1 y.1 v1 v2 (d + 1) ht r1 r2
      rw [show d + 1 + n = d + (n + 1) by omega] at ih
      have ih2 := eqf_ok n (g :: l) b (off + a.size) x.2 y.2 (c1 ++ xa) xb (c2 ++ ya) yb (d + 1) hr (by rw [List.length_append, hl1, ShR.length a _ _ hxa]) (by rw [List.length_append, hl2, ShR.length a _ _ hya]) hxb hyb
      rw [show d + 1 + n = d + (n + 1) by omega, List.append_assoc, List.append_assoc] at ih2
      have e : (f.name ≠ "_") = True := by simp [hn]
      rw [Op.eqFields]
      simp only [e, if_true, Sem.run_bind, p1, p2, ih, Result.andThen_ok, Sh.beq]
      cases a.beq x.1 y.1
      · simp
      · simpa using ih2
    | _ => simp [eqFs] at h
end

def evAggB (P : Program) (op : BinOp) (t : TypeId) (a b : AV) : Option (AV × Prop) :=
  match shOf P 12 t with
  | some s =>
    match AV.toSh s a, AV.toSh s b with
    | some x, some y =>
      if (eqTy P 20 t s && (a.agg && (b.agg && !P.eqGuardType P.depth t))) = true then
        match op with
        | .eql => some (.bool (s.beq x y), True)
        | .neq => some (.bool (!s.beq x y), True)
        | _ => none
      else none
    | _, _ => none
  | none => none
/-! pointers, held against nil or against themselves -/
def ptrTy (P : Program) (t : TypeId) : Bool :=
  match P.underlying t with
  | some (.pointer e) => (P.info? e).isSome
  | _ => false
theorem ptrTy_ok {P : Program} {t : TypeId} (h : ptrTy P t = true) : ∃ e j, P.underlying t = some (.pointer e) ∧ P.info? e = some j := by
  unfold ptrTy at h
  split at h
  · rename_i e he
    obtain ⟨j, hj⟩ := Option.isSome_iff_exists.1 h
    exact ⟨e, j, he, hj⟩
  · cases h
theorem run_ptr_nil {P : Program} {w : World} {t e : TypeId} {j : TypeInfo} (q : Option Addr) (hp : P.underlying t = some (.pointer e)) (hte : P.info? e = some j) :
    (binOp .eql t (.pointer q) (.pointer none)).run P w = .ok (.bool q.isNone) w ∧ (binOp .neq t (.pointer q) (.pointer none)).run P w = .ok (.bool (!q.isNone)) w := by
  have h : ∀ d : Nat, (Op.equalIn (d + 1) t (.pointer q) (.pointer none)).run P w = .ok q.isNone w := fun d => by
    cases q <;> simp [Op.equalIn, run_underlying hp, sizeOf, typeInfo, hte]
  simp only [binOp]
  constructor <;> simp [Op.equal, Op.maxDepth, h 9999]
theorem run_ptr_same {P : Program} {w : World} {t e : TypeId} {j : TypeInfo} (q : Option Addr) (x : Addr) (hq : ∀ y, q = some y → y = x) (hp : P.underlying t = some (.pointer e)) (hte : P.info? e = some j) :
    (binOp .eql t (.pointer q) (.pointer (some x))).run P w = .ok (.bool (!q.isNone)) w ∧ (binOp .neq t (.pointer q) (.pointer (some x))).run P w = .ok (.bool q.isNone) w := by
  have h : ∀ d : Nat, (Op.equalIn (d + 1) t (.pointer q) (.pointer (some x))).run P w = .ok (!q.isNone) w := fun d => by
    cases q with
    | none => simp [Op.equalIn, run_underlying hp, sizeOf, typeInfo, hte]
    | some y =>
      obtain rfl := hq y rfl
      simp [Op.equalIn, run_underlying hp, sizeOf, typeInfo, hte, run_sameAddr_same]
  simp only [binOp]
  constructor <;> simp [Op.equal, Op.maxDepth, h 9999]
def evPtr (P : Program) (op : BinOp) (t : TypeId) (a b : AV) : Option (AV × Prop) :=
  if ptrTy P t = true then
    match op, a, b with
    | .eql, .nilP, .nilP => some (.bool true, True)
    | .neq, .nilP, .nilP => some (.bool false, True)
    | .eql, .ptr _ _, .nilP => some (.bool false, True)
    | .neq, .ptr _ _, .nilP => some (.bool true, True)
    | .eql, .slf _ z, .nilP => some (.bool z, True)
    | .neq, .slf _ z, .nilP => some (.bool (!z), True)
    | .eql, .slf x z, .ptr y [] => if x = y then some (.bool (!z), True) else none
    | .neq, .slf x z, .ptr y [] => if x = y then some (.bool z, True) else none
    | .eql, .ptr x [], .ptr y [] => if x = y then some (.bool true, True) else none
    | .neq, .ptr x [], .ptr y [] => if x = y then some (.bool false, True) else none
    | _, _, _ => none
  else none
theorem evPtr_ok {P : Program} {w : World} {G : Gh} {op : BinOp} {t : TypeId} {a b av : AV} {C : Prop} {u v : Value} (x y : Operand) (h : evPtr P op t a b = some (av, C)) (ha : ValR w G a u) (hb : ValR w G b v) :
    ∃ r, (do eqGuard op t x y u v; binOp op t u v : Sem Value).run P w = .ok r w ∧ ValR w G av r := by
  unfold evPtr at h
  split at h
  · rename_i hp
    obtain ⟨e, j, hp, hj⟩ := ptrTy_ok hp
    have isN : ValR w G .nilP v → v = .pointer none := fun hb => (List.cons.inj (show [v] = [Value.pointer none] from hb)).1
    have isP : ∀ b p z, ValR w G (.ptr b p) z → z = .pointer (some ⟨(G.addr b).block, (G.addr b).off + offs p, none⟩) := fun b p z hb => (List.cons.inj (show [z] = [Value.pointer _] from hb)).1
    have isS : ∀ b z u, ValR w G (.slf b z) u → u = .pointer (if z = true then none else some ⟨(G.addr b).block, (G.addr b).off, none⟩) := fun b z u hb => (List.cons.inj (show [u] = [Value.pointer _] from hb)).1
    have g : ∀ (q q' : Option Addr) (o : BinOp), (eqGuard o t x y (.pointer q) (.pointer q') : Sem Unit).run P w = .ok () w := fun q q' o => by cases o <;> rfl
    have toN : ∀ q : Option Addr, (∃ r, (do eqGuard .eql t x y (.pointer q) (.pointer none); binOp .eql t (.pointer q) (.pointer none) : Sem Value).run P w = .ok r w ∧ ValR w G (.bool q.isNone) r) ∧ (∃ r, (do eqGuard .neq t x y (.pointer q) (.pointer none); binOp .neq t (.pointer q) (.pointer none) : Sem Value).run P w = .ok r w ∧ ValR w G (.bool (!q.isNone)) r) := fun q =>
      ⟨⟨_, by rw [Sem.run_bind, g, Result.andThen_ok, (run_ptr_nil q hp hj).1], rfl⟩, ⟨_, by rw [Sem.run_bind, g, Result.andThen_ok, (run_ptr_nil q hp hj).2], rfl⟩⟩
    have toS : ∀ (q : Option Addr) (z : Addr), (∀ y, q = some y → y = z) → (∃ r, (do eqGuard .eql t x y (.pointer q) (.pointer (some z)); binOp .eql t (.pointer q) (.pointer (some z)) : Sem Value).run P w = .ok r w ∧ ValR w G (.bool (!q.isNone)) r) ∧ (∃ r, (do eqGuard .neq t x y (.pointer q) (.pointer (some z)); binOp .neq t (.pointer q) (.pointer (some z)) : Sem Value).run P w = .ok r w ∧ ValR w G (.bool q.isNone) r) := fun q z hq =>
      ⟨⟨_, by rw [Sem.run_bind, g, Result.andThen_ok, (run_ptr_same q z hq hp hj).1], rfl⟩, ⟨_, by rw [Sem.run_bind, g, Result.andThen_ok, (run_ptr_same q z hq hp hj).2], rfl⟩⟩
    have nz : ∀ (z : Bool) (d : Addr), (if z = true then none else some d : Option Addr).isNone = z := fun z d => by cases z <;> rfl
    have toZ : ∀ (z : Bool) (d : Addr), (∃ r, (do eqGuard .eql t x y (.pointer (if z = true then none else some d)) (.pointer none); binOp .eql t (.pointer (if z = true then none else some d)) (.pointer none) : Sem Value).run P w = .ok r w ∧ ValR w G (.bool z) r) ∧ (∃ r, (do eqGuard .neq t x y (.pointer (if z = true then none else some d)) (.pointer none); binOp .neq t (.pointer (if z = true then none else some d)) (.pointer none) : Sem Value).run P w = .ok r w ∧ ValR w G (.bool (!z)) r) := fun z d => by
      have := toN (if z = true then none else some d)
      rw [nz] at this
      exact this
    have sz : ∀ (z : Bool) (d : Addr) (y : Addr), (if z = true then none else some d : Option Addr) = some y → y = d := fun z d y hh => by cases z <;> simp at hh; exact hh.symm
    have toX : ∀ (z : Bool) (d : Addr), (∃ r, (do eqGuard .eql t x y (.pointer (if z = true then none else some d)) (.pointer (some d)); binOp .eql t (.pointer (if z = true then none else some d)) (.pointer (some d)) : Sem Value).run P w = .ok r w ∧ ValR w G (.bool (!z)) r) ∧ (∃ r, (do eqGuard .neq t x y (.pointer (if z = true then none else some d)) (.pointer (some d)); binOp .neq t (.pointer (if z = true then none else some d)) (.pointer (some d)) : Sem Value).run P w = .ok r w ∧ ValR w G (.bool z) r) := fun z d => by
      have := toS (if z = true then none else some d) d (sz z d)
      rw [nz] at this
      exact this
    split at h
    · simp only [Option.some.injEq, Prod.mk.injEq] at h; obtain ⟨rfl, rfl⟩ := h
      rw [isN hb, (List.cons.inj (show [u] = [Value.pointer none] from ha)).1]; exact (toN none).1
    · simp only [Option.some.injEq, Prod.mk.injEq] at h; obtain ⟨rfl, rfl⟩ := h
      rw [isN hb, (List.cons.inj (show [u] = [Value.pointer none] from ha)).1]; exact (toN none).2
    · simp only [Option.some.injEq, Prod.mk.injEq] at h; obtain ⟨rfl, rfl⟩ := h
      rw [isN hb, isP _ _ _ ha]; exact (toN (some _)).1
    · simp only [Option.some.injEq, Prod.mk.injEq] at h; obtain ⟨rfl, rfl⟩ := h
      rw [isN hb, isP _ _ _ ha]; exact (toN (some _)).2
    · simp only [Option.some.injEq, Prod.mk.injEq] at h; obtain ⟨rfl, rfl⟩ := h
      rw [isN hb, isS _ _ _ ha]; exact (toZ _ _).1
    · simp only [Option.some.injEq, Prod.mk.injEq] at h; obtain ⟨rfl, rfl⟩ := h
      rw [isN hb, isS _ _ _ ha]; exact (toZ _ _).2
    · split at h
      · rename_i hxy
        subst hxy
        simp only [Option.some.injEq, Prod.mk.injEq] at h; obtain ⟨rfl, rfl⟩ := h
        rw [isP _ _ _ hb, isS _ _ _ ha]
        exact (toX _ _).1
      · cases h
    · split at h
      · rename_i hxy
        subst hxy
        simp only [Option.some.injEq, Prod.mk.injEq] at h; obtain ⟨rfl, rfl⟩ := h
        rw [isP _ _ _ hb, isS _ _ _ ha]
        exact (toX _ _).2
      · cases h
    · split at h
      · rename_i hxy
        subst hxy
        simp only [Option.some.injEq, Prod.mk.injEq] at h; obtain ⟨rfl, rfl⟩ := h
        rw [isP _ _ _ hb, isP _ _ _ ha]
        exact (toS (some _) _ (fun y hy => (Option.some.inj hy).symm)).1
      · cases h
    · split at h
      · rename_i hxy
        subst hxy
        simp only [Option.some.injEq, Prod.mk.injEq] at h; obtain ⟨rfl, rfl⟩ := h
        rw [isP _ _ _ hb, isP _ _ _ ha]
        exact (toS (some _) _ (fun y hy => (Option.some.inj hy).symm)).2
      · cases h
    · cases h
  · cases h
def evBinX (P : Program) (op : BinOp) (t : TypeId) (a b : AV) : Option (AV × Prop) :=
  match a with
  | .st _ | .arr _ _ _ => evAggB P op t a b
  | .nilP | .ptr _ _ | .slf _ _ => evPtr P op t a b
  | _ => evBin P op t a b
theorem toSh_val {w : World} {G : Gh} {s : Sh} {a : AV} {x : s.T} {u : Value} (h : AV.toSh s a = some x) (hg : a.agg = true) (hu : ValR w G a u) : ValR w G (s.av x) u ∧ ∃ cs, u = .agg cs := by
  cases a with
  | st a0 =>
    obtain ⟨cs, rfl, hc⟩ := hu
    have h2 := AV.toSh_ok s (.st a0) x cs.toList h hc
    cases s with
    | st s0 => exact ⟨⟨cs, rfl, (CellsR.av s0 x _).2 h2⟩, cs, rfl⟩
    | _ => simp [AV.toSh] at h
  | arr n e l =>
    obtain ⟨cs, rfl, hc⟩ := hu
    have h2 := AV.toSh_ok s (.arr n e l) x cs.toList h hc
    cases s with
    | arr m s0 => exact ⟨⟨cs, rfl, h2⟩, cs, rfl⟩
    | _ => simp [AV.toSh] at h
  | _ => cases hg
theorem evAggB_ok {P : Program} {w : World} {G : Gh} {op : BinOp} {t : TypeId} {a b av : AV} {C : Prop} {u v : Value} (x y : Operand) (h : evAggB P op t a b = some (av, C)) (ha : ValR w G a u) (hb : ValR w G b v) :
    ∃ r, (do eqGuard op t x y u v; binOp op t u v : Sem Value).run P w = .ok r w ∧ ValR w G av r := by
  unfold evAggB at h
  split at h
  · rename_i s hs
    split at h
    · rename_i p q hp hq
      split at h
      · rename_i hc
        simp only [Bool.and_eq_true, Bool.not_eq_true'] at hc
        obtain ⟨he, hg1, hg2, hm⟩ := hc
        obtain ⟨ru, cu, rfl⟩ := toSh_val hp hg1 ha
        obtain ⟨rv, cv, rfl⟩ := toSh_val hq hg2 hb
        have e := eq_ok (P := P) 20 t s p q _ _ 9980 he ru rv
        have g := run_eqGuard_agg (P := P) w op t x y cu cv hm
        split at h <;> simp only [Option.some.injEq, Prod.mk.injEq, reduceCtorEq] at h <;> obtain ⟨rfl, rfl⟩ := h
        · exact ⟨_, by rw [Sem.run_bind, g, Result.andThen_ok, run_eql_struct w, show (10000 : Nat) = 9980 + 20 from rfl, e]; rfl, rfl⟩
        · exact ⟨_, by rw [Sem.run_bind, g, Result.andThen_ok, run_neq_struct w, show (10000 : Nat) = 9980 + 20 from rfl, e]; rfl, rfl⟩
      · cases h
    · cases h
  · cases h
theorem evBinX_ok {P : Program} {w : World} {G : Gh} {op : BinOp} {t : TypeId} {a b av : AV} {C : Prop} {u v : Value} (x y : Operand) (h : evBinX P op t a b = some (av, C)) (hC : C) (ha : ValR w G a u) (hb : ValR w G b v) :
    ∃ r, (do eqGuard op t x y u v; binOp op t u v : Sem Value).run P w = .ok r w ∧ ValR w G av r := by
  unfold evBinX at h
  split at h
  · exact evAggB_ok x y h ha hb
  · exact evAggB_ok x y h ha hb
  · exact evPtr_ok x y h ha hb
  · exact evPtr_ok x y h ha hb
  · exact evPtr_ok x y h ha hb
  · exact evBin_ok x y h hC ha hb
/-- an own row, as a view in a world where all is frozen -/
theorem row_view {B : Nat} {w : World} {G : Gh} {mem : List Blk} {r : Nat} {T : TypeId} {e : Sh} {l : List e.T} (hm : MemR B w G mem) (h : lk mem r = .row T e l) : ShR w (fun _ => True) (.sl e) l [G.rowv r] := by
  have hb := hm.blk r
  rw [h] at hb
  obtain ⟨h0, cs, hrv, hcat⟩ := hb
  have hk : Keeps G.fz (fun _ => True) w w := ⟨Nat.le_refl _, fun _ _ _ => rfl, fun _ _ => trivial⟩
  rcases hrv with ⟨hn, rfl, ad, hv⟩ | ⟨g, cap, rest, hv, hcap, hBg, hat, hnc, hcm, hcl, hcr⟩
  · rw [hv]
    exact ⟨ad, 0, by rw [hn], by omega, Nat.zero_le _, fun h => by omega⟩
  · refine ⟨some ⟨g, 0, none⟩, cap, by rw [hv], hnc, hcm, fun h0' => ⟨g, 0, cs, rfl, trivial, hat.lt, CatR.mono (fun y c hy => ShR.keep hk e y c hy) _ _ hcat, fun i v hi => ?_⟩⟩
    rw [Nat.zero_add]; exact hat.cell hi
/-! a pointer to an own variable, to unsafe.Pointer and back -/
def evConvP (P : Program) (mem : List Blk) (src dst : TypeId) (b : Nat) : Option AV :=
  match lk mem b with
  | .box t c =>
    if 0 < c.size then
      match P.underlying src, P.underlying dst with
      | some (.pointer t'), some .unsafePointer =>
        match P.info? t' with
        | some j => if j.size = 0 then none else some (.ptr b [])
        | none => none
      | some .unsafePointer, some (.pointer u) =>
        match P.info? u with
        | some _ => if liesAt P P.depth t (c.size / P.cellsOf t) 0 u 1 = true then some (.ptr b []) else none
        | none => none
      | _, _ => none
    else none
  | _ => none
theorem evConvP_ok {P : Program} {B : Nat} {w : World} {G : Gh} {mem : List Blk} (hm : MemR B w G mem) {src dst : TypeId} {b : Nat} {av : AV} {u : Value} (h : evConvP P mem src dst b = some av) (ha : ValR w G (.ptr b []) u) : ∃ r, (convert src dst u).run P w = .ok r w ∧ ValR w G av r := by
  unfold evConvP at h
  split at h
  · rename_i t c hlk
    split at h
    · rename_i hz
      have hb := hm.blk b
      rw [hlk] at hb
      obtain ⟨h0, cs, ⟨fr, hat, _⟩, hc⟩ := hb
      have hl := CellsR.length c cs hc
      have hu : u = .pointer (some ⟨(G.addr b).block, (G.addr b).off + offs [], none⟩) := (List.cons.inj (show [u] = [Value.pointer _] from ha)).1
      have hu' : u = .pointer (some ⟨(G.addr b).block, 0, none⟩) := by rw [hu, h0]; rfl
      have hsh : w.shape? (Addr.block ⟨(G.addr b).block, 0, none⟩) = some (t, c.size) := by
        simp only [List.append_nil] at hat
        simp [World.shape?, hat, hl]
      split at h
      · rename_i t' hs hd
        split at h
        · rename_i j hj
          split at h
          · cases h
          · rename_i hjz
            simp only [Option.some.injEq] at h; subst h
            rw [hu']
            refine ⟨_, Lib.run_to_unsafe w ⟨(G.addr b).block, 0, none⟩ hs hd hj hjz hsh hz, ?_⟩
            rw [← hu']; exact ha
        · cases h
      · rename_i u' hs hd
        split at h
        · rename_i j hj
          split at h
          · rename_i hlies
            simp only [Option.some.injEq] at h; subst h
            rw [hu']
            refine ⟨_, Lib.run_from_unsafe w ⟨(G.addr b).block, 0, none⟩ hs hd hj hsh hlies, ?_⟩
            rw [← hu']; exact ha
          · cases h
        · cases h
      · cases h
    · cases h
  · cases h
def evConvX (P : Program) (mem : List Blk) (src dst : TypeId) (a : AV) : Option AV :=
  match a with
  | .row r =>
    match lk mem r with
    | .row _ (.int .u8) l =>
      match P.underlying src, P.underlying dst with
      | some (.slice e), some .string =>
        match P.underlying e with
        | some (.int .u8) => some (.str (strOf l))
        | _ => none
      | _, _ => none
    | _ => none
  | .ptr b [] => evConvP P mem src dst b
  | _ => evConv P src dst a
theorem evConvX_ok {P : Program} {B : Nat} {w : World} {G : Gh} {mem : List Blk} (hm : MemR B w G mem) {src dst : TypeId} {a av : AV} {u : Value} (h : evConvX P mem src dst a = some av) (ha : ValR w G a u) : ∃ r, (convert src dst u).run P w = .ok r w ∧ ValR w G av r := by
  unfold evConvX at h
  split at h
  · rename_i r
    split at h
    · rename_i T l hl
      split at h
      · rename_i e h1 h2
        split at h
        · rename_i h3
          simp only [Option.some.injEq] at h
          subst h
          have hv := row_view hm hl
          have hu : u = G.rowv r := by
            have := (show CellsR w G (.row r) [u] from ha).1
            simpa using this
          rw [← hu] at hv
          refine ⟨_, run_convBytes src e h1 h3 dst h2 hv, ?_⟩
          show [Value.string (strOfNums l)] = [Value.string ⟨(strOf l).toArray⟩]
          rfl
        · cases h
      · cases h
    · cases h
  · exact evConvP_ok hm h ha
  · exact evConv_ok h ha
end Go.Proofs.YtbpjinefbnlenaaGreatDoor
