/- An exact machine, part 11: conversions, iterators, type assertions, builtins. -/
import Derived.Test.YtpmgggfjmkpleaaGreatDoorE10
import Derived.Laws.IdiomStrings
import Derived.WalkLawsBesides
import Derived.Lib.OthersKept
namespace Go.Proofs.YtpmgggfjmkpleaaGreatDoor.E
open Go Go.RowKit
set_option linter.unusedVariables false

section
variable {P : Program} {o : Oper} {ts : T} {v : V} {fl n : Nat} {m : M}
def pConv (P : Program) (src dst : TypeId) (x : V) : Option V :=
  match P.underlying src, P.underlying dst, x with
  | some _, some (.int k), .int _ i => some (.int k (wr k i))
  | some _, some .string, .str s => some (.str s)
  | _, _, _ => none
theorem conv_ok {s d : TypeId} {x : Operand} (ho : o.op = .convert s d x) (h : pConv P s d (evo ts x) = some v) : PureOK P o ts v := by
  intro G a w ha
  rw [ho] at ha
  have hx := ha x (by simp [Op.operands])
  unfold pConv at h
  split at h
  · rename_i us k _ i hs hd e
    obtain rfl := Option.some.inj h
    rw [e] at hx
    have ex := i_int hx
    refine ⟨.int k (k.wrap i), ?_, by rw [wr_eq]; exact .int _ _⟩
    simp only [execOp, ho, convert, Sem.run_bind, run_underlying hs, run_underlying hd, Result.andThen_ok, ex, Conv.intToInt, Sem.run_pure]
  · rename_i us s' hs hd e
    obtain rfl := Option.some.inj h
    rw [e] at hx
    have ex := i_str hx
    refine ⟨.string ⟨s'.toArray⟩, ?_, .str _⟩
    simp only [execOp, ho, convert, Sem.run_bind, run_underlying hs, run_underlying hd, Result.andThen_ok, ex, Sem.run_pure]
  · cases h
def strC (x : V) (ih : Option (List UInt8)) : Option (List UInt8) := match x with | .int .u8 n => (match ih with | some s => some (UInt8.ofNat n.toNat :: s) | none => none) | _ => none
theorem strC_ok {x : V} {ih : Option (List UInt8)} {s : List UInt8} (h : strC x ih = some s) : ∃ n s', x = .int .u8 n ∧ ih = some s' ∧ s = UInt8.ofNat n.toNat :: s' := by
  unfold strC at h
  split at h
  · split at h
    · exact ⟨_, _, rfl, rfl, (Option.some.inj h).symm⟩
    · cases h
  · cases h
noncomputable def strL (l : List V) : Option (List UInt8) := List.rec (some []) (fun x _ ih => strC x ih) l
theorem strL_ok : ∀ {G : Gh} {l : List V} {us : List Value} {s : List UInt8}, strL l = some s → LR G l us → ∃ ns : List Int, us = ns.map (Value.int .u8) ∧ s = ns.map fun n => UInt8.ofNat n.toNat
  | G, [], us, s, h, hl => by
    obtain rfl := hl.nil_inv
    obtain rfl := Option.some.inj (show some [] = some s from h)
    exact ⟨[], rfl, rfl⟩
  | G, x :: l, us, s, h, hl => by
    obtain ⟨y, t, rfl, h1, h2⟩ := hl.head
    obtain ⟨n, s', rfl, hs, rfl⟩ := strC_ok (show strC x (strL l) = some s from h)
    obtain ⟨ns, rfl, rfl⟩ := strL_ok hs h2
    exact ⟨n :: ns, by rw [i_int h1]; rfl, rfl⟩
theorem foldl_push : ∀ (ns : List Int) (r : ByteArray), ns.foldl (fun r n => r.push (UInt8.ofNat n.toNat)) r = ⟨r.data ++ (ns.map fun n => UInt8.ofNat n.toNat).toArray⟩
  | [], r => by simp
  | n :: ns, r => by
    simp only [List.foldl_cons, List.map_cons]
    rw [foldl_push ns]
    simp [ByteArray.push]
def runC (x : V) (ih : Option (List UInt8)) : Option (List UInt8) := match x with | .int .i32 n => (match ile 0 n && ilt n 128, ih with | true, some s => some (UInt8.ofNat n.toNat :: s) | _, _ => none) | _ => none
theorem runC_ok {x : V} {ih : Option (List UInt8)} {s : List UInt8} (h : runC x ih = some s) : ∃ n s', x = .int .i32 n ∧ (0 ≤ n ∧ n < 128) ∧ ih = some s' ∧ s = UInt8.ofNat n.toNat :: s' := by
  unfold runC at h
  split at h
  · split at h
    · rename_i hb
      simp only [Bool.and_eq_true, ile_eq, ilt_eq, decide_eq_true_eq] at hb
      exact ⟨_, _, rfl, hb, rfl, (Option.some.inj h).symm⟩
    · cases h
  · cases h
noncomputable def runL (l : List V) : Option (List UInt8) := List.rec (some []) (fun x _ ih => runC x ih) l
theorem runL_ok : ∀ {G : Gh} {l : List V} {us : List Value} {s : List UInt8}, runL l = some s → LR G l us → ∃ ns : List Int, us = ns.map (Value.int .i32) ∧ (∀ n ∈ ns, 0 ≤ n ∧ n < 128) ∧ s = ns.map fun n => UInt8.ofNat n.toNat
  | G, [], us, s, h, hl => by
    obtain rfl := hl.nil_inv
    obtain rfl := Option.some.inj (show some [] = some s from h)
    exact ⟨[], rfl, (by simp), rfl⟩
  | G, x :: l, us, s, h, hl => by
    obtain ⟨y, t, rfl, h1, h2⟩ := hl.head
    obtain ⟨n, s', rfl, hb, hs, rfl⟩ := runC_ok (show runC x (runL l) = some s from h)
    obtain ⟨ns, rfl, h3, rfl⟩ := runL_ok hs h2
    exact ⟨n :: ns, by rw [i_int h1]; rfl, fun k hk => (List.mem_cons.1 hk).elim (fun e => e ▸ hb) (h3 k), rfl⟩
theorem enc_ascii {n : Int} (h : 0 ≤ n ∧ n < 128) : Utf8.encode n = ⟨#[UInt8.ofNat n.toNat]⟩ := by
  have hv : Utf8.valid n = true := by unfold Utf8.valid; simp; omega
  unfold Utf8.encode
  rw [hv]
  simp only [if_true]
  rw [if_pos (by omega)]
theorem foldl_enc : ∀ (ns : List Int) (r : ByteArray), (∀ n ∈ ns, 0 ≤ n ∧ n < 128) → ns.foldl (fun r n => r ++ Utf8.encode n) r = ⟨r.data ++ (ns.map fun n => UInt8.ofNat n.toNat).toArray⟩
  | [], r, _ => by simp
  | n :: ns, r, h => by
    simp only [List.foldl_cons, List.map_cons]
    rw [foldl_enc ns _ fun k hk => h k (List.mem_cons_of_mem _ hk), enc_ascii (h n List.mem_cons_self)]
    congr 1
    simp [ByteArray.data_append]
noncomputable def oConv (P : Program) (n : Nat) (m : M) (s d : TypeId) (x : V) : R :=
  match P.underlying s, P.underlying d with
  | some (.slice e), some .string => match P.underlying e, x with
    | some (.int .u8), .nils => .ok (.str []) n m
    | some (.int .u8), .sl b o q c op => (match slCells 1 o q (M.get m b) with | some l => (match strL l with | some r => .ok (.str r) n m | none => .fail) | none => .fail)
    | some (.int .i32), .nils => .ok (.str []) n m
    | some (.int .i32), .sl b o q c op => (match slCells 1 o q (M.get m b) with | some l => (match runL l with | some r => .ok (.str r) n m | none => .fail) | none => .fail)
    | _, _ => .fail
  | some .string, some (.slice e) => match P.underlying e, x with
    | some (.int .u8), .str s => (match Nat.ble s.length 1000000 with | true => .ok (.sl n 0 s.length 0 true) (n + 1) (M.set m n (.cells e (bytesL s) (some 1))) | false => .fail)
    | _, _ => .fail
  | _, _ => match pConv P s d x with | some v => .ok v n m | none => .fail
theorem oconv_ok {s d : TypeId} {x : Operand} {n' : Nat} {m' : M} (ho : o.op = .convert s d x) (h : oConv P n m s d (evo ts x) = .ok v n' m') : OpOK P o ts fl n m v n' m' := by
  unfold oConv at h
  split at h
  · rename_i e hs hd
    refine op_of_run fun B w G a hm ha hfl => ?_
    rw [ho] at ha
    have hx := ha x (by simp [Op.operands])
    split at h
    · rename_i he ex
      simp only [R.ok.injEq] at h
      obtain ⟨rfl, rfl, rfl⟩ := h
      rw [ex] at hx
      refine ⟨.string .empty, w, G, ?_, Post.refl hm fl, .str []⟩
      have : a.eval x = .slice none 0 0 := by generalize a.eval x = u at hx; cases hx; rfl
      simp only [execOp, ho, convert, Sem.run_bind, run_underlying hs, run_underlying hd, run_underlying he, Result.andThen_ok, this, Conv.bytesToString, Sem.run_pure]
    · rename_i b o' q c op he ex
      split at h
      case h_2 => cases h
      rename_i l hl
      split at h
      case h_2 => cases h
      rename_i r hr
      simp only [R.ok.injEq] at h
      obtain ⟨rfl, rfl, rfl⟩ := h
      rw [ex] at hx
      obtain ⟨es, hal, _⟩ := i_sl hx
      obtain ⟨_, us, h2, h3, _, h5⟩ := slCells_ok (P := P) hl (hm.blk b)
      obtain ⟨ns, rfl, rfl⟩ := strL_ok hr h2.lr
      refine ⟨_, w, G, ?_, Post.refl hm fl, .str _⟩
      rw [Nat.mul_one] at h5
      have := run_bytesToString (P := P) w _ q (capV G b c op) ns h5
      rw [foldl_push] at this
      simp only [execOp, ho, convert, Sem.run_bind, run_underlying hs, run_underlying hd, run_underlying he, Result.andThen_ok, es, this, Sem.run_pure]
      simp
    · rename_i he ex
      simp only [R.ok.injEq] at h
      obtain ⟨rfl, rfl, rfl⟩ := h
      rw [ex] at hx
      refine ⟨.string .empty, w, G, ?_, Post.refl hm fl, .str []⟩
      have : a.eval x = .slice none 0 0 := by generalize a.eval x = u at hx; cases hx; rfl
      simp only [execOp, ho, convert, Sem.run_bind, run_underlying hs, run_underlying hd, run_underlying he, Result.andThen_ok, this, Conv.runesToString, Sem.run_pure]
    · rename_i b o' q c op he ex
      split at h
      case h_2 => cases h
      rename_i l hl
      split at h
      case h_2 => cases h
      rename_i r hr
      simp only [R.ok.injEq] at h
      obtain ⟨rfl, rfl, rfl⟩ := h
      rw [ex] at hx
      obtain ⟨es, hal, _⟩ := i_sl hx
      obtain ⟨_, us, h2, h3, _, h5⟩ := slCells_ok (P := P) hl (hm.blk b)
      obtain ⟨ns, rfl, hasc, rfl⟩ := runL_ok hr h2.lr
      refine ⟨_, w, G, ?_, Post.refl hm fl, .str _⟩
      rw [Nat.mul_one] at h5
      have := run_runesToString (P := P) w _ q (capV G b c op) ns h5
      unfold runesBytes at this
      rw [foldl_enc _ _ hasc] at this
      simp only [execOp, ho, convert, Sem.run_bind, run_underlying hs, run_underlying hd, run_underlying he, Result.andThen_ok, es, this, Sem.run_pure]
      simp
    · cases h
  · rename_i e hs hd
    split at h
    · rename_i s' he ex
      split at h
      case h_2 => cases h
      rename_i hble
      have hble := Nat.le_of_ble_eq_true hble
      simp only [R.ok.injEq] at h
      obtain ⟨rfl, rfl, rfl⟩ := h
      refine op_of_run fun B w G a hm ha hfl => ?_
      rw [ho] at ha
      have hx := ha x (by simp [Op.operands])
      rw [ex] at hx
      have es := i_str hx
      have hr := run_bytes_of_string (P := P) w s d e ⟨s'.toArray⟩ hs hd he
      have hsz : (⟨s'.toArray⟩ : ByteArray).size = s'.length := by simp [ByteArray.size]
      rw [hsz] at hr
      have hge := grownCap_ge w s'.length 0 e
      have hcm := grownCap_le_maxLen w s'.length 0 e (by unfold maxLen; omega)
      have hb : ∀ fr, Below w.heap.size w (w.drew.alloc (.cells (bytesRow ⟨s'.toArray⟩ (grownCap w s'.length 0 e)) e fr)) := fun fr => ((Below.refl _ w).drew).alloc (Nat.le_refl _) _
      have hrow : bytesRow ⟨s'.toArray⟩ (grownCap w s'.length 0 e) = ((s'.map fun b : UInt8 => Value.int .u8 b.toNat) ++ List.replicate (grownCap w s'.length 0 e - s'.length) (Value.int .u8 0)).toArray := by
        unfold bytesRow
        rw [hsz]
        apply Array.ext'
        simp
      have hfr : ∀ fr, fr = ((bytesRow ⟨s'.toArray⟩ (grownCap w s'.length 0 e)).size, (bytesRow ⟨s'.toArray⟩ (grownCap w s'.length 0 e)).size + 1) → BkR (w.drew.alloc (.cells (bytesRow ⟨s'.toArray⟩ (grownCap w s'.length 0 e)) e fr)) (G.put n w.heap.size (grownCap w s'.length 0 e)) n (.cells e (bytesL s') (some 1)) := by
        intro fr efr
        refine ⟨_, List.replicate (grownCap w s'.length 0 e - s'.length) (.int .u8 0), fr, ?_, .inr ?_, bytesL_ok _ s', fun h => (by cases h), fun k hk => ?_⟩
        · rw [Gh.put_ρ, show w.heap.size = w.drew.heap.size from rfl, heap_alloc_new, hrow]
        · rw [efr, hrow]
          simp
        · obtain rfl := Option.some.inj hk
          rw [Gh.put_κ]
          refine ⟨?_, hcm, by omega⟩
          simp only [List.length_map, List.length_replicate]
          omega
      refine ⟨.slice (some ⟨w.heap.size, 0, none⟩) s'.length (grownCap w s'.length 0 e), _, G.put n w.heap.size (grownCap w s'.length 0 e), ?_, (hm.more (hfl.2 n (Nat.le_refl _) (by omega)) (g := w.heap.size) (k := grownCap w s'.length 0 e) (hb _) (Nat.le_refl _) (by simp) (hfr _ rfl)).mono hfl.1, ?_⟩
      rotate_left
      · have hc : capV (G.put n w.heap.size (grownCap w s'.length 0 e)) n 0 true = grownCap w s'.length 0 e := by simp only [capV, cond_true, Gh.put_κ, Nat.sub_zero]
        have := CR.sl (G := G.put n w.heap.size (grownCap w s'.length 0 e)) n 0 s'.length 0 true (.inl rfl) (by rw [hc]; exact hge)
        rw [hc, Gh.put_ρ] at this
        exact this
      · simp only [execOp, ho, es, Sem.run_bind, hr, Result.andThen_ok, Sem.run_pure]
    · cases h
  · split at h
    · rename_i v' hp
      simp only [R.ok.injEq] at h
      obtain ⟨rfl, rfl, rfl⟩ := h
      exact (conv_ok ho hp).op
    · cases h
end
end Go.Proofs.YtpmgggfjmkpleaaGreatDoor.E
