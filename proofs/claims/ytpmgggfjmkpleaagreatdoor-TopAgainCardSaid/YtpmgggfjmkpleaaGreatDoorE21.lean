/- An exact machine, part 21: library functions by their contracts; a whole call. -/
import Derived.Test.YtpmgggfjmkpleaaGreatDoorE20
import Derived.Lib.Join
import Derived.Lib.Repeat
namespace Go.Proofs.YtpmgggfjmkpleaaGreatDoor.E
open Go Go.RowKit
set_option linter.unusedVariables false

section
variable {P : Program}
/-- a call that makes a text: nothing that was there is touched -/
theorem fn_text {f fl n : Nat} {args : List V} {m : M} {s : List UInt8} (h : ∀ (B : Nat) (w : World) (G : Gh) (vs : List Value), MemR B w G n m → LR G args vs → Calls P f vs.toArray w fun e w' => e = .returned (.string ⟨s.toArray⟩) ∧ Below w.heap.size w w') : FnOK P f args fl n m (.str s) n m := by
  intro B w G vs hm hl hfl
  refine (h B w G vs hm hl).mono ?_
  rintro e w' ⟨rfl, hb⟩
  exact ⟨_, G, rfl, hm.quiet hb fl, .str s⟩
noncomputable def spRep (args : List V) (n : Nat) (m : M) : R :=
  match args with
  | [.str s, .int .i64 c] => match ile 0 c && (Nat.ble (s.length * c.toNat) 1000000 && Nat.ble c.toNat 1000000) with
    | true => .ok (.str (Lib.repeatL s c.toNat)) n m
    | false => .fail
  | _ => .fail
theorem spRep_ok {f : Nat} (hcl : callable P f = true) (h : ∀ (s : ByteArray) (c : Nat) (w : World), c ≤ 9223372036854775807 → s.size * c ≤ 140737488355328 → Calls P f #[.string s, .int .i64 c] w fun e w' => e = .returned (.string ⟨(Lib.repeatL s.data.toList c).toArray⟩) ∧ Below w.heap.size w w')
    (fl : Nat) (xs : List V) (n : Nat) (m : M) (v : V) (n' : Nat) (m' : M) (e : spRep xs n m = .ok v n' m') : n ≤ n' ∧ callable P f = true ∧ FnOK P f xs fl n m v n' m' := by
  unfold spRep at e
  split at e
  · rename_i s c
    split at e
    · rename_i hb
      simp only [Bool.and_eq_true, ile_eq, decide_eq_true_eq] at hb
      obtain ⟨h1, h2, h3⟩ := hb
      have h2 := Nat.le_of_ble_eq_true h2
      have h3 := Nat.le_of_ble_eq_true h3
      simp only [R.ok.injEq] at e
      obtain ⟨rfl, rfl, rfl⟩ := e
      refine ⟨Nat.le_refl _, hcl, fn_text fun B w G vs hm hl => ?_⟩
      obtain ⟨x, t, rfl, k1, hl⟩ := hl.head
      obtain ⟨y, t, rfl, k2, hl⟩ := hl.head
      obtain rfl := hl.nil_inv
      rw [i_str k1, i_int k2]
      have hs : (⟨s.toArray⟩ : ByteArray).size = s.length := by simp [ByteArray.size]
      have := h ⟨s.toArray⟩ c.toNat w (by omega) (by rw [hs]; omega)
      rw [Int.toNat_of_nonneg h1] at this
      simpa using this
    · cases e
  · cases e
/-! Join: texts, known or in blocks -/
def isTx : V → Bool
  | .str _ => true
  | .tx _ => true
  | _ => false
def txt (G : Gh) : V → List UInt8
  | .str s => s
  | .tx l => l.flatMap G.env
  | _ => []
theorem isTx_ok {G : Gh} {v : V} {x : Value} (h : isTx v = true) (hx : CR G v x) : x = .string ⟨(txt G v).toArray⟩ := by
  cases v with
  | str s => exact i_str hx
  | tx l => exact (i_tx hx).1
  | _ => cases h
noncomputable def allTx (l : List V) : Bool := List.rec true (fun x _ ih => Bool.rec false ih (isTx x)) l
theorem allTx_ok : ∀ {G : Gh} {l : List V} {us : List Value}, allTx l = true → LR G l us → us = l.map fun v => Value.string ⟨(txt G v).toArray⟩
  | G, [], us, h, hl => by obtain rfl := hl.nil_inv; rfl
  | G, x :: l, us, h, hl => by
    obtain ⟨y, t, rfl, h1, h2⟩ := hl.head
    have h : Bool.rec (motive := fun _ => Bool) false (allTx l) (isTx x) = true := h
    cases hx : isTx x with
    | false => rw [hx] at h; cases h
    | true =>
      rw [hx] at h
      rw [isTx_ok hx h1, allTx_ok (show allTx l = true from h) h2]
      rfl
noncomputable def strs (l : List V) : Option (List (List UInt8)) := match l with
  | [] => some []
  | .str s :: r => (match strs r with | some q => some (s :: q) | none => none)
  | _ => none
theorem strs_ok {G : Gh} : ∀ {l : List V} {ss : List (List UInt8)}, strs l = some ss → l.map (txt G) = ss
  | [], ss, h => by obtain rfl := Option.some.inj h; rfl
  | x :: l, ss, h => by
    cases x with
    | str s =>
      simp only [strs] at h
      split at h
      · rename_i q hq
        obtain rfl := Option.some.inj h
        rw [List.map_cons, strs_ok hq]; rfl
      · cases h
    | _ => cases h
/-- blocks, one behind the other -/
noncomputable def txs (l : List V) : Option (List Nat) := match l with
  | [] => some []
  | .tx q :: r => (match txs r with | some k => some (q ++ k) | none => none)
  | .str [] :: r => txs r
  | _ => none
theorem join_nil : ∀ l : List (List UInt8), Lib.join l [] = l.flatten
  | [] => rfl
  | [a] => by simp [Lib.join]
  | a :: b :: l => by
    have := join_nil (b :: l)
    simp only [Lib.join] at this ⊢
    simp_all
theorem txs_ok {G : Gh} {B n : Nat} : ∀ {l : List V} {us : List Value} {q : List Nat}, txs l = some q → LR G l us → (l.map (txt G)).flatten = q.flatMap G.env ∧ ∀ a ∈ q, (G.env a).length = 16
  | [], us, q, h, _ => by obtain rfl := Option.some.inj h; exact ⟨rfl, fun a ha => by cases ha⟩
  | x :: l, us, q, h, hl => by
    obtain ⟨y, t, rfl, h1, h2⟩ := hl.head
    cases x with
    | tx p =>
      simp only [txs] at h
      split at h
      · rename_i k hk
        obtain rfl := Option.some.inj h
        obtain ⟨h3, h4⟩ := txs_ok (B := B) (n := n) hk h2
        refine ⟨?_, fun a ha => (List.mem_append.1 ha).elim ((i_tx h1).2 a) (h4 a)⟩
        rw [List.map_cons, List.flatten_cons, h3, List.flatMap_append]; rfl
      · cases h
    | str s =>
      cases s with
      | nil =>
        obtain ⟨h3, h4⟩ := txs_ok (B := B) (n := n) (show txs l = some q from h) h2
        exact ⟨by rw [List.map_cons, List.flatten_cons, h3]; rfl, h4⟩
      | cons a s => cases h
    | _ => cases h
noncomputable def joinV (args : List V) (m : M) : Option V :=
  match args with
  | [x, .str sep] => match srcV0 m 1 x with
    | some (q, l) => match allTx l && Nat.ble l.length 1000000 with
      | true => (match strs l with
        | some ss => (match Nat.ble (Lib.join ss sep).length 1000000 with | true => some (.str (Lib.join ss sep)) | false => none)
        | none => (match sep with
          | [] => (match txs l with | some k => (match Nat.ble k.length 60000 with | true => some (txV k) | false => none) | none => none)
          | _ => none))
      | false => none
    | none => none
  | _ => none
def JOK (P : Program) (f : Nat) (args : List V) (m : M) (v : V) : Prop := ∀ (B n : Nat) (w : World) (G : Gh) (vs : List Value), MemR B w G n m → LR G args vs →
  Calls P f vs.toArray w fun e w' => ∃ x, e = .returned x ∧ CR G v x ∧ Below w.heap.size w w'
theorem joinV_ok {f : Nat}
    (h0 : ∀ (a : Option Addr) (c : Nat) (sep : ByteArray) (w : World), Calls P f #[.slice a 0 c, .string sep] w fun e w' => e = .returned (.string ⟨#[]⟩) ∧ w' = w)
    (h1 : ∀ (bk o c : Nat) (xs : List ByteArray) (sep : ByteArray) (w : World), (∀ (j : Nat) x, xs[j]? = some x → w.cell? ⟨bk, o + j, none⟩ = some (.string x)) → bk < w.heap.size → xs.length ≤ 140737488355328 → xs.length ≤ c →
      (Lib.join (xs.map (·.data.toList)) sep.data.toList).length ≤ 140737488355328 → Calls P f #[.slice (some ⟨bk, o, none⟩) xs.length c, .string sep] w fun e w' => e = .returned (.string ⟨(Lib.join (xs.map (·.data.toList)) sep.data.toList).toArray⟩) ∧ Below w.heap.size w w')
    {args : List V} {m : M} {v : V} (e : joinV args m = some v) : JOK P f args m v := by
  unfold joinV at e
  split at e
  · rename_i x sep
    split at e
    · rename_i q l hsrc
      split at e
      · rename_i hb
        rw [Bool.and_eq_true] at hb
        have b2 := Nat.le_of_ble_eq_true hb.2
        intro B n w G vs hm hl
        obtain ⟨u, t, rfl, k1, hl⟩ := hl.head
        obtain ⟨y, t, rfl, k2, hl⟩ := hl.head
        obtain rfl := hl.nil_inv
        rw [i_str k2]
        -- the answer, whatever the cells' texts
        have fin : ∀ us : List Value, LR G l us → (Lib.join (l.map (txt G)) sep).length ≤ 1000000 ∧ CR G v (.string ⟨(Lib.join (l.map (txt G)) sep).toArray⟩) := by
          intro us hus
          split at e
          · rename_i ss hss
            rw [strs_ok (G := G) hss]
            split at e
            · rename_i hc
              obtain rfl := Option.some.inj e
              exact ⟨Nat.le_of_ble_eq_true hc, .str _⟩
            · cases e
          · split at e
            · split at e
              · rename_i k hk
                split at e
                · rename_i hc
                  obtain rfl := Option.some.inj e
                  obtain ⟨h3, h4⟩ := txs_ok (B := B) (n := n) hk hus
                  have hc := Nat.le_of_ble_eq_true hc
                  rw [join_nil, h3]
                  exact ⟨by rw [tx_len h4]; omega, txV_ok h4⟩
                · cases e
              · cases e
            · cases e
        unfold srcV0 at hsrc
        split at hsrc
        · simp only [Option.some.injEq, Prod.mk.injEq] at hsrc
          obtain ⟨rfl, rfl⟩ := hsrc
          have : u = .slice none 0 0 := by cases k1; rfl
          subst this
          refine (h0 none 0 ⟨sep.toArray⟩ w).mono ?_
          rintro e w' ⟨rfl, rfl⟩
          exact ⟨_, rfl, (fin [] .nil).2, Below.refl _ _⟩
        · simp only [Option.some.injEq, Prod.mk.injEq] at hsrc
          obtain ⟨rfl, rfl⟩ := hsrc
          obtain ⟨ad, c, rfl⟩ : ∃ ad c, u = .slice (some ad) 0 c := by cases k1; exact ⟨_, _, rfl⟩
          refine (h0 (some ad) c ⟨sep.toArray⟩ w).mono ?_
          rintro e w' ⟨rfl, rfl⟩
          exact ⟨_, rfl, (fin [] .nil).2, Below.refl _ _⟩
        · rename_i b o q' c op
          split at hsrc
          · rename_i l' hs
            simp only [Option.some.injEq, Prod.mk.injEq] at hsrc
            obtain ⟨rfl, rfl⟩ := hsrc
            obtain ⟨ex, hal, hcap⟩ := i_sl k1
            obtain ⟨hl1, us, h2, h3, h4, _⟩ := slCells_ok (P := P) hs (hm.blk b)
            have hus := allTx_ok hb.1 h2.lr
            obtain ⟨f1, f2⟩ := fin us h2.lr
            subst hus
            have hlive : live m b := by
              unfold live; intro hd; rw [hd] at hs; cases hs
            have hm2 : (l'.map fun v => (⟨(txt G v).toArray⟩ : ByteArray)).map (·.data.toList) = l'.map (txt G) := by
              rw [List.map_map]; rfl
            have hlen : q' = l'.length := by
              have := h2.lr.1; rw [List.length_map] at this; omega
            have := h1 (G.ρ b) o (capV G b c op) (l'.map fun v => (⟨(txt G v).toArray⟩ : ByteArray)) ⟨sep.toArray⟩ w (fun j x hj => by
              refine h4 j (.string x) ?_
              rw [List.getElem?_map] at hj ⊢
              cases hq : l'[j]? with
              | none => rw [hq] at hj; cases hj
              | some s => rw [hq] at hj; simp only [Option.map_some, Option.some.injEq] at hj ⊢; rw [hj]) (hm.own b hlive).2.1 (by rw [List.length_map]; omega) (by rw [List.length_map]; omega) (by rw [hm2]; show (Lib.join (l'.map (txt G)) sep).length ≤ _; omega)
            rw [List.length_map, ← hlen, hm2] at this
            rw [ex]
            refine this.mono ?_
            rintro e w' ⟨rfl, hbw⟩
            exact ⟨_, rfl, f2, hbw⟩
          · cases hsrc
        · cases hsrc
      · cases e
    · cases e
  · cases e
noncomputable def prjMv (d i : Nat) : List V → M → M
  | [], m => m
  | v :: l, m => prjMv d i l (match blkOf v with | some b => M.set m b (prjB d i (M.get m b)) | none => m)
theorem prjMv_ok {B n : Nat} {w : World} {G : Gh} {d : Nat} : ∀ (l : List V) (m : M), MemR B w G n m → MemR B w G n (prjMv d (G.θ d) l m)
  | [], m, h => h
  | v :: l, m, h => by
    refine prjMv_ok l _ ?_
    cases hb : blkOf v with
    | none => exact h
    | some b =>
      have hlv : ∀ i, live (M.set m b (prjB d (G.θ d) (M.get m b))) i → live m i := by
        intro i hi
        rcases live_set hi with ⟨rfl, h1⟩ | ⟨_, h1⟩
        · unfold live; intro hd; rw [hd] at h1; exact h1 rfl
        · exact h1
      exact ⟨fun i => get_set_cases (C := BkR w G i) i (fun e => by subst e; exact prjB_ok (h.blk i)) (fun _ => trivial) (fun _ => h.blk i), fun i j hij hi hj => h.apart i j hij (hlv i hi) (hlv j hj), fun i hi => h.own i (hlv i hi), h.base⟩
def allSome : List (Option V) → Option (List V)
  | [] => some []
  | some v :: l => (match allSome l with | some vs => some (v :: vs) | none => none)
  | none :: _ => none
theorem allSome_ok : ∀ {l : List (Option V)} {vs : List V}, allSome l = some vs → l = vs.map some
  | [], vs, h => by obtain rfl := Option.some.inj h; rfl
  | a :: l, vs, h => by
    cases a with
    | none => cases h
    | some v =>
      simp only [allSome] at h
      split at h
      · rename_i vs' h1
        obtain rfl := Option.some.inj h
        rw [allSome_ok h1]; rfl
      · cases h
noncomputable def dimA (args : List V) (m : M) : Option Nat := match fst1 (dmV 4) args with
  | some d => some d
  | none => fst1 (dmM m) args
noncomputable def joinL : Nat → List V → M → Option V
  | 0, args, m => joinV args m
  | f + 1, args, m => match joinV args m with
    | some v => some v
    | none => (match dimA args m with
      | some d => (match allSome ((List.range (dimN d)).map fun i => joinL f (args.map (prj 5 d i)) (prjMv d i (args.map (prj 5 d i)) m)) with | some vs => some (mrg 5 d vs) | none => none)
      | none => none)
theorem joinL_ok {f : Nat} (hj : ∀ {args : List V} {m : M} {v : V}, joinV args m = some v → JOK P f args m v) : ∀ (k : Nat) {args : List V} {m : M} {v : V}, joinL k args m = some v → JOK P f args m v
  | 0, args, m, v, h => hj h
  | k + 1, args, m, v, h => by
    have h : (match joinV args m with
      | some v => some v
      | none => (match dimA args m with
        | some d => (match allSome ((List.range (dimN d)).map fun i => joinL k (args.map (prj 5 d i)) (prjMv d i (args.map (prj 5 d i)) m)) with | some vs => some (mrg 5 d vs) | none => none)
        | none => none)) = some v := h
    split at h
    · rename_i u hu
      obtain rfl := Option.some.inj h
      exact hj hu
    · split at h
      · rename_i d hd
        split at h
        · rename_i vs hvs
          obtain rfl := Option.some.inj h
          have e := allSome_ok hvs
          have hlen : vs.length = dimN d := by
            have := congrArg List.length e
            simpa using this.symm
          intro B n w G us hm hl
          have hlt : G.θ d < vs.length := by rw [hlen]; exact G.θlt d
          have hg : joinL k (args.map (prj 5 d (G.θ d))) (prjMv d (G.θ d) (args.map (prj 5 d (G.θ d))) m) = some vs[G.θ d] := by
            have := congrArg (fun l => l[G.θ d]?) e
            simp only [List.getElem?_map, List.getElem?_range (G.θlt d), List.getElem?_eq_getElem hlt, Option.map_some, Option.some.injEq] at this
            exact this
          have hl' : LR G (args.map (prj 5 d (G.θ d))) us := ⟨by rw [hl.1, List.length_map], fun i => map_get (prj_ok 5) args i _ (hl.2 i)⟩
          refine (joinL_ok hj k hg B n w G us (prjMv_ok _ m hm) hl').mono ?_
          rintro e w' ⟨x, rfl, hx, hb⟩
          exact ⟨x, rfl, mrg_ok 5 vs x hlen (by rw [List.getD_eq_getElem?_getD, List.getElem?_eq_getElem hlt]; exact hx), hb⟩
        · cases h
      · cases h
noncomputable def spJoin (args : List V) (n : Nat) (m : M) : R := Option.rec .fail (fun v => .ok v n m) (joinL 4 args m)
theorem spJoin_ok {f : Nat} (hcl : callable P f = true)
    (h0 : ∀ (a : Option Addr) (c : Nat) (sep : ByteArray) (w : World), Calls P f #[.slice a 0 c, .string sep] w fun e w' => e = .returned (.string ⟨#[]⟩) ∧ w' = w)
    (h1 : ∀ (bk o c : Nat) (xs : List ByteArray) (sep : ByteArray) (w : World), (∀ (j : Nat) x, xs[j]? = some x → w.cell? ⟨bk, o + j, none⟩ = some (.string x)) → bk < w.heap.size → xs.length ≤ 140737488355328 → xs.length ≤ c →
      (Lib.join (xs.map (·.data.toList)) sep.data.toList).length ≤ 140737488355328 → Calls P f #[.slice (some ⟨bk, o, none⟩) xs.length c, .string sep] w fun e w' => e = .returned (.string ⟨(Lib.join (xs.map (·.data.toList)) sep.data.toList).toArray⟩) ∧ Below w.heap.size w w')
    (fl : Nat) (xs : List V) (n : Nat) (m : M) (v : V) (n' : Nat) (m' : M) (e : spJoin xs n m = .ok v n' m') : n ≤ n' ∧ callable P f = true ∧ FnOK P f xs fl n m v n' m' := by
  unfold spJoin at e
  cases hj : joinL 4 xs m with
  | none => rw [hj] at e; cases e
  | some u =>
    rw [hj] at e
    have e : R.ok u n m = .ok v n' m' := e
    simp only [R.ok.injEq] at e
    obtain ⟨rfl, rfl, rfl⟩ := e
    refine ⟨Nat.le_refl _, hcl, fun B w G vs hm hl hfl => ?_⟩
    refine (joinL_ok (fun h => joinV_ok h0 h1 h) 4 hj B n w G vs hm hl).mono ?_
    rintro e w' ⟨x, rfl, hx, hb⟩
    exact ⟨x, G, rfl, hm.quiet hb fl, hx⟩
/-- a whole call, from nothing -/
noncomputable def mem0 (n : Nat) : M := Tr.full Bk.dead n
theorem get_mem0 : ∀ (n i : Nat), M.get (mem0 n) i = .dead
  | 0, i => rfl
  | n + 1, i => by
    have e : mem0 (n + 1) = .n (mem0 n) Bk.dead (mem0 n) := rfl
    rw [e]
    exact bit_cases (C := fun i => Tr.get Bk.dead (.n (mem0 n) Bk.dead (mem0 n)) i = Bk.dead) i rfl (fun j => by rw [Tr.get_l]; exact get_mem0 n j) (fun j => by rw [Tr.get_r]; exact get_mem0 n j)
theorem dimN_pos (d : Nat) : 0 < dimN d := by unfold dimN; split <;> omega
/-- nothing named yet -/
def Gh.none (θ : Nat → Nat) (hθ : ∀ d, θ d < dimN d) (env : Nat → List UInt8) : Gh := ⟨fun _ => False, id, id, θ, hθ, env⟩
theorem whole {call : CallT} (hc : CallOK P call) {f k n' : Nat} {m' : M} {args : List V} {v : V} (h : call 0 f args 0 (mem0 k) = .ok v n' m') (w : World) (vs : List Value) {θ : Nat → Nat} {hθ : ∀ d, θ d < dimN d} {env : Nat → List UInt8} (ha : LR (Gh.none θ hθ env) args vs) :
    Calls P f vs.toArray w fun e w' => ∃ x G', e = .returned x ∧ Below w.heap.size w w' ∧ CR G' v x := by
  obtain ⟨_, _, hfn⟩ := hc _ _ _ _ _ _ _ _ h
  have hm : MemR w.heap.size w (Gh.none θ hθ env) 0 (mem0 k) := ⟨fun i => by rw [get_mem0]; trivial, fun i j _ hi => absurd (get_mem0 k i) hi, fun i hi => absurd (get_mem0 k i) hi, Nat.le_refl _⟩
  refine (hfn w.heap.size w _ vs hm ha ⟨Nat.le_refl _, fun i _ _ h => h⟩).mono ?_
  rintro e w' ⟨x, G', rfl, hp, hx⟩
  exact ⟨x, G', rfl, hp.below hm, hx⟩
noncomputable def isTrue (r : R) : Bool := match r with
  | .ok (.bool b) _ _ => b
  | _ => false
theorem whole_true {call : CallT} (hc : CallOK P call) {f k : Nat} (h : isTrue (call 0 f [] 0 (mem0 k)) = true) (w : World) : Calls P f #[] w fun e w' => e = .returned (.bool true) ∧ Below w.heap.size w w' := by
  unfold isTrue at h
  split at h
  · rename_i b n' m' hr
    subst h
    refine (whole hc hr w [] (θ := fun _ => 0) (hθ := fun d => dimN_pos d) (env := fun _ => []) .nil).mono ?_
    rintro e w' ⟨x, G', rfl, h1, h2⟩
    rw [i_bool h2]
    exact ⟨rfl, h1⟩
  · cases h
end
end Go.Proofs.YtpmgggfjmkpleaaGreatDoor.E
