/- An exact machine, part 19: a region in any order: each turn. -/
import Derived.Test.YtpmgggfjmkpleaaGreatDoorE18
namespace Go.Proofs.YtpmgggfjmkpleaaGreatDoor.E
open Go Go.RowKit
set_option linter.unusedVariables false

structure Jq (B fl nf nt : Nat) (w0 : World) (G0 : Gh) (ts0 : T) (n0 : Nat) (m0 : M) (its : List It) (st : Nat → S) (D : Nat → Bool) (a : Act) (w : World) (q : Nat) (G : Gh) (g : Nat → Bk) : Prop where
  q1 : q ≤ its.length
  bd : Bd its q
  done : ∀ (p : Nat) (it : It), p < q → its[p]? = some it → D it.i = true
  noch : ∀ (p : Nat) (it : It), q ≤ p → its[p]? = some it → D it.i = true → it.ch = false
  post : PostF B n0 (M.get m0) w0 G0 nf g w G fl
  g1 : ∀ b, ¬ ((st q).n ≤ b ∧ b < nf) → g b = M.get (st q).m b
  g3 : ∀ (p : Nat) (it : It) (x : Bk), q ≤ p → its[p]? = some it → D it.i = true → (st (p + 1)).x = some x → g (st p).n = x
  z : ∀ b, (st q).n ≤ b → b < nf → M.get (st q).m b = .dead
  al : ∀ b, G.al b → (st q).n ≤ b → b < nf → ∃ (p : Nat) (it : It) (x : Bk), q ≤ p ∧ its[p]? = some it ∧ D it.i = true ∧ (st (p + 1)).x = some x ∧ (st p).n = b
  t1 : ∀ (p : Nat) (it : It) (d : Tmp), its[p]? = some it → D it.i = true → it.o.dst = some d → CR G (st (p + 1)).v (a.tmps.getD d undef)
  t2 : ∀ t, (∀ (p : Nat) (it : It), its[p]? = some it → D it.i = true → it.o.dst ≠ some t) → CR G (T.get ts0 t) (a.tmps.getD t undef)
  size : a.tmps.size = nt
  dfs : a.defers = []
theorem gd_ok' {G : Gh} {arr : Array Oper} {ts : T} {a : Act} {o : Oper} {g : Nat × Bool} {b : Bool} (ht : ∀ d, dstOf arr.toList g.1 = some d → CR G (T.get ts d) (a.tmps.getD d undef)) (hg : o.guard = some g) (h : gd arr.toList ts g = some b) : Region.wanted o (yielded arr a.tmps) = b := by
  obtain ⟨i, want⟩ := g
  have h : Option.rec (motive := fun _ => Option Bool) none (fun d => gV want (T.get ts d)) (dstOf arr.toList i) = some b := h
  have ht : ∀ d, dstOf arr.toList i = some d → CR G (T.get ts d) (a.tmps.getD d undef) := ht
  rw [dstOf_eq] at h ht
  have e : arr.toList[i]? = arr[i]? := by simp
  rw [e] at h ht
  unfold Region.wanted
  rw [hg]
  simp only
  unfold yielded
  cases hd : (arr[i]?).bind (·.dst) with
  | none => rw [hd] at h; cases h
  | some d =>
    have hv := ht d hd
    rw [hd] at h
    have h : gV want (T.get ts d) = some b := h
    simp only [Option.bind_some]
    unfold gV at h
    split at h
    · rename_i x e1
      rw [e1] at hv
      have e2 := i_bool hv
      have hlt : d < a.tmps.size := by
        rcases Nat.lt_or_ge d a.tmps.size with h' | h'
        · exact h'
        · simp [Array.getD, Nat.not_lt.2 h', undef] at e2
      have e3 : a.tmps[d]? = some (.bool x) := by
        rw [← e2]; simp [hlt]
      rw [e3]
      have h := Option.some.inj h
      rw [← h]
      cases x <;> cases want <;> rfl
    · rename_i l e1
      rw [e1] at hv
      obtain ⟨cs, e2⟩ : ∃ cs, a.tmps.getD d undef = .tuple cs := by
        generalize a.tmps.getD d undef = u at hv
        cases hv; exact ⟨_, rfl⟩
      have h := Option.some.inj h
      rw [← h]
      cases h3 : a.tmps[d]? with
      | none => rfl
      | some u =>
        have : a.tmps.getD d undef = u := by simp [Array.getD_eq_getD_getElem?, h3]
        rw [this] at e2
        subst e2
        rfl
    · cases h
section
variable {P : Program} {call : CallT} {arr : Array Oper} {bef : Nat → Nat → Bool} {B fl nf nt : Nat} {w0 w : World} {G0 G : Gh} {ts0 : T} {n0 : Nat} {m0 : M} {its : List It} {st : Nat → S} {D : Nat → Bool} {a : Act} {q : Nat} {g : Nat → Bk} {p : Nat} {it : It}
theorem Jq.ge (h : Jq B fl nf nt w0 G0 ts0 n0 m0 its st D a w q G g) (hp : its[p]? = some it) (hD : D it.i = false) : q ≤ p := by
  rcases Nat.lt_or_ge p q with h1 | h1
  · have := h.done p it h1 hp; rw [hD] at this; cases this
  · exact h1
/-- the machine's memory on the way lies in what there is -/
theorem Jq.sub (h : Jq B fl nf nt w0 G0 ts0 n0 m0 its st D a w q G g) (hc : CallOK P call) (hr : Run P call fl arr its st ts0 n0 m0) {p : Nat} (hp : p ≤ its.length) (hqp : q ≤ p) (hall : ∀ (r : Nat) (it : It), r < p → its[r]? = some it → D it.i = true) : ∀ b, M.get (st p).m b = .dead ∨ M.get (st p).m b = g b := by
  intro b
  rcases hr.noch hc hqp hp (fun r it h1 h2 h3 => h.noch r it h1 h3 (hall r it h2 h3)) b with h1 | h1 | ⟨r, it, h1, h2, h3, h4, h5⟩
  · exact .inl h1
  · by_cases e : (st q).n ≤ b ∧ b < nf
    · exact .inl (by rw [h1]; exact h.z b e.1 e.2)
    · exact .inr (by rw [h1, h.g1 b e])
  · exact .inr (by rw [← h5]; rw [← h5] at h4; exact (h.g3 r it _ h1 h3 (hall r it h2 h3) h4).symm)
/-- what is read is what the machine reads -/
theorem Jq.read (h : Jq B fl nf nt w0 G0 ts0 n0 m0 its st D a w q G g) (hpl : Plan arr bef its) (hr : Run P call fl arr its st ts0 n0 m0) (hp : its[p]? = some it) (hD : D it.i = false) (hb : ∀ j, bef it.i j = true → D j = true) (hcl : ∀ k j, D k = true → bef k j = true → D j = true) {t : Tmp} (ht : t ∈ rds arr.toList it.o) : CR G (T.get (st p).ts t) (a.tmps.getD t undef) := by
  have hlt : p < its.length := (List.getElem?_eq_some_iff.1 hp).1
  -- an operation that is ahead of another stands ahead of it
  have ahead : ∀ (r r' : Nat) (ir ir' : It), its[r]? = some ir → its[r']? = some ir' → bef ir.i ir'.i = true → r' < r := fun r r' ir ir' h1 h2 h3 => by
    obtain ⟨s, is, h4, h5, h6⟩ := hpl.edge r ir _ h1 h3
    have := hpl.inj s r' is ir' h5 h2 h6
    omega
  rcases hr.tmp t (p := p) (by omega) with h1 | ⟨r, ir, h1, h2, h3, h4⟩ | ⟨h1, h2⟩
  · rw [h1]; exact .unk _
  · rw [h4]
    refine h.t1 r ir t h2 ?_ h3
    rcases hpl.rd p r it ir t hp h2 h3 ht with h5 | h5 | h5
    · exact hb _ h5
    · have := ahead r p ir it h2 hp h5; omega
    · omega
  · rw [h2]
    refine h.t2 t fun r ir h3 h4 h5 => ?_
    rcases hpl.rd p r it ir t hp h3 h5 ht with h6 | h6 | h6
    · exact h1 r ir (ahead p r it ir hp h3 h6) h3 h5
    · have := hcl _ _ h4 h6; rw [hD] at this; cases this
    · subst h6
      rw [hp] at h3
      obtain rfl := Option.some.inj h3
      rw [hD] at h4; cases h4
theorem Jq.orel (h : Jq B fl nf nt w0 G0 ts0 n0 m0 its st D a w q G g) (hpl : Plan arr bef its) (hr : Run P call fl arr its st ts0 n0 m0) (hp : its[p]? = some it) (hD : D it.i = false) (hb : ∀ j, bef it.i j = true → D j = true) (hcl : ∀ k j, D k = true → bef k j = true → D j = true) : ORel G it.o.op (st p).ts a := by
  intro x hx
  cases x with
  | tmp t => exact h.read hpl hr hp hD hb hcl (List.mem_append_left _ (List.mem_filterMap.2 ⟨.tmp t, hx, rfl⟩))
  | const v => exact cv_ok G v
  | func f => exact .fn f [] [] rfl (fun i => .unk _)
  | global k => exact .unk _
/-- the temporaries after a turn -/
theorem Jq.temps (h : Jq B fl nf nt w0 G0 ts0 n0 m0 its st D a w q G g) (hpl : Plan arr bef its) (hp : its[p]? = some it) (hd : dstOk nt it.o.dst = true) {G' : Gh} (he : Ext G G') {x : Value} (hx : CR G' (st (p + 1)).v x) :
    (∀ (r : Nat) (ir : It) (d : Tmp), its[r]? = some ir → updB D it.i ir.i = true → ir.o.dst = some d → CR G' (st (r + 1)).v ((a.put it.o.dst x).tmps.getD d undef)) ∧
    (∀ t, (∀ (r : Nat) (ir : It), its[r]? = some ir → updB D it.i ir.i = true → ir.o.dst ≠ some t) → CR G' (T.get ts0 t) ((a.put it.o.dst x).tmps.getD t undef)) ∧ (a.put it.o.dst x).tmps.size = nt ∧ (a.put it.o.dst x).defers = [] := by
  have keep : ∀ t, it.o.dst ≠ some t → (a.put it.o.dst x).tmps.getD t undef = a.tmps.getD t undef := fun t ht => by
    cases e : it.o.dst with
    | none => rfl
    | some d =>
      have : d ≠ t := fun e2 => ht (by rw [e, e2])
      simp [Act.put, Array.getD_eq_getD_getElem?, Array.getElem?_setIfInBounds_ne this]
  refine ⟨fun r ir d h1 h2 h3 => ?_, fun t ht => ?_, ?_, ?_⟩
  · by_cases e : r = p
    · subst e
      rw [hp] at h1
      obtain rfl := Option.some.inj h1
      have hlt : d < a.tmps.size := by rw [h.size]; rw [h3] at hd; exact Nat.le_of_ble_eq_true hd
      have : (a.put it.o.dst x).tmps.getD d undef = x := by
        rw [h3]; simp [Act.put, hlt]
      rw [this]; exact hx
    · have h4 : it.o.dst ≠ some d := fun e2 => e (hpl.dst r p ir it d h1 hp h3 e2)
      rw [keep d h4]
      refine (h.t1 r ir d h1 ?_ h3).ext he
      unfold updB at h2
      split at h2
      · rename_i e2; exact absurd (hpl.inj r p ir it h1 hp e2) e
      · exact h2
  · have h4 : it.o.dst ≠ some t := ht p it hp (by unfold updB; rw [if_pos rfl])
    rw [keep t h4]
    refine (h.t2 t fun r ir h1 h2 => ht r ir h1 ?_).ext he
    unfold updB; split
    · rfl
    · exact h2
  · cases it.o.dst <;> simp [Act.put, h.size]
  · rw [put_defers]; exact h.dfs
theorem upd_mono (i : Nat) {j : Nat} (h : D j = true) : updB D i j = true := by unfold updB; split <;> trivial
/-- a turn that leaves the memory as it is -/
theorem Jq.quiet (h : Jq B fl nf nt w0 G0 ts0 n0 m0 its st D a w q G g) (hpl : Plan arr bef its) (hp : its[p]? = some it) (hD : D it.i = false) (hd : dstOk nt it.o.dst = true) (hch : it.ch = false) (hxn : (st (p + 1)).x = none) {x : Value} (hx : CR G (st (p + 1)).v x) :
    Jq B fl nf nt w0 G0 ts0 n0 m0 its st (updB D it.i) (a.put it.o.dst x) w q G g := by
  obtain ⟨k1, k2, k3, k4⟩ := h.temps hpl hp hd (Ext.refl G) hx
  have old : ∀ (r : Nat) (ir : It), its[r]? = some ir → updB D it.i ir.i = true → r = p ∨ D ir.i = true := fun r ir h1 h2 => by
    unfold updB at h2
    split at h2
    · rename_i e; exact .inl (hpl.inj r p ir it h1 hp e)
    · exact .inr h2
  refine ⟨h.q1, h.bd, fun r ir h1 h2 => upd_mono _ (h.done r ir h1 h2), fun r ir h1 h2 h3 => ?_, h.post, h.g1, fun r ir y h1 h2 h3 h4 => ?_, h.z, fun b h1 h2 h3 => ?_, k1, k2, k3, k4⟩
  · rcases old r ir h2 h3 with rfl | h4
    · rw [hp] at h2; obtain rfl := Option.some.inj h2; exact hch
    · exact h.noch r ir h1 h2 h4
  · rcases old r ir h2 h3 with rfl | h5
    · rw [hxn] at h4; cases h4
    · exact h.g3 r ir y h1 h2 h5 h4
  · obtain ⟨r, ir, y, h4, h5, h6, h7⟩ := h.al b h1 h2 h3
    exact ⟨r, ir, y, h4, h5, upd_mono _ h6, h7⟩
/-- a turn that makes a block -/
theorem Jq.alloc (h : Jq B fl nf nt w0 G0 ts0 n0 m0 its st D a w q G g) (hpl : Plan arr bef its) (hc : CallOK P call) (hr : Run P call fl arr its st ts0 n0 m0) (hnf : (st its.length).n ≤ nf) (hn0 : n0 ≤ (st q).n) (hp : its[p]? = some it) (hD : D it.i = false) (hd : dstOk nt it.o.dst = true) (hch : it.ch = false) {y : Bk} (hy : (st (p + 1)).x = some y) :
    ¬ G.al (st p).n ∧ ∀ (ob : Obj) (x : Value), BkR (w.alloc ob) (G.put (st p).n w.heap.size 0) (st p).n y → CR (G.put (st p).n w.heap.size 0) (st (p + 1)).v x →
    Jq B fl nf nt w0 G0 ts0 n0 m0 its st (updB D it.i) (a.put it.o.dst x) (w.alloc ob) q (G.put (st p).n w.heap.size 0) (fun b => if b = (st p).n then y else g b) := by
  have hlt : p < its.length := (List.getElem?_eq_some_iff.1 hp).1
  have hqp := h.ge hp hD
  have hnq := hr.le hc hqp (by omega)
  have hn1 := hr.le hc (show p + 1 ≤ its.length from hlt) (Nat.le_refl _)
  have hone := (hr.allocs hp hy).1
  have hna : ¬ G.al (st p).n := fun ha => by
    obtain ⟨r, ir, z, h4, h5, h6, h7, h8⟩ := h.al _ ha hnq (by omega)
    obtain rfl := hr.two hc h5 hp h7 hy h8
    rw [hp] at h5
    obtain rfl := Option.some.inj h5
    rw [hD] at h6; cases h6
  refine ⟨hna, fun ob x hb hx => ?_⟩
  obtain ⟨k1, k2, k3, k4⟩ := h.temps hpl hp hd (Gh.put_ext _ _ hna) hx
  have old : ∀ (r : Nat) (ir : It), its[r]? = some ir → updB D it.i ir.i = true → r = p ∨ D ir.i = true := fun r ir h1 h2 => by
    unfold updB at h2
    split at h2
    · rename_i e; exact .inl (hpl.inj r p ir it h1 hp e)
    · exact .inr h2
  refine ⟨h.q1, h.bd, fun r ir h1 h2 => upd_mono _ (h.done r ir h1 h2), fun r ir h1 h2 h3 => ?_, h.post.alloc ⟨by omega, by omega⟩ hna hb, fun b h1 => ?_, fun r ir u h1 h2 h3 h4 => ?_, h.z, fun b h1 h2 h3 => ?_, k1, k2, k3, k4⟩
  · rcases old r ir h2 h3 with rfl | h4
    · rw [hp] at h2; obtain rfl := Option.some.inj h2; exact hch
    · exact h.noch r ir h1 h2 h4
  · have : b ≠ (st p).n := fun e => h1 (by omega)
    simp only [if_neg this]
    exact h.g1 b h1
  · rcases old r ir h2 h3 with rfl | h5
    · rw [hy] at h4
      obtain rfl := Option.some.inj h4
      simp only [if_true]
    · have : (st r).n ≠ (st p).n := fun e => by
        obtain rfl := hr.two hc h2 hp h4 hy e
        rw [hp] at h2
        obtain rfl := Option.some.inj h2
        rw [hD] at h5; cases h5
      simp only [if_neg this]
      exact h.g3 r ir u h1 h2 h5 h4
  · rcases h1 with h1 | h1
    · exact ⟨p, it, y, hqp, hp, by unfold updB; rw [if_pos rfl], hy, h1.symm⟩
    · obtain ⟨r, ir, u, h4, h5, h6, h7⟩ := h.al b h1 h2 h3
      exact ⟨r, ir, u, h4, h5, upd_mono _ h6, h7⟩
/-- a link of the chain -/
theorem Jq.link (h : Jq B fl nf nt w0 G0 ts0 n0 m0 its st D a w q G g) (h0 : MemF B w0 G0 (M.get m0)) (hfl : fl ≤ n0) (hpl : Plan arr bef its) (hc : CallOK P call) (hr : Run P call fl arr its st ts0 n0 m0) (hnf : (st its.length).n ≤ nf) (hn0 : n0 ≤ (st q).n) (hp : its[p]? = some it) (hD : D it.i = false) (hd : dstOk nt it.o.dst = true) (hch : it.ch = true) (hxn : (st (p + 1)).x = none) (hall : ∀ (r : Nat) (it : It), r < p → its[r]? = some it → D it.i = true)
    {w' : World} {G' : Gh} {x : Value} (hk : Post B (st p).n (st p).m w G (st (p + 1)).n (st (p + 1)).m w' G' fl) (hx : CR G' (st (p + 1)).v x) :
    ∃ g', Jq B fl nf nt w0 G0 ts0 n0 m0 its st (updB D it.i) (a.put it.o.dst x) w' (p + 1) G' g' := by
  have hlt : p < its.length := (List.getElem?_eq_some_iff.1 hp).1
  have hqp := h.ge hp hD
  have hnq := hr.le hc hqp (by omega)
  have hn1 := hr.le hc (show p + 1 ≤ its.length from hlt) (Nat.le_refl _)
  have hlen := hk.len
  have hsub := h.sub hc hr (by omega : p ≤ its.length) hqp hall
  obtain ⟨k1, k2, k3, k4⟩ := h.temps hpl hp hd hk.ext hx
  have old : ∀ (r : Nat) (ir : It), its[r]? = some ir → updB D it.i ir.i = true → r = p ∨ D ir.i = true := fun r ir h1 h2 => by
    unfold updB at h2
    split at h2
    · rename_i e; exact .inl (hpl.inj r p ir it h1 hp e)
    · exact .inr h2
  -- what has no name yet is dead
  have hx0 : ∀ b, (st (p + 1)).n ≤ b → b < nf → M.get (st p).m b = .dead := fun b h1 h2 => by
    rcases hr.noch hc hqp (by omega) (fun r it h1 h2 h3 => h.noch r it h1 h3 (hall r it h2 h3)) b with h3 | h3 | ⟨r, ir, h3, h4, h5, h6, h7⟩
    · exact h3
    · rw [h3]; exact h.z b (by omega) h2
    · have e1 := (hr.allocs h5 h6).1
      have e2 := hr.le hc (show r + 1 ≤ p from h4) (by omega)
      omega
  refine ⟨_, by omega, .inr ⟨p, it, rfl, hp, hch⟩, fun r ir h1 h2 => ?_, fun r ir h1 h2 h3 => ?_, h.post.chain h0 hsub hk hfl (by omega) (by omega) hx0, fun b h1 => if_neg h1, fun r ir u h1 h2 h3 h4 => ?_, fun b h1 h2 => ?_, fun b h1 h2 h3 => ?_, k1, k2, k3, k4⟩
  · rcases Nat.lt_or_ge r p with h3 | h3
    · exact upd_mono _ (hall r ir h3 h2)
    · obtain rfl : r = p := by omega
      rw [hp] at h2
      obtain rfl := Option.some.inj h2
      unfold updB; rw [if_pos rfl]
  · rcases old r ir h2 h3 with rfl | h4
    · omega
    · exact h.noch r ir (by omega) h2 h4
  · rcases old r ir h2 h3 with rfl | h5
    · omega
    · have e1 := (hr.allocs h2 h4).1
      have hrl : r < its.length := (List.getElem?_eq_some_iff.1 h2).1
      have e2 := hr.le hc (show p + 1 ≤ r from h1) (by omega)
      have e3 := hr.le hc (show r + 1 ≤ its.length from hrl) (Nat.le_refl _)
      refine Eq.trans (if_pos ⟨e2, by omega⟩) ?_
      exact h.g3 r ir u (by omega) h2 h5 h4
  · refine Classical.byContradiction fun hl => ?_
    exact hk.dead b (by omega) hl (hx0 b h1 h2)
  · rcases hk.new b h1 with h4 | h4
    · obtain ⟨r, ir, u, h5, h6, h7, h8, h9⟩ := h.al b h4 (by omega) h3
      refine ⟨r, ir, u, ?_, h6, upd_mono _ h7, h8, h9⟩
      rcases Nat.lt_trichotomy r p with h10 | h10 | h10
      · have e1 := (hr.allocs h6 h8).1
        have e2 := hr.le hc (show r + 1 ≤ p from h10) (by omega)
        omega
      · subst h10
        rw [hp] at h6
        obtain rfl := Option.some.inj h6
        rw [hD] at h7; cases h7
      · exact h10
    · omega
/-- J: somewhere on the way -/
def J (B fl nf nt : Nat) (w0 : World) (G0 : Gh) (ts0 : T) (n0 : Nat) (m0 : M) (its : List It) (st : Nat → S) (D : Nat → Bool) (a : Act) (w : World) : Prop := ∃ q G g, Jq B fl nf nt w0 G0 ts0 n0 m0 its st D a w q G g
theorem J.turn {Q : Exit → Act → World → Prop} (hj : J B fl nf nt w0 G0 ts0 n0 m0 its st D a w) (h0 : MemF B w0 G0 (M.get m0)) (hfl : fl ≤ n0) (hpl : Plan arr bef its) (hc : CallOK P call) (hr : Run P call fl arr its st ts0 n0 m0) (hnf : (st its.length).n ≤ nf) (hp : its[p]? = some it) (hD : D it.i = false) (hd : dstOk nt it.o.dst = true)
    (hb : ∀ j, bef it.i j = true → D j = true) (hcl : ∀ k j, D k = true → bef k j = true → D j = true) (Kk : Act → World → Prop) (hK : ∀ a' w', J B fl nf nt w0 G0 ts0 n0 m0 its st (updB D it.i) a' w' → Kk a' w') : Turn P arr Q it.o a w Kk := by
  obtain ⟨q, G, g, h⟩ := hj
  have hlt : p < its.length := (List.getElem?_eq_some_iff.1 hp).1
  have hqp := h.ge hp hD
  have hn0 : n0 ≤ (st q).n := by have := hr.le hc (Nat.zero_le q) h.q1; rwa [hr.zero] at this
  have hor := h.orel hpl hr hp hD hb hcl
  have hn1 := hr.le hc (show p + 1 ≤ its.length from hlt) (Nat.le_refl _)
  have hnp := hr.le hc hqp (by omega)
  have hgd : ∀ gg b, it.o.guard = some gg → gd arr.toList (st p).ts gg = some b → Region.wanted it.o (yielded arr a.tmps) = b := fun gg b hg hgd =>
    gd_ok' (fun d hdd => h.read hpl hr hp hD hb hcl (List.mem_append_right _ (by rw [hg]; simp [hdd]))) hg hgd
  have met : Met arr.toList (st p).ts it.o → Region.wanted it.o (yielded arr a.tmps) = true := by
    rintro (hg | ⟨gg, hg, hgg⟩)
    · unfold Region.wanted; rw [hg]
    · exact hgd gg true hg hgg
  have prev : it.ch = true → ∀ (r : Nat) (ir : It), r < p → its[r]? = some ir → D ir.i = true := fun hch r ir h1 h2 => hb _ (hpl.chain p it hp hch r ir h1 h2)
  unfold Turn
  obtain ⟨_, _, _, h4⟩ := stD_ok (hr.step p it hp)
  rcases h4 with ⟨gg, hg, hgg, hv, hsn, hsm, hsx⟩ | ⟨hmet, h5⟩
  · rw [hgd gg false hg hgg, if_neg (by simp)]
    have hx : CR G (st (p + 1)).v undef := by rw [hv]; exact cr_undef G
    refine hK _ _ ?_
    cases hch : it.ch with
    | false => exact ⟨q, G, g, h.quiet hpl hp hD hd hch hsx hx⟩
    | true =>
      have hm := h.post.memf.weaken (st p).n (h.sub hc hr (by omega) hqp (prev hch))
      obtain ⟨g', hJ⟩ := h.link h0 hfl hpl hc hr hnf hn0 hp hD hd hch hsx (prev hch) (w' := w) (G' := G) (x := undef) (by rw [hsn, hsm]; exact Post.refl hm fl) hx
      exact ⟨p + 1, G, g', hJ⟩
  · rw [met hmet, if_pos rfl]
    refine .inl ?_
    have hok := evC_ok hc 3 it.o (st p).ts fl (st p).n (st p).m
    rcases h5 with ⟨hch, hsx, hto⟩ | ⟨hch, hsx, hsn, hsm, h6⟩ | ⟨hch, y, hsx, hal, hsn, hsm⟩
    · obtain ⟨hle, hop⟩ := toR_ok hok hto
      have hm := h.post.memf.weaken (st p).n (h.sub hc hr (by omega) hqp (prev hch))
      refine hop B w G a hm hor ⟨by omega, fun i h7 h8 ha => ?_⟩ _ _ fun x w' G' hk hx => ?_
      · obtain ⟨r, ir, u, h9, h10, h11, h12, h13⟩ := h.al i ha (by omega) (by omega)
        have e1 := (hr.allocs h10 h12).1
        rcases Nat.lt_trichotomy r p with h14 | h14 | h14
        · have e2 := hr.le hc (show r + 1 ≤ p from h14) (by omega)
          omega
        · subst h14
          rw [hp] at h10
          obtain rfl := Option.some.inj h10
          rw [hD] at h11; cases h11
        · have hrl : r < its.length := (List.getElem?_eq_some_iff.1 h10).1
          have e2 := hr.le hc (show p + 1 ≤ r from h14) (by omega)
          omega
      · obtain ⟨g', hJ⟩ := h.link h0 hfl hpl hc hr hnf hn0 hp hD hd hch hsx (prev hch) hk hx
        exact hK _ _ ⟨p + 1, G', g', hJ⟩
    · have fin : ∀ x, (execOp a.eval it.o).run P w = .ok (.value x) w → CR G (st (p + 1)).v x → it.o.wp P a w Kk Q := by
        intro x hrun hx
        unfold Oper.wp
        rw [hrun]
        exact hK _ _ ⟨q, G, g, h.quiet hpl hp hD hd hch hsx hx⟩
      rcases h6 with h6 | ⟨b, h6, h7⟩
      · rw [h6] at hok
        obtain ⟨x, hrun, hx⟩ := hok G a w hor
        exact fin x hrun hx
      · rw [h6] at hok
        obtain ⟨halb, hld⟩ := hok G a w hor
        obtain ⟨ql, tl, i1, i2, i3, i4⟩ := hr.hist (p := p) (by omega)
        by_cases e : q = ql
        · subst e
          have hbk : BkR w G b (M.get (st p).m b) := by
            rcases hr.noch hc hqp (by omega) i3 b with h8 | h8 | ⟨r, ir, h8, h9, h10, h11, h12⟩
            · rw [h8]; trivial
            · rw [h8]
              by_cases e2 : (st q).n ≤ b ∧ b < nf
              · rw [h.z b e2.1 e2.2]; trivial
              · rw [← h.g1 b e2]; exact h.post.memf.blk b
            · have e1 := (hr.allocs h10 h11).1
              have e2 := hr.le hc (show r + 1 ≤ p from h9) (by omega)
              have e3 := hr.le hc h8 (by omega)
              obtain ⟨r', ir', u, h13, h14, h15, h16, h17⟩ := h.al b halb (by omega) (by omega)
              have e4 : r' = r := hr.two hc h14 h10 h16 h11 (by rw [h17, h12])
              subst e4
              have := h.g3 r' ir' _ h13 h14 h15 h11
              rw [h12] at this
              rw [← this]
              exact h.post.memf.blk b
          obtain ⟨x, hrun, hx⟩ := hld hbk
          exact fin x hrun hx
        · rw [Bool.or_eq_true] at h7
          rcases h7 with h7 | h7
          · unfold frs at h7
            rw [i1] at h7
            simp only [Bool.and_eq_true] at h7
            have b1 : (st ql).n ≤ b := Nat.le_of_ble_eq_true h7.1
            have b2 : b < (st p).n := Nat.le_of_ble_eq_true h7.2
            have e0 : q ≤ ql := by
              rcases Nat.lt_or_ge ql q with h8 | h8
              · rcases h.bd with h9 | ⟨r, ir, h9, h10, h11⟩
                · omega
                · have := i3 r ir (by omega) (by omega) h10; rw [h11] at this; cases this
              · exact h8
            have e1 := hr.le hc e0 (by omega)
            obtain ⟨r, ir, u, h13, h14, h15, h16, h17⟩ := h.al b halb (by omega) (by omega)
            have hrl : r < its.length := (List.getElem?_eq_some_iff.1 h14).1
            have e2 := (hr.allocs h14 h16).1
            have r1 : ql ≤ r := by
              rcases Nat.lt_or_ge r ql with h8 | h8
              · have := hr.le hc (show r + 1 ≤ ql from h8) (by omega); omega
              · exact h8
            have r2 : r < p := by
              rcases Nat.lt_or_ge r p with h8 | h8
              · exact h8
              · have := hr.le hc h8 (by omega); omega
            have hgb : g b = u := by have := h.g3 r ir u h13 h14 h15 h16; rwa [h17] at this
            have hbk : BkR w G b (M.get (st p).m b) := by
              rcases hr.noch hc (show r + 1 ≤ p from r2) (by omega) (fun k ik a1 a2 a3 => i3 k ik (by omega) a2 a3) b with h8 | h8 | ⟨k, ik, h8, h9, h10, h11, h12⟩
              · rw [h8]; trivial
              · obtain ⟨_, _, _, h20⟩ := stD_ok (hr.step r ir h14)
                rcases h20 with ⟨_, _, _, _, _, _, h21⟩ | ⟨_, h21 | h21 | h21⟩
                · rw [h21] at h16; cases h16
                · rw [h21.2.1] at h16; cases h16
                · rw [h21.2.1] at h16; cases h16
                · obtain ⟨_, y, h22, _, _, h23⟩ := h21
                  rw [h16] at h22
                  obtain rfl := Option.some.inj h22
                  rw [h8, h23, ← h17]
                  rcases M.get_self (st r).m (st r).n u with h24 | h24
                  · rw [h24, h17, ← hgb]; exact h.post.memf.blk b
                  · rw [h24]; trivial
              · have := hr.two hc h14 h10 h16 h11 (by rw [h17, h12]); omega
            obtain ⟨x, hrun, hx⟩ := hld hbk
            exact fin x hrun hx
          · have hmem := i4 q hqp h.bd e
            have hlo : it.lo ≤ q := by
              rcases hpl.lo p it hp with h8 | ⟨r, ir, h8, h9, h10, h11⟩
              · omega
              · rw [h8]
                have h12 := hb _ h11
                rcases Nat.lt_or_ge r q with h13 | h13
                · exact h13
                · have := h.noch r ir h13 h9 h12; rw [h10] at this; cases this
            unfold chkL at h7
            rw [i1] at h7
            have h8 := List.all_eq_true.1 h7 _ hmem
            unfold chk1 at h8
            rw [Nat.ble_eq_true_of_le hlo] at h8
            simp only at h8
            split at h8
            · rename_i b' v' hev
              rw [Bool.and_eq_true] at h8
              obtain rfl := Nat.eq_of_beq_eq_true h8.1
              obtain rfl := veq_ok h8.2
              have hok2 := evC_ok hc 3 it.o (st p).ts fl (st q).n (st q).m
              rw [hev] at hok2
              obtain ⟨_, hld2⟩ := hok2 G a w hor
              have hbk : BkR w G b' (M.get (st q).m b') := by
                by_cases e2 : (st q).n ≤ b' ∧ b' < nf
                · rw [h.z b' e2.1 e2.2]; trivial
                · rw [← h.g1 b' e2]; exact h.post.memf.blk b'
              obtain ⟨x, hrun, hx⟩ := hld2 hbk
              exact fin x hrun hx
            · cases h8
    · rw [hal] at hok
      obtain ⟨x, ob, hrun, hnew⟩ := hok G a w hor
      obtain ⟨hna, hJ⟩ := h.alloc hpl hc hr hnf hn0 hp hD hd hch hsx
      obtain ⟨k1, k2⟩ := hnew (G.put (st p).n w.heap.size 0) (Gh.put_ext _ _ hna) (.inl rfl) (Gh.put_ρ _ _ _ _)
      unfold Oper.wp
      rw [hrun]
      exact hK _ _ ⟨q, _, _, hJ ob x k1 k2⟩
end
end Go.Proofs.YtpmgggfjmkpleaaGreatDoor.E
