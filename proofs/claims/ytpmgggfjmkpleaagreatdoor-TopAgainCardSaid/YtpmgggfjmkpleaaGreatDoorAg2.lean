/- TopAgain: the machine with its given calls (lives, greet.Meet), and what a run of it says. -/
import Derived.Test.YtpmgggfjmkpleaaGreatDoorAg1
namespace Go.Proofs.YtpmgggfjmkpleaaGreatDoor.E
open Go Go.RowKit
set_option linter.unusedVariables false

noncomputable def nm4 (xs : List V) (m : M) : Option (List Nat) := match xs with
  | [.agg l, _, .sl bF _ _ _ _] => (match nth l 16, nth l 17 with
    | .sl bC _ _ _ _, .sl bT _ _ _ _ => (match M.get m bC with
      | .cells _ c _ => (match nth c 5 with | .sl bE _ _ _ _ => some [bC, bE, bT, bF] | _ => none)
      | _ => none)
    | _, _ => none)
  | _ => none
noncomputable def chkM (σ : List Nat) (xs : List V) (m : M) (s : Nat) : Bool := match vsEq (cmp 3 σ) (xs.map (prj 5 0 s)) xsM with | true => bksEq σ s m σ (bsM s) | false => false
noncomputable def spMeet (xs : List V) (n : Nat) (m : M) : R := match nm4 xs m with
  | some σ => (match noDup σ && (chkM σ xs m 0 && (chkM σ xs m 1 && (chkM σ xs m 2 && (chkM σ xs m 3 && (chkM σ xs m 4 && (chkM σ xs m 5 && (chkM σ xs m 6 && chkM σ xs m 7))))))) with
    | true => .ok (.tup lresM) n m
    | false => .fail)
  | none => .fail
def MeetAll : Prop := ∀ s, s < 8 → meetR s = true
theorem spMeet_ok (hM : MeetAll) (hcl : callable Tryz.prog 36 = true) (fl : Nat) (xs : List V) (n : Nat) (m : M) (v : V) (n' : Nat) (m' : M) (e : spMeet xs n m = .ok v n' m') : n ≤ n' ∧ callable Tryz.prog 36 = true ∧ FnOK Tryz.prog 36 xs fl n m v n' m' := by
  unfold spMeet at e
  split at e
  · rename_i σ hσ
    split at e
    · rename_i hb
      simp only [Bool.and_eq_true] at hb
      obtain ⟨hd, c0, c1, c2, c3, c4, c5, c6, c7⟩ := hb
      simp only [R.ok.injEq] at e
      obtain ⟨rfl, rfl, rfl⟩ := e
      refine ⟨Nat.le_refl _, hcl, fun B w G vs hm hl hfl => ?_⟩
      have hs : G.θ 0 < 8 := G.θlt 0
      have hc : chkM σ xs m (G.θ 0) = true := by
        generalize G.θ 0 = s at hs
        match s, hs with
        | 0, _ => exact c0
        | 1, _ => exact c1
        | 2, _ => exact c2
        | 3, _ => exact c3
        | 4, _ => exact c4
        | 5, _ => exact c5
        | 6, _ => exact c6
        | 7, _ => exact c7
      unfold chkM at hc
      split at hc
      · rename_i h1
        refine (meet_ok (hM _ hs) hm hl h1 hc hd).mono ?_
        rintro e w' ⟨x, rfl, hbw, hx⟩
        exact ⟨x, G, rfl, hm.quiet hbw fl, hx G⟩
      · cases hc
    · cases e
  · cases e
noncomputable def spLives (xs : List V) (n : Nat) (m : M) : R := match xs with | [] => .ok (.bool true) n m | _ => .fail
theorem spLives_ok (hcl : callable Tryz.prog 5 = true) (fl : Nat) (xs : List V) (n : Nat) (m : M) (v : V) (n' : Nat) (m' : M) (e : spLives xs n m = .ok v n' m') : n ≤ n' ∧ callable Tryz.prog 5 = true ∧ FnOK Tryz.prog 5 xs fl n m v n' m' := by
  unfold spLives at e
  split at e
  · simp only [R.ok.injEq] at e
    obtain ⟨rfl, rfl, rfl⟩ := e
    refine ⟨Nat.le_refl _, hcl, fun B w G vs hm hl hfl => ?_⟩
    obtain rfl := hl.nil_inv
    refine (lives_true w).mono ?_
    rintro e w' ⟨rfl, hb⟩
    exact ⟨_, G, rfl, hm.quiet hb fl, .bool true⟩
  · cases e
noncomputable def spA : Nat → Option (List V → Nat → M → R) := fun f => Bool.rec (Bool.rec (spB f) (some spLives) (Nat.beq f 5)) (some spMeet) (Nat.beq f 36)
theorem spA_ok (hM : MeetAll) : SpOK Tryz.prog spA := by
  intro f h hf fl xs n m v n' m' e
  have hf : Bool.rec (motive := fun _ => Option (List V → Nat → M → R)) (Bool.rec (spB f) (some spLives) (Nat.beq f 5)) (some spMeet) (Nat.beq f 36) = some h := hf
  cases b1 : Nat.beq f 36 with
  | true =>
    rw [b1] at hf
    obtain rfl := Nat.eq_of_beq_eq_true b1
    obtain rfl := Option.some.inj hf
    exact spMeet_ok hM (by kernel_rfl) fl xs n m v n' m' e
  | false =>
    rw [b1] at hf
    have hf : Bool.rec (motive := fun _ => Option (List V → Nat → M → R)) (spB f) (some spLives) (Nat.beq f 5) = some h := hf
    cases b2 : Nat.beq f 5 with
    | true =>
      rw [b2] at hf
      obtain rfl := Nat.eq_of_beq_eq_true b2
      obtain rfl := Option.some.inj hf
      exact spLives_ok (by kernel_rfl) fl xs n m v n' m' e
    | false =>
      rw [b2] at hf
      exact spB_ok f h hf fl xs n m v n' m' e
noncomputable abbrev callA : CallT := runF dr spA Tryz.prog 60
theorem callA_ok (hM : MeetAll) : CallOK Tryz.prog callA := runF_ok (dr_ok (by kernel_rfl)) fns_ok (spA_ok hM) 60
/-- one run -/
noncomputable def again (l : List V) : Bool := isTrue (callA 0 3 l 0 (mem0 13))
theorem again_ok (hM : MeetAll) {l : List V} (h : again l = true) (w : World) (vs : List Value) {θ : Nat → Nat} {hθ : ∀ d, θ d < dimN d} {env : Nat → List UInt8} (ha : LR (Gh.none θ hθ env) l vs) :
    Calls Tryz.prog 3 vs.toArray w fun e w' => e = .returned (.bool true) ∧ Below w.heap.size w w' := by
  unfold again isTrue at h
  split at h
  · rename_i b n' m' hr
    subst h
    refine (whole (callA_ok hM) hr w vs ha).mono ?_
    rintro e w' ⟨x, G', rfl, h1, h2⟩
    rw [i_bool h2]
    exact ⟨rfl, h1⟩
  · cases h
abbrev iv (d : Nat) (l : List Nat) : V := .vec d (l.map fun k => .int .i64 (Int.ofNat k))
abbrev serV : V := iv 0 [0, 1, 2, 3, 4, 5, 6, 7]
abbrev pNe : V := iv 1 [1, 1, 1, 2, 2, 2, 3, 3, 3, 4, 4, 4]
abbrev qNe : V := iv 1 [2, 3, 4, 1, 3, 4, 1, 2, 4, 1, 2, 3]
abbrev pEq : V := iv 2 [1, 2, 3, 4]
/-- the place, where it is not the first: from 1 to 8 - n -/
def lbaV : Nat → V
  | 0 => iv 3 [1, 2, 3, 4, 5, 6, 7, 8]
  | 1 => iv 4 [1, 2, 3, 4, 5, 6, 7]
  | 2 => iv 5 [1, 2, 3, 4, 5, 6]
  | 3 => iv 6 [1, 2, 3, 4, 5]
  | 4 => iv 7 [1, 2, 3, 4]
  | 5 => iv 8 [1, 2, 3]
  | 6 => iv 9 [1, 2]
  | _ => .int .i64 1
abbrev argNe (n : Nat) (lba : V) : List V := [serV, pNe, qNe, lba, txV (List.range n)]
abbrev argEq (n : Nat) (lba : V) : List V := [serV, pEq, pEq, lba, txV (List.range n)]
end Go.Proofs.YtpmgggfjmkpleaaGreatDoor.E
