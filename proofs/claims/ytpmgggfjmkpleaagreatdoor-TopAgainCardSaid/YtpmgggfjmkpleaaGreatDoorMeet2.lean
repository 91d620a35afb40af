/- The symbolic exact machine: greet.Meet at a disk's sheet, seven good fates: what is asked, what comes. -/
import Derived.Test.YtpmgggfjmkpleaaGreatDoorMeet1
import Derived.Test.YtpmgggfjmkpleaaGreatDoorShelf
namespace Go.Proofs.YtpmgggfjmkpleaaGreatDoor.E
open Go Go.RowKit
set_option linter.unusedVariables false

abbrev nI (n : Nat) : V := .int .i64 (Int.ofNat n)
noncomputable def bsM (s : Nat) : List Bk := [.cells 160 [nI 8, nI 6, nI 80, nI 0, .nils, .sl 1 0 2 2 false] none,
  .cells 193 [nI 1, .bool true, nI 2, nI 64, nI 0, nI 2, .bool false, nI 2, nI 64, nI 0] none,
  .cells 9 [.str [100, 105, 115, 107, 32, UInt8.ofNat (48 + s)]] none,
  .cells 3 [nI 1, nI 1, nI 1, nI 1, nI 1, nI 1, nI 1] none]
def xsM : List V := [.agg [nI 512, nI 0, nI 0, nI 0, nI 64, nI 1, nI 2, nI 0, nI 0, nI 0, nI 1, nI 1, nI 1, nI 0, nI 128, nI 50, .sl 0 0 1 1 false, .sl 2 0 1 1 false], nI 1, .sl 3 0 7 7 false]
def lresM : List V := [.agg [nI 8, .unk, .unk, .unk, .unk, .unk, .unk, .unk, .unk, .unk, .unk, .unk, .unk, .unk, .unk, .unk, .unk, .unk, .unk, .unk, .unk, .unk, .unk, nI 0], .agg [.unk, .unk, .unk], .unk, nI 0]
noncomputable def meetOk (r : R) : Bool := match r with
  | .ok (.tup l) _ _ => vsEq (cmp 4 []) (l.map (wkV 3)) lresM
  | _ => false
noncomputable def spB : Nat → Option (List V → Nat → M → R) := fun f => Bool.rec (Bool.rec none (some spJoin) (Nat.beq f 137)) (some spRep) (Nat.beq f 9)
theorem spB_ok : SpOK Tryz.prog spB := by
  intro f h hf fl xs n m v n' m' e
  by_cases e1 : f = 9
  · subst e1
    obtain rfl := Option.some.inj (show some spRep = some h from hf)
    exact spRep_ok (by kernel_rfl) Tryz.strings_Repeat fl xs n m v n' m' e
  · by_cases e2 : f = 137
    · subst e2
      obtain rfl := Option.some.inj (show some spJoin = some h from hf)
      exact spJoin_ok (by kernel_rfl) Tryz.strings_Join_none Tryz.strings_Join fl xs n m v n' m' e
    · have b1 : Nat.beq f 9 = false := by cases h1 : Nat.beq f 9 with
        | true => exact absurd (Nat.eq_of_beq_eq_true h1) e1
        | false => rfl
      have b2 : Nat.beq f 137 = false := by cases h1 : Nat.beq f 137 with
        | true => exact absurd (Nat.eq_of_beq_eq_true h1) e2
        | false => rfl
      have hf : Bool.rec (motive := fun _ => Option (List V → Nat → M → R)) (Bool.rec none (some spJoin) (Nat.beq f 137)) (some spRep) (Nat.beq f 9) = some h := hf
      rw [b1, b2] at hf
      cases hf
theorem fns_ok : FnsOK Tryz.prog := FnsOK.of (by kernel_rfl)
noncomputable abbrev callM : CallT := runF dr spB Tryz.prog 60
theorem callM_ok : CallOK Tryz.prog callM := runF_ok (dr_ok (by kernel_rfl)) fns_ok spB_ok 60
noncomputable def meetR (s : Nat) : Bool := meetOk (callM 4 36 xsM 4 (setL (bsM s) 0 (mem0 12)))
theorem meet_ok {s : Nat} (h : meetR s = true) {B n : Nat} {w : World} {G : Gh} {m : M} {xs : List V} {vs : List Value} {σ : List Nat} (hm : MemR B w G n m) (hl : LR G xs vs) (hs : vsEq (cmp 3 σ) (xs.map (prj 5 0 (G.θ 0))) xsM = true) (hb : bksEq σ (G.θ 0) m σ (bsM s) = true) (hd : noDup σ = true) :
    Calls Tryz.prog 36 vs.toArray w fun e w' => ∃ x, e = .returned x ∧ Below w.heap.size w w' ∧ ∀ G', CR G' (.tup lresM) x := by
  unfold meetR meetOk at h
  split at h
  · rename_i l n' m' hr
    refine (frame_ok callM_ok (bs := bsM s) hr hm hl hs hb hd).mono ?_
    rintro e w' ⟨x, rfl, hbw, hx⟩
    refine ⟨x, rfl, hbw, fun G' => ?_⟩
    have h1 : CR G' (.tup (l.map (wkV 3))) x := hx G'
    cases h1 with
    | tup _ cs k1 k2 =>
      have hlr := vsEq_lr (G' := G'.small []) (fun a b x => cmp_ok 4 a b x) h ⟨k1, k2⟩
      exact wkV_ok (G := G'.small []) 4 (.tup lresM) _ (.tup _ cs hlr.1 hlr.2)
  · cases h
end Go.Proofs.YtpmgggfjmkpleaaGreatDoor.E
