import Derived.Test.YtdgdkbpmmemphaaSHq
import Derived.Test.YtdgdkbpmmemphaaSPl
/- HostPlays: words, and what lies in a ring. -/
namespace Go.Proofs.Ytdgdkbpmmemphaa
open Go Go.RowKit
open Classical
set_option linter.unusedVariables false

abbrev Cmd4 := Int × Int × Int × Int
abbrev Evt3 := Int × Int × Int
noncomputable def cwd (x : Cmd4) : Int := (packV x.1 x.2.1 x.2.2.1 x.2.2.2).1
noncomputable def cerr (x : Cmd4) : Int := (packV x.1 x.2.1 x.2.2.1 x.2.2.2).2
def ewd (v : Evt3) : Int := v.1 + 256 * v.2.1 + 65536 * v.2.2
theorem pack_un (x : Cmd4) (h : cerr x = 0) : unwV (cwd x) = (x.1, x.2.1, x.2.2.1, x.2.2.2, 0) := by
  have hlt := pack_lt (K := x.1) (S := x.2.1) (E := x.2.2.1) (A := x.2.2.2) h
  have hh : ¬ cwd x ≥ 35184372088832 := by unfold cwd; omega
  unfold unwV
  rw [if_neg hh]
  unfold cerr packV at h
  unfold cwd packV
  by_cases q : cOk x.1 x.2.1 x.2.2.1 x.2.2.2
  · rw [if_pos q]
    obtain ⟨q1, q2, q3, q4⟩ := q
    simp only [Prod.mk.injEq, and_true]
    omega
  · rw [if_neg q] at h
    simp only at h
    omega
/-- the words of a ring are those that were put, or zero -/
theorem ring_words {P : Nat} {all : List Int} {c : Cells} (h : Rp.RingSt P all c) (M : Int) (hM : 0 < M) (hw : ∀ w ∈ all, 0 ≤ w ∧ w < M) : ∀ i, i < c.length → 0 ≤ cw c i ∧ cw c i < M := by
  obtain ⟨hl, hc, hp⟩ := h
  intro i hi
  by_cases q : i < P
  · by_cases q2 : i < all.length
    · obtain ⟨k, k1, _, _, e⟩ := (hc i q).1 q2
      have e' : cw c i = all.getD k 0 := congrArg Prod.fst e
      rw [e']
      refine hw _ ?_
      rw [List.getD_eq_getElem?_getD, List.getElem?_eq_getElem k1]
      exact List.getElem_mem _
    · have e' : cw c i = 0 := congrArg Prod.fst ((hc i q).2 (by omega))
      rw [e']; omega
  · obtain rfl : i = P := by omega
    have e' : cw c i = 0 := congrArg Prod.fst hp
    rw [e']; omega
/-- what holds of the machine and of the document's queues -/
structure Inv (m1 m2 : Nat) (c e : Cells) (b : Slots) (all1 all2 : List Int) (wait : List Cmd4) (out got : List Evt3) : Prop where
  r1 : Rp.RingSt m1 all1 c
  r2 : Rp.RingSt m2 all2 e
  lb : lenB b
  bE : boardE b = 0
  wq : all1.drop all2.length = wait.map cwd
  wok : ∀ x ∈ wait, cerr x = 0
  oq : all2.drop got.length = out.map ewd
  ook : ∀ i, i < out.length → (0 ≤ (out.getD i (0, (0, 0))).1 ∧ (out.getD i (0, (0, 0))).1 ≤ 255) ∧ (0 ≤ (out.getD i (0, (0, 0))).2.1 ∧ (out.getD i (0, (0, 0))).2.1 ≤ 8) ∧ (out.getD i (0, (0, 0))).2.2 = (((got.length + i) % m1 : Nat) : Int)
  n2 : all2.length = got.length + out.length
  n1 : all1.length = all2.length + wait.length
  f1 : all1.length ≤ got.length + (m1 - 1)
  f2 : all2.length ≤ got.length + (m2 - 1)
  w1 : ∀ w ∈ all1, 0 ≤ w ∧ w < 35184372088832
  w2 : ∀ w ∈ all2, 0 ≤ w ∧ w < 16777216
section
variable {m1 m2 : Nat} (p1 : 2 ≤ m1) (q1 : m1 ≤ 63) (p2 : 2 ≤ m2) (q2 : m2 ≤ 63) {c e : Cells} {b : Slots} {all1 all2 : List Int} {wait : List Cmd4} {out got : List Evt3} (I : Inv m1 m2 c e b all1 all2 wait out got)
include p1 q1 p2 q2 I
theorem Inv.mach : machV c (Rp.markP m1 all1.length).1 (Rp.markP m1 all1.length).2 (Rp.markP m1 all2.length).1 (Rp.markP m1 all2.length).2 ((got.length % m1 : Nat) : Int) e (Rp.markP m2 all2.length).1 (Rp.markP m2 all2.length).2 (Rp.markP m2 got.length).1 (Rp.markP m2 got.length).2 ((got.length % m2 : Nat) : Int) b = true :=
  mkMach (Rp.good_ring p1 q1 I.r1 _ _ _) (Rp.good_ring p2 q2 I.r2 _ _ _) I.bE (fun i hi => (ring_words I.r1 _ (by omega) I.w1 i hi).2) (fun i hi => (ring_words I.r2 _ (by omega) I.w2 i hi).2)
end
theorem Inv.wk {m1 m2 : Nat} {c e : Cells} {b : Slots} {all1 all2 : List Int} {wait : List Cmd4} {out got : List Evt3} (I : Inv m1 m2 c e b all1 all2 wait out got) : wOK c := fun i hi => by have := ring_words I.r1 _ (by omega) I.w1 i hi; omega
end Go.Proofs.Ytdgdkbpmmemphaa

/- HostPlays: a command is handed in. -/
namespace Go.Proofs.Ytdgdkbpmmemphaa
open Go Go.RowKit
open Classical
set_option linter.unusedVariables false

section
variable {m1 m2 : Nat} (p1 : 2 ≤ m1) (q1 : m1 ≤ 63) (p2 : 2 ≤ m2) (q2 : m2 ≤ 63) {c e : Cells} {b : Slots} {all1 all2 : List Int} {wait : List Cmd4} {out got : List Evt3} (I : Inv m1 m2 c e b all1 all2 wait out got)
include p1 q1 p2 q2 I
theorem prepC (n : Nat) : F45 n c (Rp.markP m1 all1.length).1 (Rp.markP m1 all1.length).2 (Rp.markP m1 all2.length).1 (Rp.markP m1 all2.length).2 ((got.length % m1 : Nat) : Int) e (Rp.markP m2 all2.length).1 (Rp.markP m2 all2.length).2 (Rp.markP m2 got.length).1 (Rp.markP m2 got.length).2 ((got.length % m2 : Nat) : Int) b = some ((Rp.markP m1 all1.length).1, (Rp.markP m1 all1.length).2, (Rp.markP m1 all2.length).1, (Rp.markP m1 all2.length).2, ((got.length % m1 : Nat) : Int), (Rp.markP m2 all2.length).1, (Rp.markP m2 all2.length).2, (Rp.markP m2 got.length).1, (Rp.markP m2 got.length).2, ((got.length % m2 : Nat) : Int), b, c, e) :=
  copyM n (by have := I.r1.1; omega) (by have := I.r2.1; omega)
theorem prepV (n : Nat) (hn : 300 < n) : F46 n c (Rp.markP m1 all1.length).1 (Rp.markP m1 all1.length).2 (Rp.markP m1 all2.length).1 (Rp.markP m1 all2.length).2 ((got.length % m1 : Nat) : Int) e (Rp.markP m2 all2.length).1 (Rp.markP m2 all2.length).2 (Rp.markP m2 got.length).1 (Rp.markP m2 got.length).2 ((got.length % m2 : Nat) : Int) b = some true := by
  rw [validP n hn (I.wk), I.mach p1 q1 p2 q2]
theorem sub1 (n : Nat) (hn : 300 < n) (x : Cmd4) (hx : ¬ cerr x = 0) : F19 n c (Rp.markP m1 all1.length).1 (Rp.markP m1 all1.length).2 (Rp.markP m1 all2.length).1 (Rp.markP m1 all2.length).2 ((got.length % m1 : Nat) : Int) e (Rp.markP m2 all2.length).1 (Rp.markP m2 all2.length).2 (Rp.markP m2 got.length).1 (Rp.markP m2 got.length).2 ((got.length % m2 : Nat) : Int) b x.1 x.2.1 x.2.2.1 x.2.2.2 = some ((Rp.markP m1 all1.length).1, (Rp.markP m1 all1.length).2, (Rp.markP m1 all2.length).1, (Rp.markP m1 all2.length).2, ((got.length % m1 : Nat) : Int), (Rp.markP m2 all2.length).1, (Rp.markP m2 all2.length).2, (Rp.markP m2 got.length).1, (Rp.markP m2 got.length).2, ((got.length % m2 : Nat) : Int), b, cerr x, c, e) := by
  unfold F19
  rw [prepC p1 q1 p2 q2 I]
  simp only [Option.bind_some]
  rw [prepV p1 q1 p2 q2 I n hn]
  simp only [Option.bind_some, Bool.not_true, cond_false]
  rw [packP]
  simp only [Option.bind_some]
  rw [show ((packV x.1 x.2.1 x.2.2.1 x.2.2.2).2 != 0) = true from bne_iff_ne.2 hx]
  rfl
theorem sub2 (n : Nat) (hn : 300 < n) (x : Cmd4) (hx : cerr x = 0) (hf : all1.length = got.length + (m1 - 1)) : F19 n c (Rp.markP m1 all1.length).1 (Rp.markP m1 all1.length).2 (Rp.markP m1 all2.length).1 (Rp.markP m1 all2.length).2 ((got.length % m1 : Nat) : Int) e (Rp.markP m2 all2.length).1 (Rp.markP m2 all2.length).2 (Rp.markP m2 got.length).1 (Rp.markP m2 got.length).2 ((got.length % m2 : Nat) : Int) b x.1 x.2.1 x.2.2.1 x.2.2.2 = some ((Rp.markP m1 all1.length).1, (Rp.markP m1 all1.length).2, (Rp.markP m1 all2.length).1, (Rp.markP m1 all2.length).2, ((got.length % m1 : Nat) : Int), (Rp.markP m2 all2.length).1, (Rp.markP m2 all2.length).2, (Rp.markP m2 got.length).1, (Rp.markP m2 got.length).2, ((got.length % m2 : Nat) : Int), b, 11, c, e) := by
  unfold F19
  rw [prepC p1 q1 p2 q2 I]
  simp only [Option.bind_some]
  rw [prepV p1 q1 p2 q2 I n hn]
  simp only [Option.bind_some, Bool.not_true, cond_false]
  rw [packP]
  simp only [Option.bind_some]
  rw [show ((packV x.1 x.2.1 x.2.2.1 x.2.2.2).2 != 0) = false from bne_eq_false_iff_eq.2 hx]
  simp only [cond_false]
  rw [Rp.putP n (by omega) p1 q1 I.r1 all2.length got.length (by have := I.n2; omega) (by have := I.n1; omega) I.f1 _, if_neg (by omega)]
  rfl
theorem sub3 (n : Nat) (hn : 300 < n) (x : Cmd4) (hx : cerr x = 0) (hf : all1.length < got.length + (m1 - 1)) : ∃ c', F19 n c (Rp.markP m1 all1.length).1 (Rp.markP m1 all1.length).2 (Rp.markP m1 all2.length).1 (Rp.markP m1 all2.length).2 ((got.length % m1 : Nat) : Int) e (Rp.markP m2 all2.length).1 (Rp.markP m2 all2.length).2 (Rp.markP m2 got.length).1 (Rp.markP m2 got.length).2 ((got.length % m2 : Nat) : Int) b x.1 x.2.1 x.2.2.1 x.2.2.2 = some ((Rp.markP m1 (all1.length + 1)).1, (Rp.markP m1 (all1.length + 1)).2, (Rp.markP m1 all2.length).1, (Rp.markP m1 all2.length).2, ((got.length % m1 : Nat) : Int), (Rp.markP m2 all2.length).1, (Rp.markP m2 all2.length).2, (Rp.markP m2 got.length).1, (Rp.markP m2 got.length).2, ((got.length % m2 : Nat) : Int), b, 0, c', e) ∧ Inv m1 m2 c' e b (all1 ++ [cwd x]) all2 (wait ++ [x]) out got := by
  have hr := Rp.put_ring (show 0 < m1 by omega) (cwd x) I.r1
  refine ⟨_, ?_, ⟨hr, I.r2, I.lb, I.bE, ?_, ?_, I.oq, I.ook, I.n2, ?_, ?_, I.f2, ?_, I.w2⟩⟩
  · unfold F19
    rw [prepC p1 q1 p2 q2 I]
    simp only [Option.bind_some]
    rw [prepV p1 q1 p2 q2 I n hn]
    simp only [Option.bind_some, Bool.not_true, cond_false]
    rw [packP]
    simp only [Option.bind_some]
    rw [show ((packV x.1 x.2.1 x.2.2.1 x.2.2.2).2 != 0) = false from bne_eq_false_iff_eq.2 hx]
    simp only [cond_false]
    rw [Rp.putP n (by omega) p1 q1 I.r1 all2.length got.length (by have := I.n2; omega) (by have := I.n1; omega) I.f1 _, if_pos hf]
    rfl
  · rw [List.drop_append_of_le_length (by have := I.n1; omega), I.wq, List.map_append]; rfl
  · intro y hy
    rcases List.mem_append.1 hy with h | h
    · exact I.wok y h
    · rw [List.mem_singleton.1 h]; exact hx
  · simp only [List.length_append, List.length_singleton]; have := I.n1; omega
  · simp only [List.length_append, List.length_singleton]; omega
  · intro w hw
    rcases List.mem_append.1 hw with h | h
    · exact I.w1 w h
    · rw [List.mem_singleton.1 h]; exact pack_lt hx
end
end Go.Proofs.Ytdgdkbpmmemphaa

/- HostPlays: the work. -/
namespace Go.Proofs.Ytdgdkbpmmemphaa
open Go Go.RowKit
open Classical
set_option linter.unusedVariables false

theorem take_drop1 {α : Type} (l : List α) (h : 0 < l.length) : (l.take (1 + (l.length - 1))).drop 1 = l.tail := by
  rw [show 1 + (l.length - 1) = l.length by omega, List.take_length, List.drop_one]
theorem getD_drop {α : Type} (d : α) (l : List α) (k : Nat) (y : α) (t : List α) (h : l.drop k = y :: t) : l.getD k d = y ∧ l.drop (k + 1) = t ∧ k < l.length := by
  have hk : k < l.length := by
    by_cases q : k < l.length
    · exact q
    · rw [List.drop_of_length_le (by omega)] at h; cases h
  rw [List.drop_eq_getElem_cons hk] at h
  obtain ⟨h1, h2⟩ := List.cons.inj h
  exact ⟨by rw [List.getD_eq_getElem?_getD, List.getElem?_eq_getElem hk]; exact h1, h2, hk⟩
theorem workHp (n : Nat) (hn : 2000 < n) {m1 m2 : Nat} (p1 : 2 ≤ m1) (q1 : m1 ≤ 63) (p2 : 2 ≤ m2) (q2 : m2 ≤ 63) (vn : Int) (hv : vn ≤ 1000) (got : List Evt3) (hgl : got.length ≤ 1000000) (all1 : List Int) (deeds : List (Int × (Int × Int × Int × Int) × Int × Int × Int)) (put x : Int) (m4 : List Evt3) (m5 : List Int) (hd : (deeds.getD x.toNat (0, ((0, (0, (0, 0))), (0, (0, 0))))).2.2.1 = vn) (K : (Int × Int × Int × Slots × List Cmd4 × List Evt3 × List Evt3 × List Int) → Option (Slots × Int × List Evt3 × List Int)) :
    ∀ (k : Nat) (j : Nat) (c e : Cells) (b : Slots) (all2 : List Int) (wait : List Cmd4) (out : List Evt3) (N N' : Nat), Inv m1 m2 c e b all1 all2 wait out got → (vn < 1 ∨ (j : Int) ≤ vn) → vn - j ≤ k → k < N → k < N' →
    ∃ (j' : Int) (e' : Cells) (b' : Slots) (all2' : List Int) (wait' : List Cmd4) (out' : List Evt3),
      (1 ≤ vn → loopF (F20_l4 n vn) N ((j : Int), (Rp.markP m1 all1.length).1, (Rp.markP m1 all1.length).2, (Rp.markP m1 all2.length).1, (Rp.markP m1 all2.length).2, ((got.length % m1 : Nat) : Int), (Rp.markP m2 all2.length).1, (Rp.markP m2 all2.length).2, (Rp.markP m2 got.length).1, (Rp.markP m2 got.length).2, ((got.length % m2 : Nat) : Int), b, c, e) = some ((Rp.markP m1 all1.length).1, (Rp.markP m1 all1.length).2, (Rp.markP m1 all2'.length).1, (Rp.markP m1 all2'.length).2, ((got.length % m1 : Nat) : Int), (Rp.markP m2 all2'.length).1, (Rp.markP m2 all2'.length).2, (Rp.markP m2 got.length).1, (Rp.markP m2 got.length).2, ((got.length % m2 : Nat) : Int), b', j', c, e')) ∧
      loopF (F7_l45 n K (((m1 + 1 : Nat) : Int)) (((m2 + 1 : Nat) : Int)) deeds put x m4 m5) N' ((all2.length : Int), (j : Int), b, wait, out) = K (put, (all2'.length : Int), IntKind.wrap .i64 (x + 1), b', wait', out', m4, m5) ∧ Inv m1 m2 c e' b' all1 all2' wait' out' got ∧ (vn < 1 → e' = e ∧ b' = b ∧ all2' = all2)
  | k, j, c, e, b, all2, wait, out, 0, N', I, hj, hk, hN, hN' => by omega
  | k, j, c, e, b, all2, wait, out, N + 1, 0, I, hj, hk, hN, hN' => by omega
  | k, j, c, e, b, all2, wait, out, N + 1, N' + 1, I, hj, hk, hN, hN' => by
    have lo1 : loopF (F7_l45 n K (((m1 + 1 : Nat) : Int)) (((m2 + 1 : Nat) : Int)) deeds put x m4 m5) (N' + 1) ((all2.length : Int), (j : Int), b, wait, out) = F7_l45 n K (((m1 + 1 : Nat) : Int)) (((m2 + 1 : Nat) : Int)) deeds put x m4 m5 (loopF (F7_l45 n K (((m1 + 1 : Nat) : Int)) (((m2 + 1 : Nat) : Int)) deeds put x m4 m5) N') ((all2.length : Int), (j : Int), b, wait, out) := rfl
    have lo2 : ∀ z, loopF (F20_l4 n vn) (N + 1) z = F20_l4 n vn (loopF (F20_l4 n vn) N) z := fun _ => rfl
    rw [lo1]
    simp only [lo2, F20_l4, F7_l45, hd]
    by_cases hjv : (j : Int) < vn
    case neg =>
      rw [decide_eq_false hjv]
      exact ⟨vn, e, b, all2, wait, out, fun _ => rfl, rfl, I, fun _ => ⟨rfl, rfl, rfl⟩⟩
    have h1 : 1 ≤ vn := by omega
    rw [decide_eq_true hjv]
    simp only [cond_true]
    have hl1 := I.r1.1
    have hl2 := I.r2.1
    have n2 := I.n2
    have n1 := I.n1
    have f1 := I.f1
    have f2 := I.f2
    rw [Rp.putP n (by omega) p2 q2 I.r2 got.length got.length (by omega) (by omega) f2 0, Rp.getP n (by omega) p1 q1 I.r1 all2.length got.length (by omega) (by omega) f1]
    rw [w64 (n := ((m2 + 1 : Nat) : Int) - 2) (by omega) (by omega)]
    by_cases q2' : all2.length < got.length + (m2 - 1)
    case neg =>
      rw [if_neg q2', show (((out.length : Nat) : Int) == ((m2 + 1 : Nat) : Int) - 2) = true by rw [beq_iff_eq]; omega]
      refine ⟨(j : Int), e, b, all2, wait, out, fun _ => rfl, ?_, I, fun _ => ⟨rfl, rfl, rfl⟩⟩
      cases (((wait.length : Nat) : Int) == 0) <;> rfl
    rw [if_pos q2', show (((out.length : Nat) : Int) == ((m2 + 1 : Nat) : Int) - 2) = false by rw [beq_eq_false_iff_ne]; omega]
    simp only [Option.bind_some, bne_self_eq_false, cond_false]
    cases wait with
    | nil =>
      simp only [List.length_nil] at n1 ⊢
      rw [if_neg (show ¬ all2.length < all1.length by omega)]
      exact ⟨(j : Int), e, b, all2, [], out, fun _ => rfl, rfl, I, fun _ => ⟨rfl, rfl, rfl⟩⟩
    | cons y t =>
      simp only [List.length_cons] at n1 ⊢
      rw [if_pos (show all2.length < all1.length by omega)]
      obtain ⟨w1, w2, w3⟩ := getD_drop 0 all1 all2.length (cwd y) (t.map cwd) I.wq
      have hy := I.wok y (List.mem_cons_self ..)
      have hyr := pack_lt (K := y.1) (S := y.2.1) (E := y.2.2.1) (A := y.2.2.2) hy
      have hu : F50 n (all1.getD all2.length 0) = some (y.1, y.2.1, y.2.2.1, y.2.2.2, 0) := by
        rw [w1, unP n _ (by unfold cwd; omega), pack_un y hy]
      obtain ⟨b', cd, sl', d1, d2, d3, d4, d5, d6⟩ := main n (by omega) b I.lb y.1 y.2.1 y.2.2.1 y.2.2.2
      have hm := Nat.mod_lt all2.length (show 0 < m1 by omega)
      obtain ⟨v1, v2⟩ := evWord d5 d6 (show 0 ≤ ((all2.length % m1 : Nat) : Int) ∧ ((all2.length % m1 : Nat) : Int) ≤ 63 by omega)
      simp only [Option.bind_some, Bool.not_true, cond_false, hu, d1]
      have hmk : (Rp.markP m1 all2.length).1 = ((all2.length % m1 : Nat) : Int) := rfl
      rw [hmk, v1, Rp.putP n (by omega) p2 q2 I.r2 got.length got.length (by omega) (by omega) f2 _, if_pos q2']
      simp only [Option.bind_some]
      rw [show ((((t.length + 1 : Nat)) : Int) == 0) = false by rw [beq_eq_false_iff_ne]; omega, decide_eq_false (show ¬ vn > 1000 by omega)]
      simp only [cond_false, F7_j46]
      rw [w64 (n := ((m1 + 1 : Nat) : Int) - 1) (by omega) (by omega), show (((m1 + 1 : Nat) : Int) - 1 != 0) = true by rw [bne_iff_ne]; omega]
      rw [inb_true (show (0 : Int) ≤ 0 by omega) (show (0 : Int) < ((y :: t).length : Nat) by simp only [List.length_cons]; omega)]
      simp only [cond_true, List.getD_cons_zero, d2, Option.bind_some]
      have hsub : subB (y :: t).length (some 1) none = true := by simp [subB]; omega
      have htm : ((all2.length : Nat) : Int).tmod (((m1 + 1 : Nat) : Int) - 1) = ((all2.length % m1 : Nat) : Int) := by
        rw [Int.tmod_eq_emod_of_nonneg (by omega), show ((m1 + 1 : Nat) : Int) - 1 = (m1 : Int) by omega]; simp
      rw [hsub, htm, take_drop1 _ (by simp), w64 (n := ((all2.length : Nat) : Int) + 1) (by omega) (by omega), w64 (n := (j : Int) + 1) (by omega) (by omega)]
      simp only [cond_true, List.tail_cons]
      rw [decide_eq_true (show (out.length + [(cd, (sl', ((all2.length % m1 : Nat) : Int)))].length) ≤ 5864062014805 by simp only [List.length_singleton]; omega)]
      simp only [cond_true]
      have hbd : boardE b' = 0 := by
        have hb := I.bE
        have : boardG b := by
          by_cases qq : boardG b
          · exact qq
          · unfold boardE at hb; rw [if_neg qq] at hb; omega
        unfold boardE
        rw [if_pos (d4 this)]
      have hr := Rp.put_ring (show 0 < m2 by omega) (cd + 256 * sl' + 65536 * ((all2.length % m1 : Nat) : Int)) I.r2
      have elen : (all2 ++ [cd + 256 * sl' + 65536 * ((all2.length % m1 : Nat) : Int)]).length = all2.length + 1 := by simp
      have I' : ∀ e1, Rp.RingSt m2 (all2 ++ [cd + 256 * sl' + 65536 * ((all2.length % m1 : Nat) : Int)]) e1 → Inv m1 m2 c e1 b' all1 (all2 ++ [cd + 256 * sl' + 65536 * ((all2.length % m1 : Nat) : Int)]) t (out ++ [(cd, (sl', ((all2.length % m1 : Nat) : Int)))]) got := by
        intro e1 hr
        refine ⟨I.r1, hr, d3, hbd, ?_, fun z hz => I.wok z (List.mem_cons_of_mem _ hz), ?_, ?_, ?_, ?_, f1, ?_, I.w1, ?_⟩
        · rw [elen]; exact w2
        · rw [List.drop_append_of_le_length (by omega), I.oq, List.map_append]; rfl
        · intro i hi
          simp only [List.length_append, List.length_singleton] at hi
          by_cases qi : i < out.length
          · rw [show (out ++ [(cd, (sl', ((all2.length % m1 : Nat) : Int)))]).getD i (0, (0, 0)) = out.getD i (0, (0, 0)) by simp [List.getD_eq_getElem?_getD, List.getElem?_append_left qi]]
            exact I.ook i qi
          · obtain rfl : i = out.length := by omega
            rw [show (out ++ [(cd, (sl', ((all2.length % m1 : Nat) : Int)))]).getD out.length (0, (0, 0)) = (cd, (sl', ((all2.length % m1 : Nat) : Int))) by simp [List.getD_eq_getElem?_getD]]
            exact ⟨d5, d6, by rw [n2]⟩
        · simp only [List.length_append, List.length_singleton]; omega
        · rw [elen]; omega
        · rw [elen]; omega
        · intro w hw
          rcases List.mem_append.1 hw with h | h
          · exact I.w2 w h
          · rw [List.mem_singleton.1 h]; omega
      obtain ⟨j', e', b'', all2', wait', out', r1, r2, r3, r4⟩ := workHp n hn p1 q1 p2 q2 vn hv got hgl all1 deeds put x m4 m5 hd K (k - 1) (j + 1) c _ b' _ t _ N N' (I' _ hr) (.inr (by omega)) (by omega) (by omega) (by omega)
      rw [elen] at r1 r2
      exact ⟨j', e', b'', all2', wait', out', r1, r2, r3, fun h => by omega⟩
end Go.Proofs.Ytdgdkbpmmemphaa

/- HostPlays: an event is reaped; an end is halted. -/
namespace Go.Proofs.Ytdgdkbpmmemphaa
open Go Go.RowKit
open Classical
set_option linter.unusedVariables false

theorem ewd_parts (v : Evt3) (a : 0 ≤ v.1 ∧ v.1 ≤ 255) (s : 0 ≤ v.2.1 ∧ v.2.1 ≤ 8) (t : 0 ≤ v.2.2 ∧ v.2.2 ≤ 63) :
    IntKind.wrap .i64 (bitsI .and .u64 (ewd v) 255) = v.1 ∧ IntKind.wrap .i64 (bitsI .and .u64 (shrI .u64 (ewd v) 8) 255) = v.2.1 ∧ IntKind.wrap .i64 (shrI .u64 (ewd v) 16) = v.2.2 := by
  obtain ⟨x, hx⟩ : ∃ x : Nat, ewd v = (x : Int) := ⟨(ewd v).toNat, by unfold ewd; omega⟩
  have hx2 := hx
  unfold ewd at hx2
  rw [hx]
  have a8 : shrI .u64 (x : Int) 8 = ((x / 2 ^ 8 : Nat) : Int) := ushr x 8 (by omega)
  have a16 : shrI .u64 (x : Int) 16 = ((x / 2 ^ 16 : Nat) : Int) := ushr x 16 (by omega)
  have m0 : bitsI .and .u64 (x : Int) 255 = ((x % 2 ^ 8 : Nat) : Int) := uMask x 8 (by omega) (by omega)
  have m8 : bitsI .and .u64 ((x / 2 ^ 8 : Nat) : Int) 255 = ((x / 2 ^ 8 % 2 ^ 8 : Nat) : Int) := uMask (x / 2 ^ 8) 8 (by omega) (by omega)
  rw [a8, a16, m0, m8, w64n _ (by omega), w64n _ (by omega), w64n _ (by omega)]
  refine ⟨by omega, by omega, by omega⟩
section
variable {m1 m2 : Nat} (p1 : 2 ≤ m1) (q1 : m1 ≤ 63) (p2 : 2 ≤ m2) (q2 : m2 ≤ 63) {c e : Cells} {b : Slots} {all1 all2 : List Int} {wait : List Cmd4} {out got : List Evt3}
include p1 q1 p2 q2
theorem reap1 (I : Inv m1 m2 c e b all1 all2 wait [] got) (n : Nat) (hn : 300 < n) : F21 n c (Rp.markP m1 all1.length).1 (Rp.markP m1 all1.length).2 (Rp.markP m1 all2.length).1 (Rp.markP m1 all2.length).2 ((got.length % m1 : Nat) : Int) e (Rp.markP m2 all2.length).1 (Rp.markP m2 all2.length).2 (Rp.markP m2 got.length).1 (Rp.markP m2 got.length).2 ((got.length % m2 : Nat) : Int) b = some ((Rp.markP m1 all1.length).1, (Rp.markP m1 all1.length).2, (Rp.markP m1 all2.length).1, (Rp.markP m1 all2.length).2, ((got.length % m1 : Nat) : Int), (Rp.markP m2 all2.length).1, (Rp.markP m2 all2.length).2, (Rp.markP m2 got.length).1, (Rp.markP m2 got.length).2, ((got.length % m2 : Nat) : Int), b, 0, 0, 0, false, c, e) := by
  have n2 := I.n2
  simp only [List.length_nil] at n2
  unfold F21
  rw [prepC p1 q1 p2 q2 I]
  simp only [Option.bind_some]
  rw [prepV p1 q1 p2 q2 I n hn]
  simp only [Option.bind_some, Bool.not_true, cond_false]
  rw [Rp.getP n (by omega) p2 q2 I.r2 got.length got.length (by omega) (by omega) I.f2, if_neg (by omega)]
  rfl
theorem reap2 (v : Evt3) (t : List Evt3) (I : Inv m1 m2 c e b all1 all2 wait (v :: t) got) (n : Nat) (hn : 300 < n) (hgl : got.length ≤ 1000000) : F21 n c (Rp.markP m1 all1.length).1 (Rp.markP m1 all1.length).2 (Rp.markP m1 all2.length).1 (Rp.markP m1 all2.length).2 ((got.length % m1 : Nat) : Int) e (Rp.markP m2 all2.length).1 (Rp.markP m2 all2.length).2 (Rp.markP m2 got.length).1 (Rp.markP m2 got.length).2 ((got.length % m2 : Nat) : Int) b = some ((Rp.markP m1 all1.length).1, (Rp.markP m1 all1.length).2, (Rp.markP m1 all2.length).1, (Rp.markP m1 all2.length).2, (((got.length + 1) % m1 : Nat) : Int), (Rp.markP m2 all2.length).1, (Rp.markP m2 all2.length).2, (Rp.markP m2 (got.length + 1)).1, (Rp.markP m2 (got.length + 1)).2, (((got.length + 1) % m2 : Nat) : Int), b, v.1, v.2.1, v.2.2, true, c, e) ∧ Inv m1 m2 c e b all1 all2 wait t (got ++ [v]) := by
  have n2 := I.n2
  have n1 := I.n1
  have f1 := I.f1
  have f2 := I.f2
  have hl1 := I.r1.1
  simp only [List.length_cons] at n2
  obtain ⟨w1, w2, w3⟩ := getD_drop 0 all2 got.length (ewd v) (t.map ewd) I.oq
  have ov := I.ook 0 (by simp)
  simp only [List.getD_cons_zero, Nat.add_zero] at ov
  obtain ⟨o1, o2, o3⟩ := ov
  have hm := Nat.mod_lt got.length (show 0 < m1 by omega)
  obtain ⟨e1, e2, e3⟩ := ewd_parts v o1 o2 (by omega)
  refine ⟨?_, ?_⟩
  · unfold F21
    rw [prepC p1 q1 p2 q2 I]
    simp only [Option.bind_some]
    rw [prepV p1 q1 p2 q2 I n hn]
    simp only [Option.bind_some, Bool.not_true, cond_false]
    rw [Rp.getP n (by omega) p2 q2 I.r2 got.length got.length (by omega) (by omega) f2, if_pos (by omega)]
    simp only [Option.bind_some, Bool.not_true, cond_false]
    rw [Rp.learnP n (by omega) p2 q2 I.r2 (got.length + 1) got.length]
    simp only [Option.bind_some, F21_j2, w1, e1, e2, e3, hl1]
    rw [w64 (n := ((m1 + 1 : Nat) : Int) - 1) (by omega) (by omega), decide_eq_true (show v.2.2 < ((m1 + 1 : Nat) : Int) - 1 by omega), show (((m1 + 1 : Nat) : Int) - 1 != 0) = true by rw [bne_iff_ne]; omega]
    have hs : (IntKind.wrap .i64 (v.2.2 + 1)).tmod (((m1 + 1 : Nat) : Int) - 1) = (((got.length + 1) % m1 : Nat) : Int) := by
      rw [o3, w64 (n := ((got.length % m1 : Nat) : Int) + 1) (by omega) (by omega), Int.tmod_eq_emod_of_nonneg (by omega), show ((m1 + 1 : Nat) : Int) - 1 = (m1 : Int) by omega, show ((got.length % m1 : Nat) : Int) + 1 = ((got.length % m1 + 1 : Nat) : Int) by omega, ← Int.natCast_emod, Nat.mod_add_mod]
    rw [hs]
    rfl
  · have hl : (got ++ [v]).length = got.length + 1 := by simp
    refine ⟨I.r1, I.r2, I.lb, I.bE, I.wq, I.wok, by rw [hl]; exact w2, ?_, by rw [hl]; omega, n1, by rw [hl]; omega, by rw [hl]; omega, I.w1, I.w2⟩
    intro i hi
    have := I.ook (i + 1) (by simpa using hi)
    simp only [List.getD_cons_succ] at this
    rw [hl, show got.length + 1 + i = got.length + (i + 1) by omega]
    exact this
end
/-- an end of a slot is halted -/
noncomputable def haltV (b : Slots) (slot vend : Int) : Slots :=
  if (1 ≤ slot ∧ slot ≤ 8) ∧ (1 ≤ vend ∧ vend ≤ 31) ∧ en (sl b slot.toNat) vend.toNat = 1 then b.set slot.toNat ((sl b slot.toNat).1, ((sl b slot.toNat).2.1, ((sl b slot.toNat).2.2.1.set vend.toNat 2, (sl b slot.toNat).2.2.2))) else b
theorem haltP (n : Nat) (hn : 300 < n) (b : Slots) (hb : boardE b = 0) (slot vend : Int) : F22 n b slot vend = some (haltV b slot vend) := by
  have no : ¬ ((1 ≤ slot ∧ slot ≤ 8) ∧ (1 ≤ vend ∧ vend ≤ 31) ∧ en (sl b slot.toNat) vend.toNat = 1) → some b = some (haltV b slot vend) := fun h => by unfold haltV; rw [if_neg h]
  unfold F22
  rw [b66 n (by omega) b, hb]
  simp only [Option.bind_some, bne_self_eq_false, cond_false]
  by_cases h1 : slot < 1
  · rw [decide_eq_true h1]; exact no (fun h => by omega)
  by_cases h2 : slot > 8
  · rw [decide_eq_false h1, decide_eq_true h2]; exact no (fun h => by omega)
  by_cases h3 : vend < 1
  · rw [decide_eq_false h1, decide_eq_false h2, decide_eq_true h3]; exact no (fun h => by omega)
  by_cases h4 : vend > 31
  · rw [decide_eq_false h1, decide_eq_false h2, decide_eq_false h3, decide_eq_true h4]; exact no (fun h => by omega)
  rw [decide_eq_false h1, decide_eq_false h2, decide_eq_false h3, decide_eq_false h4]
  simp only [cond_false]
  unfold F22_j2
  rw [inb_true (by omega) (show slot < ((9 : Nat) : Int) by omega), inb_true (by omega) (show vend < ((32 : Nat) : Int) by omega)]
  simp only [cond_true, cond_false]
  by_cases h5 : en (sl b slot.toNat) vend.toNat = 1
  · rw [show ((((b.getD slot.toNat (0, (0, ((List.replicate 32 (0 : Int)), (List.replicate 32 (0 : Int)))))).2.2.1).getD vend.toNat 0) == 1) = true from beq_iff_eq.2 h5]
    unfold haltV
    rw [if_pos ⟨by omega, by omega, h5⟩]
    rfl
  · rw [show ((((b.getD slot.toNat (0, (0, ((List.replicate 32 (0 : Int)), (List.replicate 32 (0 : Int)))))).2.2.1).getD vend.toNat 0) == 1) = false from beq_eq_false_iff_ne.2 h5]
    exact no (fun h => h5 h.2.2)
theorem halt_good (b : Slots) (hL : lenB b) (hb : boardE b = 0) (slot vend : Int) : lenB (haltV b slot vend) ∧ boardE (haltV b slot vend) = 0 := by
  unfold haltV
  by_cases h : (1 ≤ slot ∧ slot ≤ 8) ∧ (1 ≤ vend ∧ vend ≤ 31) ∧ en (sl b slot.toNat) vend.toNat = 1
  case neg => rw [if_neg h]; exact ⟨hL, hb⟩
  rw [if_pos h]
  obtain ⟨⟨a1, a2⟩, ⟨a3, a4⟩, h5⟩ := h
  have hbd : boardG b := by
    by_cases qq : boardG b
    · exact qq
    · unfold boardE at hb; rw [if_neg qq] at hb; omega
  obtain ⟨i, hi⟩ : ∃ i : Nat, slot.toNat = i := ⟨_, rfl⟩
  obtain ⟨k, hk⟩ : ∃ k : Nat, vend.toNat = k := ⟨_, rfl⟩
  rw [hi, hk] at h5
  rw [hi, hk]
  have i1 : 1 ≤ i := by omega
  have i9 : i < 9 := by omega
  have k1 : 1 ≤ k := by omega
  have k32 : k < 32 := by omega
  have hlen := hL.2 i i9
  obtain ⟨hsg, hap⟩ := hbd.2 i i1 i9
  have hen : ∀ j, en ((sl b i).1, ((sl b i).2.1, ((sl b i).2.2.1.set k 2, (sl b i).2.2.2))) j = if k = j then 2 else en (sl b i) j := by
    intro j
    show ((sl b i).2.2.1.set k 2).getD j 0 = if k = j then 2 else (sl b i).2.2.1.getD j 0
    rw [List.getD_eq_getElem?_getD, List.getElem?_set]
    by_cases q : k = j
    · rw [if_pos q, if_pos (by omega), if_pos q]; rfl
    · rw [if_neg q, if_neg q, ← List.getD_eq_getElem?_getD]
  have hmk : ∀ j, mk' ((sl b i).1, ((sl b i).2.1, ((sl b i).2.2.1.set k 2, (sl b i).2.2.2))) j = mk' (sl b i) j := fun _ => rfl
  have ht : goodT b i ((sl b i).1, ((sl b i).2.1, ((sl b i).2.2.1.set k 2, (sl b i).2.2.2))) := by
    refine ⟨?_, ?_⟩
    · rcases hsg with ⟨z1, z2⟩ | ⟨z1, z2, z3, z4, z5, z6⟩
      · exact absurd (z2.2.1 k k32) (by omega)
      · refine .inr ⟨z1, z2, ?_, ?_, ?_, ?_⟩
        · rw [hen, if_neg (by omega)]; exact z3
        · rw [hen]; split
          · omega
          · exact z4
        · intro j hj
          have := z5 j hj
          obtain ⟨y1, y2, y3⟩ := this
          refine ⟨?_, ?_, ?_⟩
          · rw [hen]; split
            · omega
            · exact y1
          · rw [hmk]; exact y2
          · rw [hen, hmk]; split
            · intro q; omega
            · exact y3
        · refine Iff.trans ?_ z6
          constructor
          · rintro ⟨j, j1, j2, j3⟩
            refine ⟨j, j1, j2, ?_⟩
            rw [hen] at j3
            by_cases q : k = j
            · subst q; omega
            · rw [if_neg q] at j3; exact j3
          · rintro ⟨j, j1, j2, j3⟩
            refine ⟨j, j1, j2, ?_⟩
            rw [hen]; split
            · omega
            · exact j3
    · intro j j1 j9 jne hne
      show (sl b i).2.1 ≠ (sl b j).2.1
      have hne' : (sl b i).2.1 ≠ 0 := hne
      by_cases q : j < i
      · exact hap j j1 q hne'
      · intro q2
        have := (hbd.2 j j1 j9).2 i i1 (by omega) (by rw [← q2]; exact hne')
        exact this q2.symm
  have hg := set_good hL.1 (by omega) i9 hbd ht
  refine ⟨set_len hL i9 ⟨?_, hlen.2⟩, ?_⟩
  · show ((sl b i).2.2.1.set k 2).length = 32
    rw [List.length_set]; exact hlen.1
  · unfold boardE
    rw [if_pos hg]
end Go.Proofs.Ytdgdkbpmmemphaa

/- HostPlays: one deed. -/
namespace Go.Proofs.Ytdgdkbpmmemphaa
open Go Go.RowKit
open Classical
set_option linter.unusedVariables false

theorem cT {α : Type} (c : Bool) (a b : α) (h : c = true) : cond c a b = a := by cases h; rfl
theorem cF {α : Type} (c : Bool) (a b : α) (h : c = false) : cond c a b = b := by cases h; rfl
theorem bS {α β : Type} (x : Option α) (a : α) (f : α → Option β) (h : x = some a) : x.bind f = f a := by cases h; rfl
theorem eT {a b : Int} (h : a = b) : (a == b) = true := beq_iff_eq.2 h
theorem eF {a b : Int} (h : ¬ a = b) : (a == b) = false := beq_eq_false_iff_ne.2 h
theorem nT : (!true) = false := rfl
theorem nF : (!false) = true := rfl
abbrev Deed := Int × (Int × Int × Int × Int) × Int × Int × Int
theorem stepHp (n : Nat) (hn : 2000 < n) {m1 m2 : Nat} (p1 : 2 ≤ m1) (q1 : m1 ≤ 63) (p2 : 2 ≤ m2) (q2 : m2 ≤ 63) (deeds : List Deed) (i : Nat) (hi : i < deeds.length) (hdl : deeds.length ≤ 200) {c e : Cells} {b : Slots} {all1 all2 : List Int} {wait : List Cmd4} {out got : List Evt3} (told : List Int) (I : Inv m1 m2 c e b all1 all2 wait out got) (hg : got.length ≤ i) (ht : told.length ≤ i)
    (KP : (Int × Int × Int × Int × Int × Int × Int × Int × Int × Int × Int × Slots × Cells × Cells × List Evt3 × List Int) → Option (Int × Int × Int × Int × Int × Int × Int × Int × Int × Int × Slots × Int × Cells × Cells × List Evt3 × List Int))
    (KD : (Int × Int × Int × Slots × List Cmd4 × List Evt3 × List Evt3 × List Int) → Option (Slots × Int × List Evt3 × List Int)) :
    ∃ (c' e' : Cells) (b' : Slots) (all1' all2' : List Int) (wait' : List Cmd4) (out' got' : List Evt3) (told' : List Int),
      F6_l2 n deeds KP ((i : Int), (Rp.markP m1 all1.length).1, (Rp.markP m1 all1.length).2, (Rp.markP m1 all2.length).1, (Rp.markP m1 all2.length).2, ((got.length % m1 : Nat) : Int), (Rp.markP m2 all2.length).1, (Rp.markP m2 all2.length).2, (Rp.markP m2 got.length).1, (Rp.markP m2 got.length).2, ((got.length % m2 : Nat) : Int), b, c, e, got, told) = KP (((i + 1 : Nat) : Int), (Rp.markP m1 all1'.length).1, (Rp.markP m1 all1'.length).2, (Rp.markP m1 all2'.length).1, (Rp.markP m1 all2'.length).2, ((got'.length % m1 : Nat) : Int), (Rp.markP m2 all2'.length).1, (Rp.markP m2 all2'.length).2, (Rp.markP m2 got'.length).1, (Rp.markP m2 got'.length).2, ((got'.length % m2 : Nat) : Int), b', c', e', got', told') ∧
      F7_l41 n (((m1 + 1 : Nat) : Int)) (((m2 + 1 : Nat) : Int)) deeds KD ((all1.length : Int), (all2.length : Int), (i : Int), b, wait, out, got, told) = KD ((all1'.length : Int), (all2'.length : Int), ((i + 1 : Nat) : Int), b', wait', out', got', told') ∧
      Inv m1 m2 c' e' b' all1' all2' wait' out' got' ∧ got'.length ≤ i + 1 ∧ told'.length ≤ i + 1 := by
  have n1 := I.n1
  have n2 := I.n2
  have f1 := I.f1
  have f2 := I.f2
  obtain ⟨d, hd⟩ : ∃ d : Deed, deeds.getD ((i : Nat) : Int).toNat (0, ((0, (0, (0, 0))), (0, (0, 0)))) = d := ⟨_, rfl⟩
  have hx : IntKind.wrap .i64 ((i : Int) + 1) = ((i + 1 : Nat) : Int) := by rw [w64 (by omega) (by omega)]; omega
  have hib : inb (i : Int) deeds.length = true := inb_true (by omega) (show (i : Int) < (deeds.length : Nat) by omega)
  have hlt : decide ((i : Int) < ((deeds.length : Nat) : Int)) = true := decide_eq_true (by omega)
  have g1 : got.length ≤ i + 1 := by omega
  have tl : ∀ z : Int, (told ++ [z]).length ≤ i + 1 := fun z => by simp only [List.length_append, List.length_singleton]; omega
  have td : ∀ z : Int, decide (told.length + [z].length ≤ 17592186044416) = true := fun z => decide_eq_true (by simp only [List.length_singleton]; omega)
  have gd : ∀ z : Evt3, decide (got.length + [z].length ≤ 5864062014805) = true := fun z => decide_eq_true (by simp only [List.length_singleton]; omega)
  unfold F6_l2 F7_l41
  simp only
  rw [hd, hx, hlt, hib, cT _ _ _ rfl, cT _ _ _ rfl, cT _ _ _ rfl, cT _ _ _ rfl]
  by_cases k1 : d.1 = 1
  · -- a command
    rw [cT _ _ _ (eT k1), cT _ _ _ (eT k1)]
    have hw : F24 n d.2.1.1 d.2.1.2.1 d.2.1.2.2.1 d.2.1.2.2.2 = some (cwd d.2.1, cerr d.2.1) := wordR n (by omega) _ _ _ _
    rw [bS _ _ _ hw]
    by_cases hx0 : cerr d.2.1 = 0
    case neg =>
      rw [bS _ _ _ (sub1 p1 q1 p2 q2 I n (by omega) d.2.1 hx0), cF _ _ _ (eF hx0), cT _ _ _ (td _), cT _ _ _ (td _)]
      exact ⟨c, e, b, all1, all2, wait, out, got, _, rfl, rfl, I, g1, tl _⟩
    rw [cT _ _ _ (eT hx0), w64 (n := ((all1.length : Nat) : Int) - ((got.length : Nat) : Int)) (by omega) (by omega), w64 (n := ((m1 + 1 : Nat) : Int) - 2) (by omega) (by omega)]
    by_cases hf : all1.length < got.length + (m1 - 1)
    · obtain ⟨c', s1, I'⟩ := sub3 p1 q1 p2 q2 I n (by omega) d.2.1 hx0 hf
      rw [bS _ _ _ s1, cT _ _ _ (td _), cF _ _ _ (decide_eq_false (show ¬ ((all1.length : Nat) : Int) - ((got.length : Nat) : Int) ≥ ((m1 + 1 : Nat) : Int) - 2 by omega))]
      unfold F7_j42
      rw [hd, hx, hx0]
      refine ⟨c', e, b, all1 ++ [cwd d.2.1], all2, wait ++ [d.2.1], out, got, told ++ [0], ?_, ?_, I', g1, tl _⟩
      · simp only [List.length_append, List.length_singleton]
      · simp only
        rw [cT _ _ _ (td _), cT _ _ _ (eT rfl), cT _ _ _ (decide_eq_true (by simp only [List.length_singleton]; omega)), w64 (n := ((all1.length : Nat) : Int) + 1) (by omega) (by omega)]
        simp only [List.length_append, List.length_singleton]
        rfl
    · rw [bS _ _ _ (sub2 p1 q1 p2 q2 I n (by omega) d.2.1 hx0 (by omega)), cT _ _ _ (td _), cT _ _ _ (decide_eq_true (show ((all1.length : Nat) : Int) - ((got.length : Nat) : Int) ≥ ((m1 + 1 : Nat) : Int) - 2 by omega))]
      unfold F7_j42
      rw [hd, hx]
      refine ⟨c, e, b, all1, all2, wait, out, got, told ++ [11], rfl, ?_, I, g1, tl _⟩
      simp only
      rw [cT _ _ _ (td _), cF _ _ _ (eF (by omega))]
  rw [cF _ _ _ (eF k1), cF _ _ _ (eF k1)]
  by_cases k2 : d.1 = 2
  · -- the work
    rw [cT _ _ _ (eT k2), cT _ _ _ (eT k2)]
    have hd2 : (deeds.getD ((i : Nat) : Int).toNat (0, ((0, (0, (0, 0))), (0, (0, 0))))).2.2.1 = d.2.2.1 := by rw [hd]
    have hwk : F20 n c (Rp.markP m1 all1.length).1 (Rp.markP m1 all1.length).2 (Rp.markP m1 all2.length).1 (Rp.markP m1 all2.length).2 ((got.length % m1 : Nat) : Int) e (Rp.markP m2 all2.length).1 (Rp.markP m2 all2.length).2 (Rp.markP m2 got.length).1 (Rp.markP m2 got.length).2 ((got.length % m2 : Nat) : Int) b d.2.2.1 = (bif decide (d.2.2.1 < 1) then F20_j3 n d.2.2.1 ((Rp.markP m1 all1.length).1, (Rp.markP m1 all1.length).2, (Rp.markP m1 all2.length).1, (Rp.markP m1 all2.length).2, ((got.length % m1 : Nat) : Int), (Rp.markP m2 all2.length).1, (Rp.markP m2 all2.length).2, (Rp.markP m2 got.length).1, (Rp.markP m2 got.length).2, ((got.length % m2 : Nat) : Int), b, c, e) true else F20_j3 n d.2.2.1 ((Rp.markP m1 all1.length).1, (Rp.markP m1 all1.length).2, (Rp.markP m1 all2.length).1, (Rp.markP m1 all2.length).2, ((got.length % m1 : Nat) : Int), (Rp.markP m2 all2.length).1, (Rp.markP m2 all2.length).2, (Rp.markP m2 got.length).1, (Rp.markP m2 got.length).2, ((got.length % m2 : Nat) : Int), b, c, e) (decide (d.2.2.1 > 1000))) := by
      unfold F20
      rw [prepC p1 q1 p2 q2 I]
      simp only [Option.bind_some]
      rw [prepV p1 q1 p2 q2 I n (by omega)]
      rfl
    rw [hwk]
    by_cases v1 : d.2.2.1 > 1000
    · rw [cF _ _ _ (decide_eq_false (show ¬ d.2.2.1 < 1 by omega)), decide_eq_true v1]
      obtain ⟨N, rfl⟩ : ∃ N, n = N + 1 := ⟨n - 1, by omega⟩
      have lo1 : loopF (F7_l45 (N + 1) KD (((m1 + 1 : Nat) : Int)) (((m2 + 1 : Nat) : Int)) deeds (all1.length : Int) (i : Int) got told) (N + 1) ((all2.length : Int), 0, b, wait, out) = KD ((all1.length : Int), (all2.length : Int), ((i + 1 : Nat) : Int), b, wait, out, got, told) := by
        show F7_l45 (N + 1) KD (((m1 + 1 : Nat) : Int)) (((m2 + 1 : Nat) : Int)) deeds (all1.length : Int) (i : Int) got told (loopF (F7_l45 (N + 1) KD (((m1 + 1 : Nat) : Int)) (((m2 + 1 : Nat) : Int)) deeds (all1.length : Int) (i : Int) got told) N) ((all2.length : Int), 0, b, wait, out) = _
        simp only [F7_l45, F7_j46, hd, hx]
        rw [decide_eq_true (show (0 : Int) < d.2.2.1 by omega), decide_eq_true v1]
        cases (((wait.length : Nat) : Int) == 0)
        · cases (((out.length : Nat) : Int) == (IntKind.wrap .i64 (((m2 + 1 : Nat) : Int) - 2))) <;> rfl
        · rfl
      rw [lo1]
      exact ⟨c, e, b, all1, all2, wait, out, got, told, rfl, rfl, I, g1, by omega⟩
    · obtain ⟨j', e', b', all2', wait', out', r1, r2, r3, r4⟩ := workHp n hn p1 q1 p2 q2 d.2.2.1 (by omega) got (by omega) all1 deeds (all1.length : Int) (i : Int) got told hd2 KD 1000 0 c e b all2 wait out n n I (by omega) (by omega) (by omega) (by omega)
      rw [hx] at r2
      have r2' : loopF (F7_l45 n KD (((m1 + 1 : Nat) : Int)) (((m2 + 1 : Nat) : Int)) deeds (all1.length : Int) (i : Int) got told) n ((all2.length : Int), 0, b, wait, out) = _ := r2
      rw [r2']
      by_cases v2 : d.2.2.1 < 1
      · obtain ⟨rfl, rfl, rfl⟩ := r4 v2
        rw [cT _ _ _ (decide_eq_true v2)]
        exact ⟨c, _, _, all1, _, wait', out', got, told, rfl, rfl, r3, g1, by omega⟩
      · rw [cF _ _ _ (decide_eq_false v2), decide_eq_false v1]
        unfold F20_j3
        rw [cF _ _ _ rfl]
        have r1' := r1 (by omega)
        refine ⟨c, e', b', all1, all2', wait', out', got, told, ?_, rfl, r3, g1, by omega⟩
        exact bS _ _ _ r1'
  rw [cF _ _ _ (eF k2), cF _ _ _ (eF k2)]
  by_cases k3 : d.1 = 3
  · -- an event is reaped
    rw [cT _ _ _ (eT k3), cT _ _ _ (eT k3)]
    cases out with
    | nil =>
      rw [bS _ _ _ (reap1 p1 q1 p2 q2 I n (by omega)), cF _ _ _ rfl, cF _ _ _ (decide_eq_false (show ¬ ((([] : List Evt3).length : Nat) : Int) > 0 by simp))]
      exact ⟨c, e, b, all1, all2, wait, [], got, told, rfl, rfl, I, g1, by omega⟩
    | cons v t =>
      obtain ⟨s1, I'⟩ := reap2 p1 q1 p2 q2 v t I n (by omega) (by omega)
      rw [bS _ _ _ s1, cT _ _ _ rfl, cT _ _ _ (gd _), cT _ _ _ (decide_eq_true (show ((((v :: t) : List Evt3).length : Nat) : Int) > 0 by simp only [List.length_cons]; omega)), cT _ _ _ (inb_true (show (0 : Int) ≤ 0 by omega) (show (0 : Int) < ((v :: t).length : Nat) by simp only [List.length_cons]; omega)), cT _ _ _ (gd _), cT _ _ _ (show subB (v :: t).length (some 1) none = true by simp [subB]; omega), take_drop1 _ (by simp)]
      refine ⟨c, e, b, all1, all2, wait, t, got ++ [v], told, ?_, ?_, I', by simp only [List.length_append, List.length_singleton]; omega, by omega⟩
      · simp only [List.length_append, List.length_singleton]
      · simp only [List.getD_cons_zero, List.tail_cons]
  rw [cF _ _ _ (eF k3), cF _ _ _ (eF k3)]
  by_cases k4 : d.1 = 4
  · -- an end is halted
    rw [cT _ _ _ (eT k4), cT _ _ _ (eT k4), bS _ _ _ (haltP n (by omega) b I.bE _ _), bS _ _ _ (b16 n _ _ _)]
    obtain ⟨hl, hb⟩ := halt_good b I.lb I.bE d.2.2.2.1 d.2.2.2.2
    have I' : Inv m1 m2 c e (haltV b d.2.2.2.1 d.2.2.2.2) all1 all2 wait out got := ⟨I.r1, I.r2, hl, hb, I.wq, I.wok, I.oq, I.ook, n2, n1, f1, f2, I.w1, I.w2⟩
    refine ⟨c, e, _, all1, all2, wait, out, got, told, rfl, ?_, I', g1, by omega⟩
    have no : ¬ ((1 ≤ d.2.2.2.1 ∧ d.2.2.2.1 ≤ 8) ∧ (1 ≤ d.2.2.2.2 ∧ d.2.2.2.2 ≤ 31) ∧ en (sl b d.2.2.2.1.toNat) d.2.2.2.2.toNat = 1) → haltV b d.2.2.2.1 d.2.2.2.2 = b := fun h => by unfold haltV; rw [if_neg h]
    by_cases h1 : 1 ≤ d.2.2.2.1 ∧ d.2.2.2.1 ≤ 8
    · rw [cT _ _ _ (decide_eq_true h1), bS _ _ _ (b16 n _ _ _)]
      by_cases h2 : 1 ≤ d.2.2.2.2 ∧ d.2.2.2.2 ≤ 31
      · rw [cT _ _ _ (decide_eq_true h2), cT _ _ _ (inb_true (by omega) (show d.2.2.2.1 < ((9 : Nat) : Int) by omega)), cT _ _ _ (inb_true (by omega) (show d.2.2.2.2 < ((32 : Nat) : Int) by omega))]
        by_cases h5 : en (sl b d.2.2.2.1.toNat) d.2.2.2.2.toNat = 1
        · rw [cT _ _ _ (show ((((b.getD d.2.2.2.1.toNat (0, (0, ((List.replicate 32 (0 : Int)), (List.replicate 32 (0 : Int)))))).2.2.1).getD d.2.2.2.2.toNat 0) == 1) = true from beq_iff_eq.2 h5)]
          unfold haltV
          rw [if_pos ⟨h1, h2, h5⟩]
          rfl
        · rw [cF _ _ _ (show ((((b.getD d.2.2.2.1.toNat (0, (0, ((List.replicate 32 (0 : Int)), (List.replicate 32 (0 : Int)))))).2.2.1).getD d.2.2.2.2.toNat 0) == 1) = false from beq_eq_false_iff_ne.2 h5), no (fun h => h5 h.2.2)]
      · rw [cF _ _ _ (decide_eq_false h2), no (fun h => h2 h.2.1)]
    · rw [cF _ _ _ (decide_eq_false h1), no (fun h => h1 h.1)]
  rw [cF _ _ _ (eF k4), cF _ _ _ (eF k4)]
  exact ⟨c, e, b, all1, all2, wait, out, got, told, rfl, rfl, I, g1, by omega⟩
end Go.Proofs.Ytdgdkbpmmemphaa

/- HostPlays: the law. -/
namespace Go.Proofs.Ytdgdkbpmmemphaa
open Go Go.RowKit
open Classical
set_option linter.unusedVariables false

theorem playHp (n : Nat) (hn : 2000 < n) {m1 m2 : Nat} (p1 : 2 ≤ m1) (q1 : m1 ≤ 63) (p2 : 2 ≤ m2) (q2 : m2 ≤ 63) (deeds : List Deed) (hdl : deeds.length ≤ 200) :
    ∀ (k i : Nat) (c e : Cells) (b : Slots) (all1 all2 : List Int) (wait : List Cmd4) (out got : List Evt3) (told : List Int) (N N' : Nat), Inv m1 m2 c e b all1 all2 wait out got → got.length ≤ i → told.length ≤ i → i + k = deeds.length → k < N → k < N' →
    ∃ (c' e' : Cells) (b' : Slots) (all1' all2' : List Int) (wait' : List Cmd4) (out' got' : List Evt3) (told' : List Int),
      loopF (F6_l2 n deeds) N ((i : Int), (Rp.markP m1 all1.length).1, (Rp.markP m1 all1.length).2, (Rp.markP m1 all2.length).1, (Rp.markP m1 all2.length).2, ((got.length % m1 : Nat) : Int), (Rp.markP m2 all2.length).1, (Rp.markP m2 all2.length).2, (Rp.markP m2 got.length).1, (Rp.markP m2 got.length).2, ((got.length % m2 : Nat) : Int), b, c, e, got, told) = some ((Rp.markP m1 all1'.length).1, (Rp.markP m1 all1'.length).2, (Rp.markP m1 all2'.length).1, (Rp.markP m1 all2'.length).2, ((got'.length % m1 : Nat) : Int), (Rp.markP m2 all2'.length).1, (Rp.markP m2 all2'.length).2, (Rp.markP m2 got'.length).1, (Rp.markP m2 got'.length).2, ((got'.length % m2 : Nat) : Int), b', 0, c', e', got', told') ∧
      loopF (F7_l41 n (((m1 + 1 : Nat) : Int)) (((m2 + 1 : Nat) : Int)) deeds) N' ((all1.length : Int), (all2.length : Int), (i : Int), b, wait, out, got, told) = some (b', 0, got', told') ∧ got'.length ≤ 200 ∧ told'.length ≤ 200
  | k, i, c, e, b, all1, all2, wait, out, got, told, 0, N', I, hg, ht, hk, h1, h2 => by omega
  | k, i, c, e, b, all1, all2, wait, out, got, told, N + 1, 0, I, hg, ht, hk, h1, h2 => by omega
  | 0, i, c, e, b, all1, all2, wait, out, got, told, N + 1, N' + 1, I, hg, ht, hk, h1, h2 => by
    refine ⟨c, e, b, all1, all2, wait, out, got, told, ?_, ?_, by omega, by omega⟩
    · show F6_l2 n deeds (loopF (F6_l2 n deeds) N) ((i : Int), (Rp.markP m1 all1.length).1, (Rp.markP m1 all1.length).2, (Rp.markP m1 all2.length).1, (Rp.markP m1 all2.length).2, ((got.length % m1 : Nat) : Int), (Rp.markP m2 all2.length).1, (Rp.markP m2 all2.length).2, (Rp.markP m2 got.length).1, (Rp.markP m2 got.length).2, ((got.length % m2 : Nat) : Int), b, c, e, got, told) = _
      unfold F6_l2
      simp only
      rw [cF _ _ _ (decide_eq_false (by omega))]
    · show F7_l41 n (((m1 + 1 : Nat) : Int)) (((m2 + 1 : Nat) : Int)) deeds (loopF (F7_l41 n (((m1 + 1 : Nat) : Int)) (((m2 + 1 : Nat) : Int)) deeds) N') ((all1.length : Int), (all2.length : Int), (i : Int), b, wait, out, got, told) = _
      unfold F7_l41
      simp only
      rw [cF _ _ _ (decide_eq_false (by omega))]
  | k + 1, i, c, e, b, all1, all2, wait, out, got, told, N + 1, N' + 1, I, hg, ht, hk, h1, h2 => by
    obtain ⟨c', e', b', all1', all2', wait', out', got', told', s1, s2, I', hg', ht'⟩ := stepHp n hn p1 q1 p2 q2 deeds i (by omega) hdl told I hg ht (loopF (F6_l2 n deeds) N) (loopF (F7_l41 n (((m1 + 1 : Nat) : Int)) (((m2 + 1 : Nat) : Int)) deeds) N')
    obtain ⟨c2, e2, b2, all12, all22, wait2, out2, got2, told2, t1, t2, l1, l2⟩ := playHp n hn p1 q1 p2 q2 deeds hdl k (i + 1) c' e' b' all1' all2' wait' out' got' told' N N' I' hg' ht' (by omega) (by omega) (by omega)
    exact ⟨c2, e2, b2, all12, all22, wait2, out2, got2, told2, s1.trans t1, s2.trans t2, l1, l2⟩
def board0 : Slots := List.replicate 9 (0, (0, ((List.replicate 32 (0 : Int)), (List.replicate 32 (0 : Int)))))
theorem sl0 (i : Nat) (hi : i < 9) : sl board0 i = zeroS := by
  unfold sl board0
  rw [List.getD_eq_getElem?_getD, List.getElem?_replicate, if_pos hi]
  rfl
theorem board0_ok : lenB board0 ∧ boardE board0 = 0 := by
  refine ⟨⟨by simp [board0], fun k hk => by rw [sl0 k hk]; exact ⟨by simp [zeroS], by simp [zeroS]⟩⟩, ?_⟩
  unfold boardE
  rw [if_pos]
  refine ⟨?_, fun i h1 h9 => ⟨?_, ?_⟩⟩
  · rw [sl0 0 (by omega)]; exact Sh.beq_self _ _
  · rw [sl0 i h9]
    exact .inl ⟨⟨by show (0 : Int) ≤ 0; omega, by show (0 : Int) ≤ 1; omega⟩, rfl, fun k _ => rep0 k, fun k _ => rep0 k⟩
  · intro k k1 k2 h
    rw [sl0 i h9] at h
    exact absurd rfl h
theorem newH (n P : Nat) (hP : 2 ≤ P) (hP2 : P ≤ 63) : ∃ c, F26 n ((P + 1 : Nat) : Int) = some (0, 1, 0, 1, 0, 0, c) ∧ Rp.RingSt P [] c := by
  unfold F26
  have eW : IntKind.wrap .i64 (((P + 1 : Nat) : Int) - 1) = (P : Int) := by rw [w64 (by omega) (by omega)]; omega
  rw [decide_eq_false (show ¬ ((P + 1 : Nat) : Int) < 3 by omega), decide_eq_false (show ¬ ((P + 1 : Nat) : Int) > 64 by omega), decide_eq_true (show 0 ≤ ((P + 1 : Nat) : Int) ∧ (((P + 1 : Nat) : Int) ≤ ((P + 1 : Nat) : Int) ∧ ((P + 1 : Nat) : Int) * 25 ≤ 140737488355328) by omega), eW, Int.toNat_natCast, List.length_replicate, inb_true (show (0 : Int) ≤ P by omega) (show (P : Int) < (P + 1 : Nat) by omega), Int.toNat_natCast]
  refine ⟨_, rfl, by simp, fun p hp => ⟨fun h => absurd h (by simp), fun _ => ?_⟩, ?_⟩
  · rw [Rp.cset _ P p _ (by simp), if_neg (by omega)]; exact Rp.repC _ _
  · rw [Rp.cset _ P P _ (by simp), if_pos rfl, Rp.repC, List.length_nil, Nat.zero_div]; rfl
theorem newBad (n : Nat) (cells : Int) (hc : ¬ (3 ≤ cells ∧ cells ≤ 64)) : F26 n cells = some (0, 0, 0, 0, 0, 1, []) := by
  unfold F26
  by_cases h : cells < 3
  · rw [decide_eq_true h]; rfl
  · rw [decide_eq_false h, decide_eq_true (show cells > 64 by omega)]; rfl
theorem docBad (n : Nat) (cells : Int) (hc : ¬ (3 ≤ cells ∧ cells ≤ 64)) : F9 n cells [] = some (0, 0, 0, 0, 0, 1, [], []) := by
  unfold F9
  rw [bS _ _ _ (b16 n _ _ _), decide_eq_false hc, cT _ _ _ nF]
theorem docNew (n : Nat) (hn : 1500 < n) (P : Nat) (hP : 2 ≤ P) (hP2 : P ≤ 63) (c : Cells) (h : Rp.RingSt P [] c) : F9 n ((P + 1 : Nat) : Int) [] = some (0, 1, 0, 1, 0, 0, c, []) := by
  have eW : IntKind.wrap .i64 (((P + 1 : Nat) : Int) - 1) = (P : Int) := by rw [w64 (by omega) (by omega)]; omega
  have b0 : Rp.bitK P 0 = 1 := by unfold Rp.bitK; rw [Nat.zero_div]; rfl
  have m0 : Rp.markP P 0 = (0, 1) := by unfold Rp.markP; rw [b0, Nat.zero_mod]; rfl
  have hE := Rp.docEnd n hn P hP hP2 [] c (by simp) h 0 0 (by simp) (Rp.markP P 0) (Rp.markP P 0)
  unfold F9
  rw [bS _ _ _ (b16 n _ _ _), decide_eq_true (show 3 ≤ ((P + 1 : Nat) : Int) ∧ ((P + 1 : Nat) : Int) ≤ 64 by omega), cF _ _ _ nT, cF _ _ _ (decide_eq_false (show ¬ ((([] : List (Int × Int)).length : Nat) : Int) > 1000 by simp))]
  have lo : loopF (F9_l9 n ((P + 1 : Nat) : Int) []) n (0, 0, 0, []) = F9_l9 n ((P + 1 : Nat) : Int) [] (loopF (F9_l9 n ((P + 1 : Nat) : Int) []) (n - 1)) (0, 0, 0, []) := by
    obtain ⟨m, hm⟩ : ∃ m, n = m + 1 := ⟨n - 1, by omega⟩
    have e1 : ∀ (B : ((Int × Int × Int × List Int) → Option (Int × Int × Int × Int × Int × Int × Cells × List Int)) → (Int × Int × Int × List Int) → Option (Int × Int × Int × Int × Int × Int × Cells × List Int)) z, loopF B n z = B (loopF B (n - 1)) z := by
      intro B z; rw [hm]; rfl
    exact e1 _ _
  rw [lo]
  unfold F9_l9
  simp only
  have f0 : F27 n 0 (P : Int) = some (Rp.markP P 0) := Rp.f81 n P 0 (by omega) hP2 (by omega)
  have f0' : F27 n ((([] : List Int).length : Nat) : Int) (P : Int) = some (Rp.markP P 0) := f0
  rw [cF _ _ _ (decide_eq_false (show ¬ (0 : Int) < ((([] : List (Int × Int)).length : Nat) : Int) by simp)), cT _ _ _ (decide_eq_true (show 0 ≤ ((P + 1 : Nat) : Int) ∧ (((P + 1 : Nat) : Int) ≤ ((P + 1 : Nat) : Int) ∧ ((P + 1 : Nat) : Int) * 25 ≤ 140737488355328) by omega)), eW, bS _ _ _ f0', bS _ _ _ f0, cT _ _ _ (show ((P : Int) != 0) = true by rw [bne_iff_ne]; omega), Int.toNat_natCast]
  refine Eq.trans hE ?_
  rw [m0, Nat.zero_mod]
  rfl
theorem eqEv (n : Nat) (l : List Evt3) (hl : l.length ≤ 200) (hn : 2000 < n) : F10 n l l = some true := by
  unfold F10
  simp only [bne_self_eq_false, cond_false]
  obtain ⟨r, h1, h2⟩ := loopF_post (F10_l2 n l l) (fun x => 0 ≤ x ∧ x ≤ (l.length : Int)) (fun x r => r = true) (fun x => ((l.length : Int) - x).toNat) (by
    rintro k x ⟨hx0, hx1⟩ ih
    simp only [F10_l2]
    by_cases hx : x < (l.length : Int)
    · rw [decide_eq_true hx, inb_true hx0 hx, w64 (n := x + 1) (by omega) (by omega)]
      obtain ⟨r, i1, i2⟩ := ih (x + 1) ⟨by omega, by omega⟩ (by omega)
      exact ⟨r, by simpa [Sh.beq_self] using i1, i2⟩
    · rw [decide_eq_false hx]
      exact ⟨true, rfl, rfl⟩) n 0 ⟨by omega, by omega⟩ (by omega)
  rw [h1, h2]
theorem eqEr (n : Nat) (l : List Int) (hl : l.length ≤ 200) (hn : 2000 < n) : F11 n l l = some true := by
  unfold F11
  simp only [bne_self_eq_false, cond_false]
  obtain ⟨r, h1, h2⟩ := loopF_post (F11_l2 n l l) (fun x => 0 ≤ x ∧ x ≤ (l.length : Int)) (fun x r => r = true) (fun x => ((l.length : Int) - x).toNat) (by
    rintro k x ⟨hx0, hx1⟩ ih
    simp only [F11_l2]
    by_cases hx : x < (l.length : Int)
    · rw [decide_eq_true hx, inb_true hx0 hx, w64 (n := x + 1) (by omega) (by omega)]
      obtain ⟨r, i1, i2⟩ := ih (x + 1) ⟨by omega, by omega⟩ (by omega)
      exact ⟨r, by simpa using i1, i2⟩
    · rw [decide_eq_false hx]
      exact ⟨true, rfl, rfl⟩) n 0 ⟨by omega, by omega⟩ (by omega)
  rw [h1, h2]
theorem plays2 (n : Nat) (hn : 2000 < n) (cmds evts : Int) (deeds : List Deed) : F3 n cmds evts deeds = some true := by
  have q10 : ((1 : Int) != 0) = true := rfl
  have z0 : F12 n [] 0 0 0 0 0 [] 0 0 0 0 0 board0 [] 0 0 0 0 0 [] 0 0 0 0 0 board0 = some true := sameM n (by simp) (by simp) (by simp; omega)
  have ev0 := eqEv n [] (by simp) hn
  have er0 := eqEr n [] (by simp) hn
  by_cases h1 : 3 ≤ cmds ∧ cmds ≤ 64
  case neg =>
    have e8 : F8 n cmds evts = some (0, 0, 0, 0, 0, 0, 0, 0, 0, 0, board0, 1, [], []) := by
      unfold F8
      rw [bS _ _ _ (newBad n cmds h1), cT _ _ _ q10]; rfl
    have e6 : F6 n cmds evts deeds = some (0, 0, 0, 0, 0, 0, 0, 0, 0, 0, board0, 1, [], [], [], []) := by
      unfold F6
      rw [bS _ _ _ e8, cT _ _ _ q10]; rfl
    have e7 : F7 n cmds evts deeds = some (board0, 1, [], []) := by
      unfold F7
      rw [bS _ _ _ (b16 n _ _ _), decide_eq_false h1, cT _ _ _ nF]; rfl
    have d9 : ∃ z, F9 n evts [] = some z := by
      by_cases h2 : 3 ≤ evts ∧ evts ≤ 64
      · obtain ⟨P, rfl⟩ : ∃ P : Nat, evts = ((P + 1 : Nat) : Int) := ⟨evts.toNat - 1, by omega⟩
        obtain ⟨c, _, hc⟩ := newH n P (by omega) (by omega)
        exact ⟨_, docNew n (by omega) P (by omega) (by omega) c hc⟩
      · exact ⟨_, docBad n evts h2⟩
    obtain ⟨z, d9⟩ := d9
    unfold F3
    rw [bS _ _ _ e6, bS _ _ _ e7, bS _ _ _ e8, bS _ _ _ (docBad n cmds h1), bS _ _ _ d9, cT _ _ _ q10, cT _ _ _ (Sh.beq_self _ _), bS _ _ _ ev0, cT _ _ _ rfl, bS _ _ _ er0, cT _ _ _ rfl, cT _ _ _ (eT rfl), cT _ _ _ (eT rfl)]
    exact bS _ _ _ z0
  obtain ⟨m1, rfl⟩ : ∃ P : Nat, cmds = ((P + 1 : Nat) : Int) := ⟨cmds.toNat - 1, by omega⟩
  obtain ⟨c0, hc, hc0⟩ := newH n m1 (by omega) (by omega)
  have dc := docNew n (by omega) m1 (by omega) (by omega) c0 hc0
  by_cases h2 : 3 ≤ evts ∧ evts ≤ 64
  case neg =>
    have e8 : F8 n ((m1 + 1 : Nat) : Int) evts = some (0, 0, 0, 0, 0, 0, 0, 0, 0, 0, board0, 1, [], []) := by
      unfold F8
      rw [bS _ _ _ hc, cF _ _ _ (show ((0 : Int) != 0) = false from rfl), bS _ _ _ (newBad n evts h2), cT _ _ _ q10]; rfl
    have e6 : F6 n ((m1 + 1 : Nat) : Int) evts deeds = some (0, 0, 0, 0, 0, 0, 0, 0, 0, 0, board0, 1, [], [], [], []) := by
      unfold F6
      rw [bS _ _ _ e8, cT _ _ _ q10]; rfl
    have e7 : F7 n ((m1 + 1 : Nat) : Int) evts deeds = some (board0, 1, [], []) := by
      unfold F7
      rw [bS _ _ _ (b16 n _ _ _), decide_eq_true h1, cF _ _ _ nT, bS _ _ _ (b16 n _ _ _), decide_eq_false h2, cT _ _ _ nF]; rfl
    unfold F3
    rw [bS _ _ _ e6, bS _ _ _ e7, bS _ _ _ e8, bS _ _ _ dc, bS _ _ _ (docBad n evts h2), cF _ _ _ (show ((0 : Int) != 0) = false from rfl), cT _ _ _ q10]
    unfold F3_j2
    simp only
    rw [cT _ _ _ (Sh.beq_self _ _), bS _ _ _ ev0, cT _ _ _ rfl, bS _ _ _ er0, cT _ _ _ rfl, cT _ _ _ (eT rfl), cT _ _ _ (eT rfl)]
    exact bS _ _ _ z0
  obtain ⟨m2, rfl⟩ : ∃ P : Nat, evts = ((P + 1 : Nat) : Int) := ⟨evts.toNat - 1, by omega⟩
  obtain ⟨v0, hv, hv0⟩ := newH n m2 (by omega) (by omega)
  have dv := docNew n (by omega) m2 (by omega) (by omega) v0 hv0
  have e8 : F8 n ((m1 + 1 : Nat) : Int) ((m2 + 1 : Nat) : Int) = some (0, 1, 0, 1, 0, 0, 1, 0, 1, 0, board0, 0, c0, v0) := by
    unfold F8
    rw [bS _ _ _ hc, cF _ _ _ (show ((0 : Int) != 0) = false from rfl), bS _ _ _ hv, cF _ _ _ (show ((0 : Int) != 0) = false from rfl)]; rfl
  have fin : ∀ (a : Int) (x1 x2 x3 x4 x5 x6 x7 x8 x9 x10 : Int) (b' : Slots) (c' e' : Cells) (got' : List Evt3) (told' : List Int), F6 n ((m1 + 1 : Nat) : Int) ((m2 + 1 : Nat) : Int) deeds = some (x1, x2, x3, x4, x5, x6, x7, x8, x9, x10, b', a, c', e', got', told') → F7 n ((m1 + 1 : Nat) : Int) ((m2 + 1 : Nat) : Int) deeds = some (b', a, got', told') → got'.length ≤ 200 → told'.length ≤ 200 → F3 n ((m1 + 1 : Nat) : Int) ((m2 + 1 : Nat) : Int) deeds = some true := by
    intro a x1 x2 x3 x4 x5 x6 x7 x8 x9 x10 b' c' e' got' told' e6 e7 l1 l2
    unfold F3
    rw [bS _ _ _ e6, bS _ _ _ e7, bS _ _ _ e8, bS _ _ _ dc, bS _ _ _ dv, cF _ _ _ (show ((0 : Int) != 0) = false from rfl), cF _ _ _ (show ((0 : Int) != 0) = false from rfl)]
    unfold F3_j2
    simp only
    rw [cT _ _ _ (Sh.beq_self _ _), bS _ _ _ (eqEv n got' l1 hn), cT _ _ _ rfl, bS _ _ _ (eqEr n told' l2 hn), cT _ _ _ rfl, cT _ _ _ (eT rfl), cT _ _ _ (eT rfl)]
    exact bS _ _ _ (sameM n (by have := hc0.1; omega) (by have := hv0.1; omega) (by have := hc0.1; have := hv0.1; omega))
  by_cases hl : deeds.length ≤ 200
  case neg =>
    refine fin 2 0 0 0 0 0 0 0 0 0 0 board0 [] [] [] [] ?_ ?_ (by simp) (by simp)
    · unfold F6
      rw [bS _ _ _ e8, cF _ _ _ (show ((0 : Int) != 0) = false from rfl), cT _ _ _ (decide_eq_true (by omega))]; rfl
    · unfold F7
      rw [bS _ _ _ (b16 n _ _ _), decide_eq_true h1, cF _ _ _ nT, bS _ _ _ (b16 n _ _ _), decide_eq_true h2, cF _ _ _ nT, cT _ _ _ (decide_eq_true (by omega))]; rfl
  have mk0 : ∀ P : Nat, Rp.markP P 0 = (0, 1) := fun P => by
    have b0 : Rp.bitK P 0 = 1 := by unfold Rp.bitK; rw [Nat.zero_div]; rfl
    unfold Rp.markP; rw [b0, Nat.zero_mod]; rfl
  have I0 : Inv m1 m2 c0 v0 board0 [] [] [] [] [] := ⟨hc0, hv0, board0_ok.1, board0_ok.2, rfl, fun x hx => (by cases hx), rfl, fun i hi => (by simp at hi), rfl, rfl, (by simp), (by simp), fun w hw => (by cases hw), fun w hw => (by cases hw)⟩
  obtain ⟨c', e', b', all1', all2', wait', out', got', told', t1, t2, l1, l2⟩ := playHp n hn (by omega) (by omega) (by omega) (by omega) deeds hl deeds.length 0 c0 v0 board0 [] [] [] [] [] [] n n I0 (by simp) (by simp) (by omega) (by omega) (by omega)
  simp only [List.length_nil, mk0, Nat.zero_mod, Int.natCast_zero] at t1 t2
  have e6 : F6 n ((m1 + 1 : Nat) : Int) ((m2 + 1 : Nat) : Int) deeds = loopF (F6_l2 n deeds) n (0, 0, 1, 0, 1, 0, 0, 1, 0, 1, 0, board0, c0, v0, [], []) := by
    unfold F6
    rw [bS _ _ _ e8, cF _ _ _ (show ((0 : Int) != 0) = false from rfl), cF _ _ _ (decide_eq_false (by omega))]
  have e7 : F7 n ((m1 + 1 : Nat) : Int) ((m2 + 1 : Nat) : Int) deeds = loopF (F7_l41 n (((m1 + 1 : Nat) : Int)) (((m2 + 1 : Nat) : Int)) deeds) n (0, 0, 0, board0, [], [], [], []) := by
    unfold F7
    rw [bS _ _ _ (b16 n _ _ _), decide_eq_true h1, cF _ _ _ nT, bS _ _ _ (b16 n _ _ _), decide_eq_true h2, cF _ _ _ nT, cF _ _ _ (decide_eq_false (by omega))]
    rfl
  exact fin 0 _ _ _ _ _ _ _ _ _ _ b' c' e' got' told' (e6.trans t1) (e7.trans t2) l1 l2
theorem hostPlays_says (a0 : Sh.T (.int .i64)) (g0 : Sh.good (.int .i64) a0) (a1 : Sh.T (.int .i64)) (g1 : Sh.good (.int .i64) a1) (a2 : Sh.T (.sl (.st (.pair (.int .i64) (.pair (.st (.pair (.int .i64) (.pair (.int .i64) (.pair (.int .i64) (.int .i64))))) (.pair (.int .i64) (.pair (.int .i64) (.int .i64)))))))) (g2 : Sh.good (.sl (.st (.pair (.int .i64) (.pair (.st (.pair (.int .i64) (.pair (.int .i64) (.pair (.int .i64) (.int .i64))))) (.pair (.int .i64) (.pair (.int .i64) (.int .i64))))))) a2) :
    ∃ n, F3 n a0 a1 a2 = some true := ⟨5000, plays2 5000 (by omega) a0 a1 a2⟩
end Go.Proofs.Ytdgdkbpmmemphaa
