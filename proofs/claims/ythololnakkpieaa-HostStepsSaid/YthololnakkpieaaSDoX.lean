/- The law SlotsDo, in plain Lean (the law). -/
import Derived.Test.YthololnakkpieaaSDo3
namespace Go.Proofs.Ythololnakkpieaa
open Go Go.RowKit
open Classical
set_option linter.unusedVariables false

theorem c22 (n : Nat) (b : Slots) (K S E A : Int) (s : Slot) (code : Int) (slot : Nat) (hs : slot < 9) (h : F78 n b K S E A = some (s.1, s.2.1, s.2.2.1, s.2.2.2, code, (slot : Int))) : F51 n b K S E A = some (if code = 1 ∧ 0 < slot then b.set slot s else b, code, (slot : Int)) := by
  unfold F51
  rw [h]
  simp only [Option.bind_some, Int.toNat_natCast]
  by_cases q : code = 1
  · rw [show (code == 1) = true by simpa using q]
    by_cases q2 : 0 < slot
    · rw [decide_eq_true (show (slot : Int) > 0 by omega), inb_true (show (0 : Int) ≤ slot by omega) (show (slot : Int) < (9 : Nat) by omega), if_pos ⟨q, q2⟩]; rfl
    · rw [decide_eq_false (show ¬ (slot : Int) > 0 by omega), if_neg (fun h => q2 h.2)]; rfl
  · rw [show (code == 1) = false by simpa using q, if_neg (fun h => q h.1)]; rfl
def lenB (b : Slots) : Prop := b.length = 9 ∧ ∀ k, k < 9 → (sl b k).2.2.1.length = 32 ∧ (sl b k).2.2.2.length = 32
def len1 (s : Slot) : Prop := s.2.2.1.length = 32 ∧ s.2.2.2.length = 32
def goodT (b : Slots) (c : Nat) (t : Slot) : Prop := slotG t ∧ ∀ k, 1 ≤ k → k < 9 → k ≠ c → t.2.1 ≠ 0 → t.2.1 ≠ (sl b k).2.1
theorem lens_eq {l m : List Int} (hl : l.length = 32) (hm : m.length = 32) (h : ∀ k, k < 32 → l.getD k 0 = m.getD k 0) : l = m := by
  refine List.ext_getElem (by omega) fun k h1 h2 => ?_
  have := h k (by omega)
  rw [List.getD_eq_getElem?_getD, List.getD_eq_getElem?_getD, List.getElem?_eq_getElem h1, List.getElem?_eq_getElem h2] at this
  exact this
theorem eqS_eq {s t : Slot} (hs : len1 s) (ht : len1 t) (h : eqS t s = true) : t = s := by
  obtain ⟨h1, h2, h3, h4⟩ := (eqS_iff t s).1 h
  obtain ⟨a, b, c, d⟩ := s
  obtain ⟨a', b', c', d'⟩ := t
  simp only at h1 h2
  have e3 := lens_eq ht.1 hs.1 h3
  have e4 := lens_eq ht.2 hs.2 h4
  simp only at e3 e4
  rw [h1, h2, e3, e4]
theorem set_len {b : Slots} (h : lenB b) {c : Nat} {t : Slot} (hc : c < 9) (ht : len1 t) : lenB (b.set c t) := by
  refine ⟨by simpa using h.1, fun k hk => ?_⟩
  rw [sl_set b c k t (by rw [h.1]; exact hc)]
  by_cases q : c = k
  · rw [if_pos q]; exact ht
  · rw [if_neg q]; exact h.2 k hk
theorem set_good {b : Slots} (hl : b.length = 9) {c : Nat} {t : Slot} (h0 : 0 < c) (hc : c < 9) (hb : boardG b) (ht : goodT b c t) : boardG (b.set c t) := by
  refine ⟨by rw [sl_set b c 0 t (by omega), if_neg (by omega)]; exact hb.1, fun i i1 i9 => ?_⟩
  have hi := hb.2 i i1 i9
  constructor
  · rw [sl_set b c i t (by omega)]
    by_cases q : c = i
    · rw [if_pos q]; exact ht.1
    · rw [if_neg q]; exact hi.1
  · intro k k1 ki
    rw [sl_set b c i t (by omega), sl_set b c k t (by omega)]
    by_cases q : c = i
    · rw [if_pos q, if_neg (by omega)]
      exact ht.2 k k1 (by omega) (by omega)
    · rw [if_neg q]
      by_cases q2 : c = k
      · rw [if_pos q2]
        intro hne he
        exact ht.2 i i1 i9 (fun h => q h.symm) (by omega) he.symm
      · rw [if_neg q2]
        exact hi.2 k k1 ki
theorem apart_all {b : Slots} (hb : boardG b) {c : Nat} (h0 : 0 < c) (hc : c < 9) : ∀ k, 1 ≤ k → k < 9 → k ≠ c → (sl b c).2.1 ≠ 0 → (sl b c).2.1 ≠ (sl b k).2.1 := by
  intro k k1 k9 kc hne he
  rcases Nat.lt_or_gt_of_ne kc with h | h
  · exact (hb.2 c h0 hc).2 k k1 h hne he
  · exact (hb.2 k k1 k9).2 c h0 h (by omega) he.symm
/-- an endpoint of a slot, turned -/
theorem slot_set {s : Slot} (hs : slotG s) {E : Nat} (e1 : 1 ≤ E) (e2 : E < 32) (he : en s E ≠ 0) {v A : Int} (hv : 1 ≤ v ∧ v ≤ 3) (hA : 0 ≤ A ∧ A ≤ 65535) {X M : List Int} (hX : ∀ k, k < 32 → X.getD k 0 = if k = E then v else en s k) (hM : ∀ k, k < 32 → M.getD k 0 = if k = E then A else mk' s k) : slotG (s.1, s.2.1, X, M) := by
  rcases hs with ⟨_, _, r2, _⟩ | ⟨h1, h2, h3, h4, h5, h6⟩
  · exact absurd (r2 E e2) he
  have eX : ∀ k, k < 32 → en (s.1, s.2.1, X, M) k = if k = E then v else en s k := hX
  have eM : ∀ k, k < 32 → mk' (s.1, s.2.1, X, M) k = if k = E then A else mk' s k := hM
  refine .inr ⟨h1, h2, ?_, ?_, fun k hk => ?_, ?_⟩
  · rw [eX 0 (by omega), if_neg (by omega)]; exact h3
  · rw [eX 1 (by omega)]
    split
    · omega
    · exact h4
  · unfold endOk
    rw [eX k hk, eM k hk]
    by_cases q : k = E
    · rw [if_pos q, if_pos q]; exact ⟨by omega, hA, fun h => by omega⟩
    · rw [if_neg q, if_neg q]; exact h5 k hk
  · rw [← h6]
    constructor
    · rintro ⟨k, k2, k32, hk⟩
      rw [eX k k32] at hk
      by_cases q : k = E
      · exact ⟨E, by omega, e2, he⟩
      · rw [if_neg q] at hk; exact ⟨k, k2, k32, hk⟩
    · rintro ⟨k, k2, k32, hk⟩
      refine ⟨k, k2, k32, ?_⟩
      rw [eX k k32]
      split
      · omega
      · exact hk
/-- a slot that gets its address -/
theorem slot_addr {s : Slot} (hs : slotG s) (h1 : s.1 = 1) {L : Int} (hL : 1 ≤ L ∧ L ≤ 127) (hl : len1 s) : slotG (2, L, s.2.2.1.set 1 1, s.2.2.2) := by
  rcases hs with ⟨_, _, r2, r3⟩ | ⟨h, _⟩
  · have eX : ∀ k, k < 32 → en (2, L, s.2.2.1.set 1 1, s.2.2.2) k = if 1 = k then 1 else 0 := fun k hk => by
      show (s.2.2.1.set 1 1).getD k 0 = _
      rw [gset _ 1 k 1 (by rw [hl.1]; omega)]
      split
      · rfl
      · exact r2 k hk
    have eM : ∀ k, k < 32 → mk' (2, L, s.2.2.1.set 1 1, s.2.2.2) k = 0 := fun k hk => r3 k hk
    refine .inr ⟨⟨show (2 : Int) ≤ 2 by decide, show (2 : Int) ≤ 3 by decide⟩, hL, by rw [eX 0 (by omega), if_neg (by omega)], by rw [eX 1 (by omega), if_pos rfl]; decide, fun k hk => ?_, ?_⟩
    · unfold endOk
      rw [eX k hk, eM k hk]
      split
      · exact ⟨by decide, by decide, fun h => rfl⟩
      · exact ⟨by decide, by decide, fun h => rfl⟩
    · constructor
      · rintro ⟨k, k2, k32, hk⟩
        rw [eX k k32, if_neg (by omega)] at hk
        exact absurd rfl hk
      · intro h
        exact absurd (show (2 : Int) = 3 from h) (by decide)
  · omega
/-- a slot that is configured -/
theorem slot_conf {s : Slot} (hs : slotG s) (h1 : ¬ s.1 ≤ 1) {set st : Int} {E M : List Int} (hst : st = if ∃ k, 2 ≤ k ∧ k < 32 ∧ bitD set k = true then 3 else 2) (fE : ∀ k, k < 32 → E.getD k 0 = if k < 2 then (if k = 1 then en s 1 else 0) else endC s set k) (fM : ∀ k, k < 32 → M.getD k 0 = if k < 2 then (if k = 1 then mk' s 1 else 0) else markC s set k) : slotG (st, s.2.1, E, M) := by
  rcases hs with ⟨h, _⟩ | ⟨_, h2, h3, h4, h5, h6⟩
  · omega
  have eX : ∀ k, k < 32 → en (st, s.2.1, E, M) k = if k < 2 then (if k = 1 then en s 1 else 0) else endC s set k := fE
  have eM : ∀ k, k < 32 → mk' (st, s.2.1, E, M) k = if k < 2 then (if k = 1 then mk' s 1 else 0) else markC s set k := fM
  have bit1 : ∀ k, k < 32 → bitD set k = true → 1 ≤ endC s set k ∧ endC s set k ≤ 3 := fun k hk hb => by
    have := (h5 k hk).1
    unfold endC
    rw [hb, if_pos rfl]
    split <;> omega
  have bit0 : ∀ k, k < 32 → bitD set k = false → endC s set k = 0 ∧ markC s set k = 0 := fun k hk hb => by
    unfold endC markC
    rw [hb]; simp
  refine .inr ⟨?_, h2, by rw [eX 0 (by omega), if_pos (by omega), if_neg (by omega)], by rw [eX 1 (by omega), if_pos (by omega), if_pos rfl]; exact h4, fun k hk => ?_, ?_⟩
  · show 2 ≤ st ∧ st ≤ 3
    rw [hst]; split <;> omega
  · unfold endOk
    rw [eX k hk, eM k hk]
    by_cases q : k < 2
    · rw [if_pos q, if_pos q]
      by_cases q1 : k = 1
      · rw [if_pos q1, if_pos q1]; exact h5 1 (by omega)
      · rw [if_neg q1, if_neg q1]; exact ⟨by decide, by decide, fun _ => rfl⟩
    · rw [if_neg q, if_neg q]
      cases hb : bitD set k
      · obtain ⟨a, b⟩ := bit0 k hk hb
        rw [a, b]; exact ⟨by decide, by decide, fun _ => rfl⟩
      · have := bit1 k hk hb
        have hm : markC s set k = mk' s k := by unfold markC; rw [hb]; rfl
        rw [hm]
        exact ⟨by omega, (h5 k hk).2.1, fun h => by omega⟩
  · show _ ↔ st = 3
    constructor
    · rintro ⟨k, k2, k32, hk⟩
      rw [eX k k32, if_neg (by omega)] at hk
      rw [hst, if_pos]
      cases hb : bitD set k
      · exact absurd (bit0 k k32 hb).1 hk
      · exact ⟨k, k2, k32, hb⟩
    · intro h
      rw [hst] at h
      split at h
      · rename_i hx
        obtain ⟨k, k2, k32, hb⟩ := hx
        refine ⟨k, k2, k32, ?_⟩
        rw [eX k k32, if_neg (by omega)]
        have := bit1 k k32 hb
        omega
      · omega
theorem pig : ∀ (n : Nat) (f : Nat → Int), (∀ a : Nat, 1 ≤ a → a ≤ n + 1 → ∃ k, k < n ∧ f k = (a : Int)) → False
  | 0, f, h => by
    obtain ⟨k, hk, _⟩ := h 1 (by omega) (by omega)
    omega
  | n + 1, f, h => by
    obtain ⟨k0, hk0, hf0⟩ := h (n + 2) (by omega) (by omega)
    refine pig n (fun j => if j = k0 then f n else f j) fun a a1 a2 => ?_
    obtain ⟨k, hk, hf⟩ := h a a1 (by omega)
    have hne : k ≠ k0 := fun he => by subst he; omega
    by_cases q : k < n
    · exact ⟨k, q, by show (if k = k0 then f n else f k) = _; rw [if_neg hne]; exact hf⟩
    · obtain rfl : k = n := by omega
      exact ⟨k0, by omega, by show (if k0 = k0 then f k else f k0) = _; rw [if_pos rfl]; exact hf⟩
def Same (b : Slots) (x y : Option (Slots × Int × Int)) : Prop := ∃ b' c m, x = some (b', c, m) ∧ y = some (b', c, m) ∧ lenB b' ∧ (boardG b → boardG b') ∧ (0 ≤ c ∧ c ≤ 255) ∧ (0 ≤ m ∧ m ≤ 8)
theorem same_b (n : Nat) (b : Slots) (hL : lenB b) (K S E A : Int) (s : Slot) (code : Int) (slot : Nat) (hs : slot < 9) (hc2 : 0 ≤ code ∧ code ≤ 255) (hc : code = 1 → slot = 0) (x : Option (Slots × Int × Int)) (hx : x = some (b, code, (slot : Int))) (h : F78 n b K S E A = some (s.1, s.2.1, s.2.2.1, s.2.2.2, code, (slot : Int))) : Same b x (F51 n b K S E A) := by
  refine ⟨b, code, (slot : Int), hx, ?_, hL, fun h => h, hc2, by omega⟩
  rw [c22 n b K S E A s code slot hs h, if_neg (fun h => by have := hc h.1; omega)]
theorem same_s (n : Nat) (b : Slots) (hL : lenB b) (K S E A : Int) (s t : Slot) (slot : Nat) (hs : slot < 9) (h0 : 0 < slot) (ls : len1 s) (lt : len1 t) (hg : boardG b → goodT b slot s) (he : eqS t s = true) (x : Option (Slots × Int × Int)) (hx : x = some (b.set slot t, 1, (slot : Int))) (h : F78 n b K S E A = some (s.1, s.2.1, s.2.2.1, s.2.2.2, 1, (slot : Int))) : Same b x (F51 n b K S E A) := by
  have e := eqS_eq ls lt he
  refine ⟨b.set slot s, 1, (slot : Int), by rw [hx, e], ?_, set_len hL hs ls, fun hb => set_good hL.1 h0 hs hb (hg hb), by omega, by omega⟩
  rw [c22 n b K S E A s 1 slot hs h, if_pos ⟨rfl, h0⟩]
def no4 : Slot := (0, 0, List.replicate 32 (0 : Int), List.replicate 32 (0 : Int))
/-- an endpoint's command -/
theorem endD (n : Nat) (hn : 300 < n) (b : Slots) (hL : lenB b) (hB : boardG b) (hl : b.length = 9) (c : Nat) (hc0 : 0 < c) (hc : c < 9) (K E A : Int) (hK : K = 6 ∨ K = 7 ∨ K = 8 ∨ K = 9) (h1 : (sl b c).1 ≠ 0) (l1 : (sl b c).2.2.1.length = 32) (he : ∀ k, k < 32 → 0 ≤ en (sl b c) k ∧ en (sl b c) k ≤ 3)
    (h65 : F78 n b K (c : Int) E A = (F98 n (sl b c).1 (sl b c).2.1 (sl b c).2.2.1 (sl b c).2.2.2 K (c : Int) E A).bind fun y => some (y.1, y.2.1, y.2.2.1, y.2.2.2.1, y.2.2.2.2, (c : Int))) : Same b (F49_j50 n b K (c : Int) E A false) (F51 n b K (c : Int) E A) := by
  unfold F49_j50
  simp only [cond_false, Int.toNat_natCast]
  rw [inb_true (show (0 : Int) ≤ c by omega) (show (c : Int) < (9 : Nat) by omega), show (((b.getD c (0, (0, ((List.replicate 32 (0 : Int)), (List.replicate 32 (0 : Int)))))).1) == 0) = false from (show ((sl b c).1 == 0) = false by simpa using h1), show (K == 3) = false by rw [beq_eq_false_iff_ne]; omega, show (K == 4) = false by rw [beq_eq_false_iff_ne]; omega, show (K == 5) = false by rw [beq_eq_false_iff_ne]; omega]
  simp only [cond_false, cond_true, j71]
  unfold F98 at h65
  rw [b16] at h65
  simp only [Option.bind_some] at h65
  by_cases e1 : E < 1
  · rw [decide_eq_false (show ¬ (1 ≤ E ∧ E ≤ 31) by omega)] at h65
    rw [decide_eq_true e1]
    exact same_b n b hL K c E A (sl b c) 5 c hc (by omega) (fun h => by omega) _ rfl h65
  by_cases e2 : E > 31
  · rw [decide_eq_false (show ¬ (1 ≤ E ∧ E ≤ 31) by omega)] at h65
    rw [decide_eq_false e1, decide_eq_true e2]
    exact same_b n b hL K c E A (sl b c) 5 c hc (by omega) (fun h => by omega) _ rfl h65
  obtain ⟨E, rfl⟩ : ∃ m : Nat, E = (m : Int) := ⟨E.toNat, by omega⟩
  rw [decide_eq_true (show (1 ≤ (E : Int) ∧ (E : Int) ≤ 31) by omega), inb_true (show (0 : Int) ≤ E by omega) (show (E : Int) < (32 : Nat) by omega)] at h65
  rw [decide_eq_false e1, decide_eq_false e2, inb_true (show (0 : Int) ≤ E by omega) (show (E : Int) < (32 : Nat) by omega)]
  have hh := he E (by omega)
  simp only [Bool.not_true, cond_false, cond_true, Int.toNat_natCast, F98_j14, F98_j15, F98_j19, F98_j20, F98_j13, F98_j18] at h65
  simp only [cond_true, Int.toNat_natCast, F49_j89, F49_j90, F49_j91, F49_j92, j71]
  have g0 : (sl b c).2.2.1.getD E 0 = en (sl b c) E := rfl
  have g0' : (b.getD c (0, (0, ((List.replicate 32 (0 : Int)), (List.replicate 32 (0 : Int)))))).2.2.1.getD E 0 = en (sl b c) E := rfl
  have idE : ∀ v, en (sl b c) E = v → ∀ k, k < 32 → en (sl b c) k = ((sl b c).2.2.1.set E v).getD k 0 := fun v hv k hk => by
    rw [gset _ E k v (by omega)]
    by_cases q : E = k
    · subst q; rw [if_pos rfl, hv]
    · rw [if_neg q]; rfl
  rw [g0] at h65
  rw [g0']
  by_cases v0 : en (sl b c) E = 0
  · rw [v0] at h65 ⊢
    exact same_b n b hL K c E A (sl b c) 12 c hc (by omega) (fun h => by omega) _ rfl h65
  rw [show (en (sl b c) E == 0) = false by simpa using v0] at h65 ⊢
  simp only [cond_false] at h65 ⊢
  have hv : en (sl b c) E = 1 ∨ en (sl b c) E = 2 ∨ en (sl b c) E = 3 := by omega
  rw [b16] at h65
  have mkR : ∀ k, k < 32 → 0 ≤ mk' (sl b c) k ∧ mk' (sl b c) k ≤ 65535 := fun k hk => by
    rcases (hB.2 c hc0 hc).1 with ⟨_, _, _, r3⟩ | ⟨_, _, _, _, r, _⟩
    · rw [r3 k hk]; decide
    · exact (r k hk).2.1
  have setE : ∀ v k, k < 32 → ((sl b c).2.2.1.set E v).getD k 0 = if k = E then v else en (sl b c) k := fun v k hk => by
    rw [gset _ E k v (by omega)]
    by_cases q : E = k
    · rw [if_pos q, if_pos q.symm]
    · rw [if_neg q, if_neg (fun h => q h.symm)]; rfl
  have setM : ∀ v k, k < 32 → ((sl b c).2.2.2.set E v).getD k 0 = if k = E then v else mk' (sl b c) k := fun v k hk => by
    rw [gset _ E k v (by rw [(hL.2 c hc).2]; omega)]
    by_cases q : E = k
    · rw [if_pos q, if_pos q.symm]
    · rw [if_neg q, if_neg (fun h => q h.symm)]; rfl
  have bad : ∀ x, x = some (b, 19, (c : Int)) → F78 n b K (c : Int) E A = some ((sl b c).1, (sl b c).2.1, (sl b c).2.2.1, (sl b c).2.2.2, 19, (c : Int)) → Same b x (F51 n b K (c : Int) E A) := fun x hx h => same_b n b hL K c E A (sl b c) 19 c hc (by omega) (fun h => by omega) x hx h
  have put : ∀ v x, (1 ≤ v ∧ v ≤ 3) → x = some (b.set c ((sl b c).1, (sl b c).2.1, (sl b c).2.2.1.set E v, (sl b c).2.2.2), 1, (c : Int)) → F78 n b K (c : Int) E A = some ((sl b c).1, (sl b c).2.1, (sl b c).2.2.1.set E v, (sl b c).2.2.2, 1, (c : Int)) → Same b x (F51 n b K (c : Int) E A) := fun v x hv1 hx h => same_s n b hL K c E A ((sl b c).1, (sl b c).2.1, (sl b c).2.2.1.set E v, (sl b c).2.2.2) _ c hc hc0 (by exact ⟨by simpa using l1, (hL.2 c hc).2⟩) (by exact ⟨by simpa using l1, (hL.2 c hc).2⟩) (fun hb => ⟨slot_set (hB.2 c hc0 hc).1 (by omega) (by omega) v0 hv1 (mkR E (by omega)) (setE v) (fun k hk => by split <;> first | (rename_i q; subst q; rfl) | rfl), apart_all hb hc0 hc⟩) (eqS_refl _) x hx h
  rcases hK with rfl | rfl | rfl | rfl
  · rcases hv with hv | hv | hv <;> rw [hv] at h65 ⊢
    · exact bad _ (by rfl) h65
    · exact put 3 _ (by decide) (by rfl) h65
    · exact bad _ (by rfl) h65
  · rcases hv with hv | hv | hv <;> rw [hv] at h65 ⊢
    · exact put 3 _ (by decide) (by rfl) h65
    · exact bad _ (by rfl) h65
    · exact bad _ (by rfl) h65
  · have a0 : A < 0 ∨ (¬ A < 0 ∧ A > 65535) ∨ (¬ A < 0 ∧ ¬ A > 65535) := by omega
    rcases a0 with a0 | ⟨a0, a1⟩ | ⟨a0, a1⟩
    · rw [decide_eq_false (show ¬ (0 ≤ A ∧ A ≤ 65535) by omega)] at h65
      rw [decide_eq_true a0]
      rcases hv with hv | hv | hv <;> rw [hv] at h65 ⊢ <;> exact same_b n b hL 8 c E A (sl b c) 17 c hc (by omega) (fun h => by omega) _ (by rfl) h65
    · rw [decide_eq_false (show ¬ (0 ≤ A ∧ A ≤ 65535) by omega)] at h65
      rw [decide_eq_false a0, decide_eq_true a1]
      rcases hv with hv | hv | hv <;> rw [hv] at h65 ⊢ <;> exact same_b n b hL 8 c E A (sl b c) 17 c hc (by omega) (fun h => by omega) _ (by rfl) h65
    · rw [decide_eq_true (show (0 ≤ A ∧ A ≤ 65535) by omega)] at h65
      rw [decide_eq_false a0, decide_eq_false a1]
      rcases hv with hv | hv | hv <;> rw [hv] at h65 ⊢
      · exact bad _ (by rfl) h65
      · exact bad _ (by rfl) h65
      · refine same_s n b hL 8 c E A ((sl b c).1, (sl b c).2.1, (sl b c).2.2.1.set E 3, (sl b c).2.2.2.set E A) ((sl b c).1, (sl b c).2.1, (sl b c).2.2.1, (sl b c).2.2.2.set E A) c hc hc0 (by exact ⟨by simpa using l1, by simpa using (hL.2 c hc).2⟩) (by exact ⟨l1, by simpa using (hL.2 c hc).2⟩) (fun hb => ⟨slot_set (hB.2 c hc0 hc).1 (by omega) (by omega) v0 (by decide) (show 0 ≤ A ∧ A ≤ 65535 by omega) (setE 3) (setM A), apart_all hb hc0 hc⟩) ?_ _ (by rfl) h65
        rw [eqS_iff]
        exact ⟨rfl, rfl, idE 3 hv, fun _ _ => rfl⟩
  · rcases hv with hv | hv | hv <;> rw [hv] at h65 ⊢
    · exact put 1 _ (by decide) (by rfl) h65
    · exact bad _ (by rfl) h65
    · exact put 1 _ (by decide) (by rfl) h65
theorem lens (b : Slots) (g0 : Sh.good (.st (.arr 9 (.st (.pair (.int .i64) (.pair (.int .i64) (.pair (.arr 32 (.int .i64)) (.arr 32 (.int .i64)))))))) b) (k : Nat) (hk : k < 9) : (sl b k).2.2.1.length = 32 ∧ (sl b k).2.2.2.length = 32 := by
  have hb : b.length = 9 := g0.1
  have hm : sl b k ∈ b := by
    unfold sl
    rw [List.getD_eq_getElem?_getD, List.getElem?_eq_getElem (by omega : k < b.length)]
    exact List.getElem_mem _
  have := g0.2 _ hm
  exact ⟨this.2.2.1.1, this.2.2.2.1⟩
theorem isZ (v : Int) (c : Int) (h : v ≠ c) : (v == c) = false := by simpa using h
theorem main (n : Nat) (hn : 300 < n) (b : Slots) (hL : lenB b) (K S E A : Int) : Same b (F49 n b K S E A) (F51 n b K S E A) := by
  have hl : b.length = 9 := hL.1
  have h65 := c65 n (by omega) b K S E A
  unfold F78_l2 at h65
  simp only [show (decide ((9 : Int) < 9)) = false from rfl, cond_false, b15 n (by omega) b hl, b16, Option.bind_some] at h65
  unfold F49
  rw [b66 n (by omega)]
  simp only [Option.bind_some]
  rcases (Classical.em (boardE b = 0)).symm with hE | hE
  · rw [show (boardE b != 0) = true by simpa using hE] at h65 ⊢
    exact same_b n b hL K S E A no4 0 0 (by omega) (by omega) (fun h => by omega) _ rfl h65
  have hG : boardG b := by
    by_cases q : boardG b
    · exact q
    · unfold boardE at hE; rw [if_neg q] at hE; omega
  obtain ⟨z0, hS⟩ := hG
  obtain ⟨z1, z2, z3, z4⟩ := (eqS_zero _).1 z0
  rw [show (boardE b != 0) = false by simpa using hE] at h65 ⊢
  simp only [cond_false] at h65 ⊢
  by_cases k1 : K = 1
  · rw [show (K == 1) = true by simpa using k1] at h65 ⊢
    exact same_b n b hL K S E A no4 1 0 (by omega) (by omega) (fun _ => rfl) _ rfl h65
  rw [isZ K 1 k1] at h65 ⊢
  simp only [cond_false] at h65 ⊢
  by_cases k2 : K = 2
  · rw [show (K == 2) = true by simpa using k2] at h65 ⊢
    obtain ⟨i, i1, i9, i0, iall⟩ := firstOff b
    have hlf : F96 n (onK b 9) = some (i : Int) := least n (onK b 9) i (by have := onK_len b 9; omega) (by have := onK_len b 9; omega) i1 (by omega) (by omega) (by
      rw [onK_mem]
      intro h
      exact h.2 (i0 h.1)) (fun a a1 a2 => by
      rw [onK_mem]
      exact ⟨by omega, iall a a1 a2⟩)
    rw [hlf] at h65
    simp only [cond_true, Option.bind_some] at h65 ⊢
    rw [enableD n (by omega) b i i1 i9 i0 iall]
    by_cases q : i < 9
    · rw [if_pos q]
      rw [decide_eq_true (show (i : Int) ≤ 8 by omega)] at h65
      refine same_s n b hL K S E A (1, 0, List.replicate 32 (0 : Int), List.replicate 32 (0 : Int)) (1, (sl b i).2) i q (by omega) ⟨rfl, rfl⟩ (hL.2 i q) (fun _ => ⟨.inl ⟨by decide, rfl, fun k hk => rep0 k, fun k hk => rep0 k⟩, fun _ _ _ _ h => absurd rfl h⟩) ?_ _ rfl h65
      rw [eqS_iff]
      rcases (hS i i1 q).1 with ⟨_, r1, r2, r3⟩ | ⟨r, _⟩
      · refine ⟨rfl, r1, fun k hk => ?_, fun k hk => ?_⟩
        · show en (sl b i) k = _
          rw [r2 k hk]; exact (rep0 k).symm
        · show mk' (sl b i) k = _
          rw [r3 k hk]; exact (rep0 k).symm
      · have := i0 q; omega
    · rw [if_neg q]
      rw [decide_eq_false (show ¬ (i : Int) ≤ 8 by omega)] at h65
      exact same_b n b hL K S E A no4 9 0 (by omega) (by omega) (fun h => by omega) _ rfl h65
  rw [isZ K 2 k2] at h65 ⊢
  simp only [cond_false] at h65 ⊢
  have jt : F49_j50 n b K S E A true = some (b, 5, 0) := rfl
  rcases (Classical.em (3 ≤ K ∧ K ≤ 9)).symm with kk | kk
  · rw [decide_eq_false kk] at h65
    have : F78 n b K S E A = some (no4.1, no4.2.1, no4.2.2.1, no4.2.2.2, 5, ((0 : Nat) : Int)) := h65
    refine same_b n b hL K S E A no4 5 0 (by omega) (by omega) (fun h => by omega) _ ?_ this
    by_cases q : K < 1
    · rw [decide_eq_true q]; exact jt
    · rw [decide_eq_false q, decide_eq_true (show K > 9 by omega)]; exact jt
  rw [decide_eq_true kk] at h65
  rw [decide_eq_false (show ¬ K < 1 by omega), decide_eq_false (show ¬ K > 9 by omega)]
  simp only [Bool.not_true, cond_false] at h65 ⊢
  rcases (Classical.em (1 ≤ S ∧ S ≤ 8)).symm with ks | ks
  · rw [decide_eq_false ks] at h65
    have : F78 n b K S E A = some (no4.1, no4.2.1, no4.2.2.1, no4.2.2.2, 5, ((0 : Nat) : Int)) := h65
    refine same_b n b hL K S E A no4 5 0 (by omega) (by omega) (fun h => by omega) _ ?_ this
    by_cases q : S < 1
    · rw [decide_eq_true q]; exact jt
    · rw [decide_eq_false q, decide_eq_true (show S > 8 by omega)]; exact jt
  rw [decide_eq_true ks] at h65
  rw [decide_eq_false (show ¬ S < 1 by omega), decide_eq_false (show ¬ S > 8 by omega)]
  obtain ⟨c, rfl⟩ : ∃ c : Nat, S = (c : Int) := ⟨S.toNat, by omega⟩
  have hc : c < 9 := by omega
  have hc0 : 0 < c := by omega
  rw [inb_true (show (0 : Int) ≤ c by omega) (show (c : Int) < (9 : Nat) by omega)] at h65
  simp only [Bool.not_true, cond_false, cond_true, Int.toNat_natCast] at h65 ⊢
  obtain ⟨l1, l2⟩ := hL.2 c hc
  have e0 : (b.getD c (0, (0, ((List.replicate 32 (0 : Int)), (List.replicate 32 (0 : Int)))))) = sl b c := rfl
  rw [e0] at h65
  by_cases s0 : (sl b c).1 = 0
  · rw [show ((sl b c).1 == 0) = true by simpa using s0] at h65
    refine same_b n b hL K c E A (sl b c) 11 c hc (by omega) (fun h => by omega) _ ?_ h65
    unfold F49_j50
    rw [inb_true (show (0 : Int) ≤ c by omega) (show (c : Int) < (9 : Nat) by omega)]
    simp only [cond_true, cond_false, Int.toNat_natCast]
    rw [e0, show ((sl b c).1 == 0) = true by simpa using s0, j71]; rfl
  have p50 : F49_j50 n b K (c : Int) E A false = (bif K == 3 then pick b 1 c (b.set c zeroS) else bif K == 4 then (bif (sl b c).1 != 1 then pick b 19 c b else loopF (F49_l79 n b (c : Int)) n (1, true)) else bif K == 5 then (bif decide (A < 0) then F49_j83 n b c A true else bif decide (A ≥ 4294967296) then F49_j83 n b c A true else F49_j83 n b c A (bitsI .and .i64 A 3 != 0)) else F49_j50 n b K (c : Int) E A false) := by
    rcases (Classical.em (K = 3 ∨ K = 4 ∨ K = 5)).symm with a3 | a3
    · rw [isZ K 3 (by omega), isZ K 4 (by omega), isZ K 5 (by omega)]; rfl
    conv => lhs; unfold F49_j50
    rw [inb_true (show (0 : Int) ≤ c by omega) (show (c : Int) < (9 : Nat) by omega)]
    simp only [cond_true, cond_false, Int.toNat_natCast]
    rw [e0, isZ _ 0 s0]
    rcases a3 with rfl | rfl | rfl
    · exact j71 n b c 1 _
    · simp only [j71]; rfl
    · rfl
  rw [isZ _ 0 s0] at h65
  simp only [cond_false] at h65
  have hsl := (hS c (by omega) hc).1
  by_cases k3 : K = 3
  · rw [show (K == 3) = true by simpa using k3] at h65 p50
    rw [p50]
    exact same_s n b hL K c E A zeroS zeroS c hc hc0 ⟨rfl, rfl⟩ ⟨rfl, rfl⟩ (fun _ => ⟨.inl ⟨by decide, rfl, fun k hk => rep0 k, fun k hk => rep0 k⟩, fun _ _ _ _ h => absurd rfl h⟩) (eqS_refl _) _ rfl h65
  rw [isZ K 3 k3] at h65 p50
  by_cases k4 : K = 4
  · rw [show (K == 4) = true by simpa using k4] at h65 p50
    rw [p50]
    simp only [cond_true, cond_false] at h65 ⊢
    by_cases s1 : (sl b c).1 = 1
    · rw [show ((sl b c).1 != 1) = false by simpa using s1] at h65 ⊢
      have hall : ∀ k, k < 9 → ((sl b k).2.1 ≤ 127 ∧ ((sl b k).1 = 0 → (sl b k).2.1 = 0)) := fun k hk => by
        by_cases q : k = 0
        · subst q; omega
        · rcases (hS k (by omega) hk).1 with ⟨_, r1, _⟩ | ⟨r, r2, _⟩ <;> omega
      obtain ⟨L, L1, Lm, Lno, Lall⟩ := freeAddr b (fun k hk => (hall k hk).1)
      have hlf : F96 n (adK b 9) = some (L : Int) := least n (adK b 9) L (by have := adK_len b 9; omega) (by have := adK_len b 9; omega) L1 (by omega) (by omega) (by
        rw [adK_mem]
        rintro ⟨k, a1, _, a2⟩
        exact Lno k a1 a2) (fun a a1 a2 => by
        rw [adK_mem]
        obtain ⟨k, b1, b2⟩ := Lall a a1 a2
        exact ⟨k, b1, fun h => by have := (hall k b1).2 h; omega, b2⟩)
      rw [hlf] at h65
      simp only [cond_false]
      rw [addressD n hn b hl c hc L L1 Lm Lno Lall]
      have L10 : L ≤ 10 := Classical.byContradiction fun hno => pig 9 (fun k => (sl b k).2.1) fun a a1 a2 => Lall a a1 (by omega)
      exact same_s n b hL K c E A (2, (L : Int), (sl b c).2.2.1.set 1 1, (sl b c).2.2.2) (2, (L : Int), (sl b c).2.2.1.set 1 1, (sl b c).2.2.2) c hc hc0 ⟨by simpa using l1, l2⟩ ⟨by simpa using l1, l2⟩ (fun _ => ⟨slot_addr hsl s1 (by omega) ⟨l1, l2⟩, fun k _ k9 _ _ he => Lno k k9 he.symm⟩) (eqS_refl _) _ rfl h65
    · rw [show ((sl b c).1 != 1) = true by simpa using s1] at h65 ⊢
      exact same_b n b hL K c E A (sl b c) 19 c hc (by omega) (fun h => by omega) _ rfl h65
  rw [isZ K 4 k4] at h65 p50
  have hen : ∀ k, k < 32 → 0 ≤ en (sl b c) k ∧ en (sl b c) k ≤ 3 := fun k hk => by
    rcases hsl with ⟨_, _, r2, _⟩ | ⟨_, _, _, _, r2, _⟩
    · have := r2 k hk; omega
    · exact (r2 k hk).1
  rcases (Classical.em (K = 5)).symm with k5 | k5
  · rw [isZ K 5 k5] at h65
    exact endD n hn b hL ⟨z0, hS⟩ hl c hc0 hc K E A (by omega) s0 l1 hen h65
  rw [show (K == 5) = true by simpa using k5] at h65 p50
  rw [p50]
  clear p50
  simp only [cond_true, cond_false] at h65 ⊢
  unfold F97 at h65
  rw [show (32 : Int) = ((32 : Nat) : Int) from rfl, two n (by omega) 32 (by omega), Option.bind_some, b16] at h65
  have e32 : IntKind.wrap .i64 (((2 ^ 32 : Nat) : Int) - 1) = 4294967295 := by decide
  rw [e32] at h65
  have bad : ∀ code : Int, (0 ≤ code ∧ code ≤ 255) → code ≠ 1 → F78 n b K c E A = some ((sl b c).1, (sl b c).2.1, (sl b c).2.2.1, (sl b c).2.2.2, code, (c : Int)) → Same b (some (b, code, (c : Int))) (F51 n b K c E A) := fun code hc3 hc1 h => same_b n b hL K c E A (sl b c) code c hc hc3 (fun h => absurd h hc1) _ rfl h
  have jt : F49_j83 n b (c : Int) A true = some (b, 17, (c : Int)) := j71 n b c 17 b
  by_cases a0 : A < 0
  · rw [decide_eq_true a0, jt]
    rw [decide_eq_false (show ¬ (0 ≤ A ∧ A ≤ 4294967295) by omega)] at h65
    exact bad 17 (by omega) (by omega) h65
  by_cases a1 : A ≥ 4294967296
  · rw [decide_eq_false a0, decide_eq_true a1]
    rw [decide_eq_false (show ¬ (0 ≤ A ∧ A ≤ 4294967295) by omega)] at h65
    exact bad 17 (by omega) (by omega) h65
  rw [decide_eq_false a0, decide_eq_false a1]
  rw [decide_eq_true (show 0 ≤ A ∧ A ≤ 4294967295 by omega)] at h65
  have em : bitsI .and .i64 A 3 = A % 4 := by
    obtain ⟨x, rfl⟩ : ∃ x : Nat, A = (x : Int) := ⟨A.toNat, by omega⟩
    have := bMask x 2 (by omega) (by omega)
    have e3 : ((2 ^ 2 - 1 : Nat) : Int) = 3 := rfl
    rw [e3] at this
    rw [this]; simp
  rw [em]
  rw [Option.bind_some, Int.tmod_eq_emod_of_nonneg (by omega)] at h65
  simp only [Bool.not_true, cond_false] at h65 ⊢
  rcases (Classical.em (A % 4 = 0)).symm with a4 | a4
  · rw [show (A % 4 != 0) = true by simpa using a4] at h65 ⊢
    exact bad 17 (by omega) (by omega) h65
  rw [show (A % 4 != 0) = false by simpa using a4] at h65 ⊢
  unfold F49_j83
  simp only [cond_false, Int.toNat_natCast] at h65 ⊢
  rw [e0]
  by_cases s1 : (sl b c).1 = 1
  · rw [show ((sl b c).1 == 1) = true by simpa using s1] at h65 ⊢
    rw [cond_true, j71]
    exact bad 19 (by omega) (by omega) h65
  rw [isZ _ 1 s1] at h65 ⊢
  simp only [cond_false] at h65 ⊢
  obtain ⟨r, hr, E1, M1, rfl, fE, fM, lE1, lM1⟩ := confP n hn b hl c hc l1 l2 A (by omega) (by omega)
  obtain ⟨r2, hr2, st, E2, M2, rfl, hst, gE, gM, lE2, lM2⟩ := confR n hn (sl b c) A (by omega) (by omega) (fun k hk => (hen k hk).1)
  have hr2' : loopF (F97_l2 n (sl b c).2.1 (sl b c).2.2.1 (sl b c).2.2.2 A) n (2, 2, (List.replicate 32 (0 : Int)).set 1 ((sl b c).2.2.1.getD 1 0), (List.replicate 32 (0 : Int)).set 1 ((sl b c).2.2.2.getD 1 0)) = some (st, (sl b c).2.1, E2, M2, 1) := hr2
  rw [hr2'] at h65
  rw [hr]
  refine same_s n b hL K c E A (st, (sl b c).2.1, E2, M2) _ c hc hc0 ⟨lE2, lM2⟩ ⟨lE1, lM1⟩ (fun hb => ⟨slot_conf hsl (by rcases hsl with ⟨hh, _⟩ | ⟨hh, _⟩ <;> omega) hst gE gM, apart_all hb hc0 hc⟩) ?_ _ rfl h65
  rcases hsl with ⟨h, _⟩ | ⟨_, _, r0, r1, r2, _⟩
  · omega
  rw [eqS_iff]
  refine ⟨?_, rfl, fun k hk => ?_, fun k hk => ?_⟩
  · show (if A = 0 then (2 : Int) else 3) = st
    rw [hst]
    by_cases q : A = 0
    · rw [if_pos q, if_neg]
      rintro ⟨k, _, _, h⟩
      unfold bitD at h
      rw [q] at h
      simp at h
    · rw [if_neg q, if_pos]
      by_cases h : ∃ k, 2 ≤ k ∧ k < 32 ∧ bitD A k = true
      · exact h
      · refine absurd (noBits A (by omega) (by omega) a4 fun k h1 h2 => ?_) q
        cases hb : bitD A k
        · rfl
        · exact absurd ⟨k, h1, h2, hb⟩ h
  · show E1.getD k 0 = E2.getD k 0
    rw [fE k hk, gE k hk]
    by_cases q : k < 2
    · rw [if_pos q, if_pos q]
      by_cases q1 : k = 1
      · subst q1; rw [if_pos rfl]
      · obtain rfl : k = 0 := by omega
        rw [if_neg q1, r0]
    · rw [if_neg q, if_neg q]
  · show M1.getD k 0 = M2.getD k 0
    rw [fM k hk, gM k hk]
    by_cases q : k < 2
    · rw [if_pos q, if_pos q]
      by_cases q1 : k = 1
      · subst q1; rw [if_pos rfl]
      · obtain rfl : k = 0 := by omega
        rw [if_neg q1, (r2 0 hk).2.2 r0]
    · rw [if_neg q, if_neg q]
end Go.Proofs.Ythololnakkpieaa
