/- TopAgain answers true, whatever is handed in: out of the runs. -/
import Derived.Test.YtpmgggfjmkpleaaGreatDoorAg3
namespace Go.Proofs.YtpmgggfjmkpleaaGreatDoor.E
open Go Go.RowKit
set_option linter.unusedVariables false
set_option maxRecDepth 100000

/-! the text, in blocks of sixteen -/
def blk (L : List UInt8) (a : Nat) : List UInt8 := (L.drop (16 * a)).take 16
theorem blk_len (L : List UInt8) (n a : Nat) (h : L.length = 16 * n) (ha : a < n) : (blk L a).length = 16 := by
  unfold blk
  rw [List.length_take, List.length_drop]; omega
theorem blk_all (L : List UInt8) : ∀ n, 16 * n ≤ L.length → (List.range n).flatMap (blk L) = L.take (16 * n)
  | 0, _ => by simp
  | n + 1, h => by
    rw [List.range_succ, List.flatMap_append, blk_all L n (by omega)]
    simp only [List.flatMap_cons, List.flatMap_nil, List.append_nil]
    unfold blk
    rw [show 16 * (n + 1) = 16 * n + 16 by omega, List.take_add]
/-! the case of each dimension -/
def rawθ (s p q l : Nat) (d : Nat) : Nat := match d with
  | 0 => s
  | 1 => 3 * (p - 1) + (if q < p then q - 1 else q - 2)
  | 2 => p - 1
  | _ => l - 1
def theθ (s p q l : Nat) (d : Nat) : Nat := if rawθ s p q l d < dimN d then rawθ s p q l d else 0
theorem theθ_lt (s p q l d : Nat) : theθ s p q l d < dimN d := by
  unfold theθ
  split
  · assumption
  · exact dimN_pos d
theorem iv_ok {G : Gh} {d : Nat} {l : List Nat} {x : Int} {m : Nat} (hm : l[G.θ d]? = some m) (hx : x = (m : Int)) : CR G (iv d l) (.int .i64 x) := by
  refine .vec d _ _ ?_
  rw [List.getD_eq_getElem?_getD, List.getElem?_map, hm, hx]
  exact .int .i64 _
theorem ne_pair : ∀ p q : _root_.Fin 5, 1 ≤ p.val → 1 ≤ q.val → p ≠ q → 3 * (p.val - 1) + (if q.val < p.val then q.val - 1 else q.val - 2) < 12 ∧
    [1, 1, 1, 2, 2, 2, 3, 3, 3, 4, 4, 4][3 * (p.val - 1) + (if q.val < p.val then q.val - 1 else q.val - 2)]? = some p.val ∧ [2, 3, 4, 1, 3, 4, 1, 2, 4, 1, 2, 3][3 * (p.val - 1) + (if q.val < p.val then q.val - 1 else q.val - 2)]? = some q.val := by decide
theorem eq_pair : ∀ p : _root_.Fin 5, 1 ≤ p.val → [1, 2, 3, 4][p.val - 1]? = some p.val := by decide
theorem ser_at : ∀ s : _root_.Fin 8, [0, 1, 2, 3, 4, 5, 6, 7][s.val]? = some s.val := by decide
theorem lba_at : ∀ n : _root_.Fin 7, ∀ l : _root_.Fin 9, 1 ≤ l.val → l.val + n.val ≤ 8 → l.val - 1 < dimN (3 + n.val) ∧ ((List.range (8 - n.val)).map (· + 1))[l.val - 1]? = some l.val := by decide
theorem lbaV_eq : ∀ n : _root_.Fin 7, lbaV n.val = iv (3 + n.val) ((List.range (8 - n.val)).map (· + 1)) := fun n => by
  match n with
  | ⟨0, _⟩ => rfl
  | ⟨1, _⟩ => rfl
  | ⟨2, _⟩ => rfl
  | ⟨3, _⟩ => rfl
  | ⟨4, _⟩ => rfl
  | ⟨5, _⟩ => rfl
  | ⟨6, _⟩ => rfl
/-- what the runs say -/
structure Runs : Prop where
  meet : MeetAll
  ne0 : ∀ n, n < 9 → again (argNe n (.int .i64 0)) = true
  ne1 : ∀ n, n < 8 → again (argNe n (lbaV n)) = true
  eq0 : ∀ n, n < 9 → again (argEq n (.int .i64 0)) = true
  eq1 : ∀ n, n < 8 → again (argEq n (lbaV n)) = true
abbrev AgPost (w : World) : Ending → World → Prop := fun e w' => e = .returned (.bool true) ∧ Below w.heap.size w w'
noncomputable abbrev GA (s p q l : Nat) (L : List UInt8) : Gh := Gh.none (theθ s p q l) (theθ_lt s p q l) (blk L)
theorem args5 {G : Gh} {a b c d e : V} {u1 u2 u3 u4 u5 : Value} (h1 : CR G a u1) (h2 : CR G b u2) (h3 : CR G c u3) (h4 : CR G d u4) (h5 : CR G e u5) : LR G [a, b, c, d, e] [u1, u2, u3, u4, u5] :=
  ((((LR.nil.cons h5).cons h4).cons h3).cons h2).cons h1
theorem sp0 {G : Gh} {a b n : Int} (h1 : a ≤ n) (h2 : n ≤ b) : CR G (.sp 0 a b) (.int .i64 n) := .sp 0 a b _ ⟨n, rfl, h1, h2⟩
theorem data_ok {s p q l n : Nat} {data : ByteArray} (h : data.size = 16 * n) : CR (GA s p q l data.data.toList) (txV (List.range n)) (.string data) := by
  have hL : data.data.toList.length = 16 * n := by rw [← h]; rfl
  have := txV_ok (G := GA s p q l data.data.toList) (l := List.range n) fun a ha => blk_len _ n a hL (by simpa using ha)
  have e : (List.range n).flatMap (GA s p q l data.data.toList).env = data.data.toList := by
    rw [show (GA s p q l data.data.toList).env = blk data.data.toList from rfl, blk_all _ n (by omega), List.take_of_length_le (by omega)]
  rw [e] at this
  exact this
theorem θ_of {s p q l d k : Nat} (hk : rawθ s p q l d = k) (h : k < dimN d) : theθ s p q l d = k := by
  unfold theθ
  rw [hk, if_pos h]
theorem lba_ok {s p q l n : Nat} {L : List UInt8} (h1 : 1 ≤ l) (h2 : l + n ≤ 8) : CR (GA s p q l L) (lbaV n) (.int .i64 (l : Int)) := by
  by_cases hn : n < 7
  · have h := lba_at ⟨n, hn⟩ ⟨l, by omega⟩ h1 h2
    have e := lbaV_eq ⟨n, hn⟩
    simp only at h e
    rw [e]
    refine iv_ok (m := l) ?_ rfl
    have hθ : (GA s p q l L).θ (3 + n) = l - 1 := θ_of (by rw [show 3 + n = n + 3 by omega]; rfl) h.1
    rw [hθ]
    exact h.2
  · obtain rfl : n = 7 := by omega
    obtain rfl : l = 1 := by omega
    exact .int .i64 _
theorem again_in (hR : Runs) (s p q l n : Nat) (hs : s < 8) (hp : 1 ≤ p ∧ p ≤ 4) (hq : 1 ≤ q ∧ q ≤ 4) (hl : l ≤ 8) (hn : l + n ≤ 8) (data : ByteArray) (hd : data.size = 16 * n) (w : World) :
    Calls Tryz.prog 3 #[.int .i64 (s : Int), .int .i64 (p : Int), .int .i64 (q : Int), .int .i64 (l : Int), .string data] w (AgPost w) := by
  have hser : CR (GA s p q l data.data.toList) serV (.int .i64 (s : Int)) := by
    refine iv_ok (m := s) ?_ rfl
    have : (GA s p q l data.data.toList).θ 0 = s := θ_of rfl hs
    rw [this]
    exact ser_at ⟨s, hs⟩
  have hdat := data_ok (s := s) (p := p) (q := q) (l := l) hd
  by_cases hpq : p = q
  · subst hpq
    have hP : CR (GA s p p l data.data.toList) pEq (.int .i64 (p : Int)) := by
      refine iv_ok (m := p) ?_ rfl
      have : (GA s p p l data.data.toList).θ 2 = p - 1 := θ_of rfl (by show p - 1 < 4; omega)
      rw [this]
      exact eq_pair ⟨p, by omega⟩ hp.1
    by_cases hl0 : l = 0
    · subst hl0
      exact again_ok hR.meet (hR.eq0 n (by omega)) w [_, _, _, _, _] (args5 hser hP hP (.int .i64 _) hdat)
    · exact again_ok hR.meet (hR.eq1 n (by omega)) w [_, _, _, _, _] (args5 hser hP hP (lba_ok (by omega) hn) hdat)
  · have hpr := ne_pair ⟨p, by omega⟩ ⟨q, by omega⟩ hp.1 hq.1 (fun e => hpq (by simpa using e))
    simp only at hpr
    have hθ : (GA s p q l data.data.toList).θ 1 = 3 * (p - 1) + (if q < p then q - 1 else q - 2) := θ_of rfl hpr.1
    have hP : CR (GA s p q l data.data.toList) pNe (.int .i64 (p : Int)) := iv_ok (m := p) (by rw [hθ]; exact hpr.2.1) rfl
    have hQ : CR (GA s p q l data.data.toList) qNe (.int .i64 (q : Int)) := iv_ok (m := q) (by rw [hθ]; exact hpr.2.2) rfl
    by_cases hl0 : l = 0
    · subst hl0
      exact again_ok hR.meet (hR.ne0 n (by omega)) w [_, _, _, _, _] (args5 hser hP hQ (.int .i64 _) hdat)
    · exact again_ok hR.meet (hR.ne1 n (by omega)) w [_, _, _, _, _] (args5 hser hP hQ (lba_ok (by omega) hn) hdat)
theorem longs (ln : Nat) (h : ln < 9) : again [sSer, sPort, sPort, .int .i64 (ln : Int), .sp 1 (9 - (ln : Int)) 0] = true := by
  match ln, h with
  | 0, _ => exact long0
  | 1, _ => exact long1
  | 2, _ => exact long2
  | 3, _ => exact long3
  | 4, _ => exact long4
  | 5, _ => exact long5
  | 6, _ => exact long6
  | 7, _ => exact long7
  | 8, _ => exact long8
theorem again_calls (hR : Runs) (s p q l : Int) (bs : lo64 ≤ s ∧ s ≤ hi64) (bp : lo64 ≤ p ∧ p ≤ hi64) (bq : lo64 ≤ q ∧ q ≤ hi64) (bl : lo64 ≤ l ∧ l ≤ hi64) (data : ByteArray) (bd : (data.size : Int) ≤ hi64) (w : World) :
    Calls Tryz.prog 3 #[.int .i64 s, .int .i64 p, .int .i64 q, .int .i64 l, .string data] w (AgPost w) := by
  have go : ∀ {a : List V}, again a = true → LR (GA 0 0 0 0 []) a [.int .i64 s, .int .i64 p, .int .i64 q, .int .i64 l, .string data] → Calls Tryz.prog 3 #[.int .i64 s, .int .i64 p, .int .i64 q, .int .i64 l, .string data] w (AgPost w) :=
    fun h ha => again_ok hR.meet h w [.int .i64 s, .int .i64 p, .int .i64 q, .int .i64 l, .string data] ha
  by_cases h1 : s < 0
  · exact go out1 (args5 (sp0 bs.1 (by omega)) (.unk _) (.unk _) (.unk _) (.unk _))
  by_cases h2 : 7 < s
  · exact go out2 (args5 (sp0 (by omega) bs.2) (.unk _) (.unk _) (.unk _) (.unk _))
  have cs : CR (GA 0 0 0 0 []) sSer (.int .i64 s) := sp0 (by omega) (by omega)
  by_cases h3 : p < 1
  · exact go out3 (args5 cs (sp0 bp.1 (by omega)) (.unk _) (.unk _) (.unk _))
  by_cases h4 : 4 < p
  · exact go out4 (args5 cs (sp0 (by omega) bp.2) (.unk _) (.unk _) (.unk _))
  have cp : CR (GA 0 0 0 0 []) sPort (.int .i64 p) := sp0 (by omega) (by omega)
  by_cases h5 : q < 1
  · exact go out5 (args5 cs cp (sp0 bq.1 (by omega)) (.unk _) (.unk _))
  by_cases h6 : 4 < q
  · exact go out6 (args5 cs cp (sp0 (by omega) bq.2) (.unk _) (.unk _))
  have cq : CR (GA 0 0 0 0 []) sPort (.int .i64 q) := sp0 (by omega) (by omega)
  by_cases h7 : l < 0
  · exact go out7 (args5 cs cp cq (sp0 bl.1 (by omega)) (.unk _))
  by_cases h8 : 8 < l
  · exact go out8 (args5 cs cp cq (sp0 (by omega) bl.2) (.unk _))
  by_cases h9 : (data.size : Int) % 16 = 0
  · obtain ⟨ln, rfl⟩ : ∃ k : Nat, l = (k : Int) := ⟨l.toNat, by omega⟩
    by_cases h10 : 8 - (ln : Int) < (data.size : Int) / 16
    · have cd : CR (GA 0 0 0 0 []) (.sp 1 (9 - (ln : Int)) 0) (.string data) := .sp 1 _ _ _ ⟨data, rfl, h9, by omega, bd⟩
      exact go (longs ln (by omega)) (args5 cs cp cq (.int .i64 _) cd)
    · obtain ⟨sn, rfl⟩ : ∃ k : Nat, s = (k : Int) := ⟨s.toNat, by omega⟩
      obtain ⟨pn, rfl⟩ : ∃ k : Nat, p = (k : Int) := ⟨p.toNat, by omega⟩
      obtain ⟨qn, rfl⟩ : ∃ k : Nat, q = (k : Int) := ⟨q.toNat, by omega⟩
      exact again_in hR sn pn qn ln (data.size / 16) (by omega) ⟨by omega, by omega⟩ ⟨by omega, by omega⟩ (by omega) (by omega) data (by omega) w
  · have cl : CR (GA 0 0 0 0 []) sLba (.int .i64 l) := sp0 (by omega) (by omega)
    exact go out9 (args5 cs cp cq cl (.sp 3 0 0 _ ⟨data, rfl, h9⟩))
end Go.Proofs.YtpmgggfjmkpleaaGreatDoor.E
