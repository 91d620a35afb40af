/- Contracts of Write (packet) and PacketText (plugref), as the machine takes them. -/
import Derived.Test.YtekmnhplhoejdaaDoorPacket4
import Derived.Test.YtekmnhplhoejdaaDoorAm30
namespace Go.Proofs.YtekmnhplhoejdaaDoor
open Go Go.RowKit
set_option linter.unusedVariables false

/-- the bytes of a right packet -/
def pktTx (k a e f : Int) (d : List UInt8) : List UInt8 :=
  if tokK k = true ∨ k = 5 then headL k.toNat ++ sealL (a + 128 * e + f).toNat
  else if datK k = true then headL k.toNat ++ d ++ dataL d else headL k.toNat
theorem pkt_any (k a e f : Int) (d : List UInt8) (hE : pktErr k a e f d.length = 0) :
    (∀ w, Calls Tryd.prog 63 #[.agg #[.int .i64 k, .int .i64 a, .int .i64 e, .int .i64 f, .string ⟨d.toArray⟩]] w fun r w' => r = .returned (.tuple #[.string ⟨(pktTx k a e f d).toArray⟩, .int .i64 0]) ∧ Below w.heap.size w w')
      ∧ (∀ w, Calls Tryd.prog 69 #[.agg #[.int .i64 k, .int .i64 a, .int .i64 e, .int .i64 f, .string ⟨d.toArray⟩]] w fun r w' => r = .returned (.string ⟨(pktTx k a e f d).toArray⟩) ∧ Below w.heap.size w w') := by
  have hE0 : pktErr k a e f (⟨d.toArray⟩ : ByteArray).size = 0 := hE
  have hsz : (⟨d.toArray⟩ : ByteArray).size = d.length := rfl
  unfold pktErr at hE
  by_cases c0 : knownK k = false
  · simp [c0] at hE
  have c0' : knownK k = true := by simpa using c0
  rw [if_neg c0] at hE
  split at hE
  · exact absurd hE (by decide)
  rename_i c1
  split at hE
  · exact absurd hE (by decide)
  rename_i c2
  split at hE
  · exact absurd hE (by decide)
  rename_i c3
  split at hE
  · exact absurd hE (by decide)
  rename_i c4
  have hk16 : ∃ n : Nat, k = n ∧ n < 16 := by
    simp [knownK, tokK, datK] at c0'
    exact ⟨k.toNat, by omega, by omega⟩
  obtain ⟨n, rfl, hn⟩ := hk16
  unfold pktTx
  rw [Int.toNat_natCast]
  rcases kcls (n : Int) with ⟨h1, h2, h3, h4, h5, h6, h7⟩ | ⟨h1, h2, h3, h4, h5, h6, h7⟩ | ⟨h1, h2, h3, h4, h5, h6, h7⟩ | ⟨h1, h2, h3, h4, h5, h6, h7⟩ | ⟨h1, h2, h3, h4, h5, h6, h7⟩
  · rw [h1] at c1 c2
    rw [h2] at c3
    have hb : 0 ≤ a ∧ a < 128 ∧ 0 ≤ e ∧ e < 16 := by simpa using c1
    obtain ⟨x, rfl⟩ : ∃ x : Nat, a = x := ⟨a.toNat, by omega⟩
    obtain ⟨y, rfl⟩ : ∃ y : Nat, e = y := ⟨e.toNat, by omega⟩
    obtain rfl : f = 0 := by omega
    rw [if_pos (.inl h1), show ((x : Int) + 128 * (y : Int) + 0).toNat = x + y * 128 by omega]
    refine ⟨fun w => writeP_tok n x y _ hn ⟨h1, h2, h5⟩ (by omega) (by omega) hE0 (by omega) w, fun w => ?_⟩
    have := textR_tok n x y 0 ⟨d.toArray⟩ hn ⟨h1, h2, h5⟩ (by omega) (by omega) (by omega) (by omega) w
    rw [show x + 128 * y + 0 = x + y * 128 by omega] at this
    exact this
  · rw [h1] at c1 c2
    rw [h2] at c3
    obtain rfl : f = 0 := by omega
    obtain rfl : a = 0 := by simp at c2; omega
    obtain rfl : e = 0 := by simp at c2; omega
    rw [if_neg (by rw [h1]; intro h; rcases h with h | h; exact absurd h (by decide); exact h7 h), if_pos h2]
    exact ⟨fun w => writeP_dat n ⟨d.toArray⟩ hn ⟨h1, h2, h5⟩ hE0 (by omega) w, fun w => textR_dat n 0 0 0 ⟨d.toArray⟩ hn ⟨h1, h2, h5⟩ (by omega) (by omega) (by omega) (by omega) w⟩
  · rw [h1] at c1 c2
    rw [h2] at c3
    obtain rfl : f = 0 := by omega
    obtain rfl : a = 0 := by simp at c2; omega
    obtain rfl : e = 0 := by simp at c2; omega
    rw [if_neg (by rw [h1]; intro h; rcases h with h | h; exact absurd h (by decide); exact h7 h), if_neg (by rw [h2]; decide)]
    exact ⟨fun w => writeP_bare n _ hn ⟨h1, h2, h5⟩ hE0 (by omega) w, fun w => textR_bare n 0 0 0 _ hn ⟨h1, h2, h5⟩ (by omega) (by omega) (by omega) (by omega) w⟩
  · rw [h1] at c1 c2
    rw [h2] at c3
    obtain ⟨x, rfl⟩ : ∃ x : Nat, f = x := ⟨f.toNat, by omega⟩
    obtain rfl : a = 0 := by simp at c2; omega
    obtain rfl : e = 0 := by simp at c2; omega
    rw [if_pos (.inr h7), show ((0 : Int) + 128 * 0 + (x : Int)).toNat = x by omega]
    refine ⟨fun w => writeP_sof n x _ hn ⟨h1, h2, h5⟩ (by omega) hE0 (by omega) w, fun w => ?_⟩
    have := textR_sof n 0 0 x ⟨d.toArray⟩ hn ⟨h1, h2, h5⟩ (by omega) (by omega) (by omega) (by omega) w
    rw [show 0 + 128 * 0 + x = x by omega] at this
    exact this
  · rw [h4] at c0'
    exact absurd c0' (by decide)
theorem pktArg {w : World} {fz : Nat → Prop} {k a e f : Int} {d : List UInt8} {vs : List Value} (ha : ArgsR w (G0 fz) [.st (.cons (.int .i64 k) (.cons (.int .i64 a) (.cons (.int .i64 e) (.cons (.int .i64 f) (.str d)))))] vs) : vs = [.agg #[.int .i64 k, .int .i64 a, .int .i64 e, .int .i64 f, .string ⟨d.toArray⟩]] := by
  obtain ⟨v1, t1, rfl, ⟨c1, rfl, h2⟩, h4⟩ := ha
  simp only [ArgsR] at h4
  subst h4
  obtain ⟨x1, y1, e1, q1, x2, y2, rfl, q2, x3, y3, rfl, q3, x4, x5, rfl, q4, q5⟩ := h2
  obtain rfl : x1 = [.int .i64 k] := q1
  obtain rfl : x2 = [.int .i64 a] := q2
  obtain rfl : x3 = [.int .i64 e] := q3
  obtain rfl : x4 = [.int .i64 f] := q4
  obtain rfl : x5 = [.string ⟨d.toArray⟩] := q5
  obtain rfl : c1 = #[.int .i64 k, .int .i64 a, .int .i64 e, .int .i64 f, .string ⟨d.toArray⟩] := by
    apply Array.ext'; simpa using e1
  rfl
theorem pktW_ok (k a e f : Int) (d : List UInt8) (hE : pktErr k a e f d.length = 0) : PureC Tryd.prog 63 [.st (.cons (.int .i64 k) (.cons (.int .i64 a) (.cons (.int .i64 e) (.cons (.int .i64 f) (.str d)))))] (.tup (.cons (.str (pktTx k a e f d)) (.cons (.int .i64 0) .nil))) [] := by
  intro w fz vs hfz ha
  rw [pktArg ha]
  refine ((pkt_any k a e f d hE).1 w).mono ?_
  rintro r w' ⟨rfl, hbel⟩
  exact ⟨_, G0 fz, rfl, NewR.none hbel, _, rfl, _, _, rfl, rfl, _, _, rfl, rfl, rfl⟩
theorem pktT_ok (k a e f : Int) (d : List UInt8) (hE : pktErr k a e f d.length = 0) : PureC Tryd.prog 69 [.st (.cons (.int .i64 k) (.cons (.int .i64 a) (.cons (.int .i64 e) (.cons (.int .i64 f) (.str d)))))] (.str (pktTx k a e f d)) [] := by
  intro w fz vs hfz ha
  rw [pktArg ha]
  refine ((pkt_any k a e f d hE).2 w).mono ?_
  rintro r w' ⟨rfl, hbel⟩
  exact ⟨_, G0 fz, rfl, NewR.none hbel, rfl⟩
end Go.Proofs.YtekmnhplhoejdaaDoor
