/- Contracts: Check (packet) and Packet (plugref): the same error. -/
import Derived.Test.YtglkfgfnnhbjeaaPacket
namespace Go.Proofs.Ytglkfgfnnhbjeaa
open Go.RowKit
set_option linter.unusedVariables false
set_option maxRecDepth 100000

def pktErr (k a e f : Int) (n : Nat) : Int :=
  if knownK k = false then 1
  else if tokK k = true ∧ ¬ (0 ≤ a ∧ a < 128 ∧ 0 ≤ e ∧ e < 16) then 1
  else if tokK k = false ∧ (a ≠ 0 ∨ e ≠ 0) then 1
  else if (k ≠ 5 ∧ f ≠ 0) ∨ f < 0 ∨ 2048 ≤ f ∨ (datK k = false ∧ n ≠ 0) then 1
  else if 64 < n then 2 else 0

/-- the five classes of kinds -/
inductive KCls (k : Int) : Prop
  | tok (h1 : tokK k = true) (h2 : datK k = false) (h3 : bareK k = false) (h4 : knownK k = true) (h5 : (k == 5) = false) (h6 : (k != 5) = true) (h7 : k ≠ 5)
  | dat (h1 : tokK k = false) (h2 : datK k = true) (h3 : bareK k = false) (h4 : knownK k = true) (h5 : (k == 5) = false) (h6 : (k != 5) = true) (h7 : k ≠ 5)
  | bare (h1 : tokK k = false) (h2 : datK k = false) (h3 : bareK k = true) (h4 : knownK k = true) (h5 : (k == 5) = false) (h6 : (k != 5) = true) (h7 : k ≠ 5)
  | sof (h1 : tokK k = false) (h2 : datK k = false) (h3 : bareK k = false) (h4 : knownK k = true) (h5 : (k == 5) = true) (h6 : (k != 5) = false) (h7 : k = 5)
  | other (h1 : tokK k = false) (h2 : datK k = false) (h3 : bareK k = false) (h4 : knownK k = false) (h5 : (k == 5) = false) (h6 : (k != 5) = true) (h7 : k ≠ 5)
theorem kcls (k : Int) : KCls k := by
  by_cases a1 : k = 1; · subst a1; exact .tok rfl rfl rfl rfl rfl rfl (by decide)
  by_cases a2 : k = 9; · subst a2; exact .tok rfl rfl rfl rfl rfl rfl (by decide)
  by_cases a3 : k = 13; · subst a3; exact .tok rfl rfl rfl rfl rfl rfl (by decide)
  by_cases a4 : k = 3; · subst a4; exact .dat rfl rfl rfl rfl rfl rfl (by decide)
  by_cases a5 : k = 11; · subst a5; exact .dat rfl rfl rfl rfl rfl rfl (by decide)
  by_cases a6 : k = 2; · subst a6; exact .bare rfl rfl rfl rfl rfl rfl (by decide)
  by_cases a7 : k = 10; · subst a7; exact .bare rfl rfl rfl rfl rfl rfl (by decide)
  by_cases a8 : k = 14; · subst a8; exact .bare rfl rfl rfl rfl rfl rfl (by decide)
  by_cases a9 : k = 5; · subst a9; exact .sof rfl rfl rfl rfl rfl rfl rfl
  exact .other (by simp [tokK, *]) (by simp [datK, *]) (by simp [bareK, *]) (by simp [knownK, tokK, datK, *]) (by simp [*]) (by simp [*]) a9


set_option maxHeartbeats 4000000 in
theorem packetR_any (k a e f : Int) (d : ByteArray) (hk : I64 k) (ha : I64 a) (he : I64 e) (hf : I64 f) (hd : d.size ≤ maxLen) (w : World) :
    Calls Try.prog 14 #[.agg #[.int .i64 k, .int .i64 a, .int .i64 e, .int .i64 f, .string d]] w fun r w' => r = .returned (.int .i64 (pktErr k a e f d.size)) ∧ Below w.heap.size w w' := by
  have HT := isTok_any k hk
  have HD := isDat_any k hk
  have HB := isBare_any k hk
  unfold maxLen at hd
  unfold I64 at hk ha he hf
  rcases kcls k with ⟨h1, h2, h3, h4, h5, h6, h7⟩ | ⟨h1, h2, h3, h4, h5, h6, h7⟩ | ⟨h1, h2, h3, h4, h5, h6, h7⟩ | ⟨h1, h2, h3, h4, h5, h6, h7⟩ | ⟨h1, h2, h3, h4, h5, h6, h7⟩
  all_goals
    rw [h1] at HT
    rw [h2] at HD
    rw [h3] at HB
    have GT := Lib.hid HT
    have GD := Lib.hid HD
    have GB := Lib.hid HB
    have H1 := Lib.hid h1
    have H2 := Lib.hid h2
    have H4 := Lib.hid h4
    have H7 := Lib.hid h7
    clear HT HD HB h1 h2 h3 h4 h7
    go_enter Try.func14, Try.ntmps14
    go_wp2_with fail
    go_quiet ((go_at_call 25; first | (with_reducible exact quiet_same (GT.out _)) | (with_reducible exact quiet_same (GD.out _))))
    go_wp2_with (go_at_call 25; with_reducible refine (GB.out _).mono ?_; rintro r w' ⟨rfl, rfl⟩)
    all_goals go_ret
    all_goals refine ⟨ret_i ?_, ((Below.refl _ _).alloc (Nat.le_refl _) _).trans (below_drewN _ _ _)⟩
    all_goals
      clear GT GD GB
      have K7 := H7.out
      unfold pktErr
      simp only [H1.out, H2.out, H4.out, Bool.true_eq_false, Bool.false_eq_true, if_false, if_true, true_and, false_and, and_false, or_false, false_or, not_true_eq_false, not_false_eq_true, and_true, ne_eq]
      all_goals clear H1 H2 H4 H7 h5 h6
      all_goals (try simp only [bne_iff_ne, ne_eq, bne_eq_false_iff_eq, beq_iff_eq, beq_eq_false_iff_ne, Bool.not_eq_true', Bool.not_eq_false', toList_isEmpty, toList_nil, decide_eq_true_eq, decide_eq_false_iff_not] at *)
      all_goals ((repeat' split) <;> omega)
set_option maxHeartbeats 4000000 in
theorem checkP_any (k a e f : Int) (d : ByteArray) (hk : I64 k) (ha : I64 a) (he : I64 e) (hf : I64 f) (hd : d.size ≤ maxLen) (w : World) :
    Calls Try.prog 17 #[.agg #[.int .i64 k, .int .i64 a, .int .i64 e, .int .i64 f, .string d]] w fun r w' => r = .returned (.int .i64 (pktErr k a e f d.size)) ∧ Below w.heap.size w w' := by
  have HT := token_any k
  have HD := data_any k
  have HB := known_any k
  unfold maxLen at hd
  unfold I64 at hk ha he hf
  rcases kcls k with ⟨h1, h2, h3, h4, h5, h6, h7⟩ | ⟨h1, h2, h3, h4, h5, h6, h7⟩ | ⟨h1, h2, h3, h4, h5, h6, h7⟩ | ⟨h1, h2, h3, h4, h5, h6, h7⟩ | ⟨h1, h2, h3, h4, h5, h6, h7⟩
  all_goals
    rw [h1] at HT
    rw [h2] at HD
    rw [h4] at HB
    have GT := Lib.hid HT
    have GD := Lib.hid HD
    have GB := Lib.hid HB
    have H1 := Lib.hid h1
    have H2 := Lib.hid h2
    have H4 := Lib.hid h4
    have H7 := Lib.hid h7
    clear HT HD HB h1 h2 h3 h4 h7
    go_enter Try.func17, Try.ntmps17
    go_wp2_with (first | (go_at_call 27; with_reducible refine (GT.out _).mono ?_; rintro r w' ⟨rfl, rfl⟩) | (go_at_call 29; with_reducible refine (GD.out _).mono ?_; rintro r w' ⟨rfl, rfl⟩) | (go_at_call 31; with_reducible refine (GB.out _).mono ?_; rintro r w' ⟨rfl, rfl⟩))
    all_goals go_ret
    all_goals refine ⟨ret_i ?_, (Below.refl _ _).alloc (Nat.le_refl _) _⟩
    all_goals
      clear GT GD GB
      have K7 := H7.out
      unfold pktErr
      simp only [H1.out, H2.out, H4.out, Bool.true_eq_false, Bool.false_eq_true, if_false, if_true, true_and, false_and, and_false, or_false, false_or, not_true_eq_false, not_false_eq_true, and_true, ne_eq]
      all_goals clear H1 H2 H4 H7 h5 h6
      all_goals (try simp only [bne_iff_ne, ne_eq, bne_eq_false_iff_eq, beq_iff_eq, beq_eq_false_iff_ne, Bool.not_eq_true', Bool.not_eq_false', toList_isEmpty, toList_nil, decide_eq_true_eq, decide_eq_false_iff_not] at *)
      all_goals ((repeat' split) <;> omega)
end Go.Proofs.Ytglkfgfnnhbjeaa
