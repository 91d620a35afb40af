/- Contract of plugref.bytesOf; an append of one byte; slices of numbers. -/
import Derived.Test.YtpiamcafkjdfpaaSmall
namespace Go.Proofs.Ytpiamcafkjdfpaa
open Go.RowKit
set_option linter.unusedVariables false
set_option maxRecDepth 100000

theorem info_u8 : (Try.prog.info? 5).map (fun i => (i.zero, i.size, i.bytes)) = some (some (.int .u8 0), 1, 1) := by kernel_rfl
/-- an append of one byte -/
theorem app_u8 {w : World} {ops : Array Oper} {rest : List Oper} {o : Oper} {a : Act} {Q : Exit → Act → World → Prop} (hgd : o.guard = none) (s x : Operand)
    (ho : o.op = .call { callee := .builtin .append, args := #[s, x], argTypes := #[91, 91] })
    (B : Nat) (v : Value) (n : Nat) (xs : List Value) (hs : a.eval s = v) (hown : w.ownsRow B 5 1 v n xs) (u : Value) (hx : a.eval x = .slice (some ⟨w.heap.size, 0, none⟩) 1 1) (hu : u.oneCell' = true)
    (hn : n ≤ 17179869184) (hB : B ≤ w.heap.size)
    (h : ∀ v' w', w'.ownsRow B 5 1 v' (n + 1) (xs ++ [u]) → (w.alloc (.cells #[u] 5)).grownBy w' v.ownBlock → (v'.ownBlock = v.ownBlock ∨ ∃ g, v'.ownBlock = some g ∧ w.heap.size ≤ g) → Below B w w' → wpList Try.prog ops Q rest (a.put o.dst v') w') :
    wpList Try.prog ops Q (o :: rest) a (w.alloc (.cells #[u] 5)) :=
  wpList_app1 hgd s x _ ho B _ _ 1 1 Try.underlying91 info_u8 rfl (by decide) (by decide) v n xs hs hown [u] hx rfl (by simpa using hu) hn hB h
theorem mapI_get (l : List Int) (k : Nat) (h : k < l.length) : (l.map (Value.int .i64))[k]? = some (.int .i64 (l.getD k 0)) := by
  simp [List.getD, h]
theorem take_snocI (l : List Int) (k : Nat) (h : k < l.length) : l.take (k + 1) = l.take k ++ [l.getD k 0] := by
  rw [List.take_succ_eq_append_getElem h]; simp [List.getD, h]

def isByte (n : Int) : Bool := decide (0 ≤ n ∧ n ≤ 255)
def bytesT (l : List Int) : ByteArray := if l.all isByte then strOfNums l else ⟨#[]⟩
theorem ret_sb {a b : ByteArray} {c d : Bool} (h : a = b) (h' : c = d) : Ending.returned (.tuple #[.string a, .bool c]) = Ending.returned (.tuple #[.string b, .bool d]) := by rw [h, h']

set_option maxHeartbeats 400000 in
theorem bytesOf_any (vl : Value) (l : List Int) (w : World) (hl : Reads w 1 vl l.length (l.map (Value.int .i64))) (hlen : l.length ≤ 1048576) :
    Calls Try.prog 53 #[vl] w fun e w' => e = .returned (.tuple #[.string (bytesT l), .bool (l.all isByte)]) ∧ Below w.heap.size w w' := by
  obtain ⟨al, kl, rfl, -, hl1, hl2, hl3⟩ := hl.open
  unfold maxLen at hl2
  have Hl3 := Lib.hid hl3
  clear hl3 hl
  go_enter Try.func53, Try.ntmps53
  go_wp2_with fail
  go_loopw [4, 9] (fun v i wr => ∃ k : Nat, k ≤ l.length ∧ i = .int .i64 k ∧ (l.take k).all isByte = true ∧ wr.ownsRow w.heap.size 5 1 v k ((l.take k).map (Value.int .u8)) ∧ Below w.heap.size w wr)
    (fun _ i _ => l.length - (intOf i).toNat)
  case atStart => exact ⟨0, Nat.zero_le _, rfl, rfl, World.ownsRow_nil _ _ _ _, Below.refl _ _⟩
  case round =>
    obtain ⟨k, hk, rfl, hall, hown, hbel⟩ := hrel
    have hsz := hbel.size
    have HA := Lib.hid hall
    clear hall
    by_cases hlt : k < l.length
    · obtain ⟨b, o, rfl, hb, hx⟩ := Hl3.out (by omega)
      have hc := (hbel.cell (p := ⟨b, o + k, none⟩) hb).trans (hx k _ (mapI_get l k hlt))
      clear hx
      have hs := take_snocI l k hlt
      generalize hX : l.getD k 0 = x at hc hs
      have HS := Lib.hid hs
      have HX := Lib.hid hX
      clear hs hX
      by_cases hby : 0 ≤ x ∧ x ≤ 255
      · obtain ⟨hx0, hx1⟩ := hby
        have hbt := between_any x 0 255
        rw [show decide (0 ≤ x ∧ x ≤ 255) = true from by simp; omega] at hbt
        have HB := Lib.hid hbt
        clear hbt
        have hw8 : IntKind.u8.wrap x = x := by simp [IntKind.wrap, IntKind.bits, IntKind.signed]; omega
        go_wp2_with (first | (go_at_call 25; with_reducible refine (HB.out _).mono ?_; rintro e w1 ⟨rfl, rfl⟩) | (at_builtin; refine app_u8 rfl _ _ rfl _ _ _ _ rfl hown _ rfl rfl (by omega) hsz ?_; intro v' w' hown' _ _ hb2))
        go_roundw
        case rel =>
          refine ⟨k + 1, by omega, by go_num, ?_, ?_, hbel.trans hb2⟩
          · rw [HS.out, List.all_append, HA.out]
            simp [isByte, hx0, hx1]
          · rw [HS.out, List.map_append]
            have e : (x % 256) = x := by omega
            first | exact hown' | (rw [e] at hown'; exact hown')
        case measure => simp [intOf]; omega
      · have hbt := between_any x 0 255
        rw [show decide (0 ≤ x ∧ x ≤ 255) = false from by simp; omega] at hbt
        have HB := Lib.hid hbt
        have hno : l.all isByte = false := by
          rw [Bool.eq_false_iff]
          intro h
          rw [List.all_eq_true] at h
          have hm : x ∈ l := by
            have := HX.out
            rw [List.getD_eq_getElem?_getD, List.getElem?_eq_getElem hlt] at this
            simp at this
            rw [← this]
            exact List.getElem_mem hlt
          have := h x hm
          simp [isByte] at this
          exact hby this
        have e1 : bytesT l = ⟨#[]⟩ := by unfold bytesT; rw [if_neg (by rw [hno]; decide)]
        have H1 := Lib.hid e1
        have H2 := Lib.hid hno
        clear hbt hby e1 hno
        go_wp2_with (go_at_call 25; with_reducible refine (HB.out _).mono ?_; rintro e w1 ⟨rfl, rfl⟩)
        go_ret2
        exact ⟨ret_sb H1.out.symm H2.out.symm, hbel⟩
    · obtain rfl : k = l.length := by omega
      rw [List.take_length] at hown HA
      have e1 : bytesT l = strOfNums l := if_pos HA.out
      have H1 := Lib.hid e1
      have hcv := conv_reads (P := Try.prog) 91 5 Try.underlying91 Try.underlying5 9 Try.underlying9 (Reads.of_own hown)
      clear e1
      go_wp2_with fail
      go_ret2
      exact ⟨ret_sb H1.out.symm HA.out.symm, hbel⟩
end Go.Proofs.Ytpiamcafkjdfpaa
