/- Contracts: WriteStatus, ReadStatus (bulk), StatusText, ReadStatus (plugref). -/
import Derived.Test.YtpiamcafkjdfpaaBytes
import Derived.Test.YtpiamcafkjdfpaaRel
namespace Go.Proofs.Ytpiamcafkjdfpaa
open Go.RowKit
set_option linter.unusedVariables false
set_option maxRecDepth 100000

def goodSt (t r c : Int) : Bool := decide ((0 ≤ t ∧ t ≤ 4294967295) ∧ (0 ≤ r ∧ r ≤ 4294967295) ∧ (0 ≤ c ∧ c ≤ 2))
def stL (t r c : Nat) : List UInt8 := [85, 83, 66, 83] ++ lowL t ++ lowL r ++ [UInt8.ofNat c]
def stT (t r c : Int) : ByteArray := if goodSt t r c then ⟨(stL t.toNat r.toNat c.toNat).toArray⟩ else ⟨#[]⟩
def stE (t r c : Int) : Int := if goodSt t r c then 0 else 1

set_option maxHeartbeats 2000000 in
theorem writeStatus_no (t r c : Int) (h : goodSt t r c = false) (w : World) :
    Calls Try.prog 14 #[.agg #[.int .i64 t, .int .i64 r, .int .i64 c]] w fun e w' => e = .returned (.tuple #[.string ⟨#[]⟩, .int .i64 1]) ∧ Below w.heap.size w w' := by
  have hg : ¬ ((0 ≤ t ∧ t ≤ 4294967295) ∧ (0 ≤ r ∧ r ≤ 4294967295) ∧ (0 ≤ c ∧ c ≤ 2)) := by simpa [goodSt] using h
  have HG := Lib.hid hg
  clear hg h
  go_enter Try.func14, Try.ntmps14
  go_wp2_with (go_at_call 50; refine (is32_any _ _).mono ?_; rintro e w1 ⟨rfl, rfl⟩)
  all_goals try (go_ret2; exact ⟨rfl, (Below.refl _ _).alloc (Nat.le_refl _) _⟩)
  all_goals exact absurd ⟨by assumption, by assumption, by omega, by omega⟩ HG.out

/-- 'string([]byte{..})' of a known block, at a step of a region that draws its order -/
theorem step_conv {P : Program} {ops : Array Oper} {o : Oper} {a : Act} {w : World} {K : Act → World → Prop} {Q : Exit → Act → World → Prop} {E : Prop} (hgd : o.guard = none) (src e dst : TypeId) (x : Operand) (ho : o.op = .convert src dst x)
    (hs : P.underlying src = some (.slice e)) (he : P.underlying e = some (.int .u8)) (hd : P.underlying dst = some .string) (v : Value) (hx : a.eval x = v) (n : Nat) (xs : List Int) (hr : Reads w 1 v n (xs.map (Value.int .u8)))
    (h : K (a.put o.dst (.string (strOfNums xs))) w) : if Region.wanted o (yielded ops a.tmps) = true then Oper.wp P o a w K Q else E := by
  have hw : Region.wanted o (yielded ops a.tmps) = true := by simp [Region.wanted, hgd]
  rw [if_pos hw]
  have hrun := conv_reads (P := P) src e hs he dst hd hr
  unfold Oper.wp execOp
  simp only [ho, hx]
  simp [hrun, Result.andThen, Oper.upon]
  exact h
theorem keepC {B : Nat} {W0 w w' : World} {R : World → Prop} (hR : ∀ w', Below B W0 w' → R w') (h : Below B W0 w) (hz : B ≤ w.heap.size) (hb : Below w.heap.size w w') : Below B W0 w' ∧ R w' :=
  ⟨h.trans (hb.mono hz), hR _ (h.trans (hb.mono hz))⟩
theorem keepA {B : Nat} {W0 w : World} {R : World → Prop} (hR : ∀ w', Below B W0 w' → R w') (h : Below B W0 w) (hz : B ≤ W0.heap.size) (o : Obj) : Below B W0 (w.alloc o) ∧ R (w.alloc o) :=
  have hh : Below B W0 (w.alloc o) := h.alloc (Nat.le_trans hz h.size) o
  ⟨hh, hR _ hh⟩
theorem stT_eq (t r c : Nat) : (⟨#[85, 83, 66, 83]⟩ ++ ⟨(lowL t).toArray⟩ ++ ⟨(lowL r).toArray⟩ ++ strOfNums [(c : Int)] : ByteArray) = ⟨(stL t r c).toArray⟩ := by
  have e : strOfNums [(c : Int)] = ⟨[UInt8.ofNat c].toArray⟩ := rfl
  rw [e]
  have e2 : (⟨#[85, 83, 66, 83]⟩ : ByteArray) = ⟨[85, 83, 66, 83].toArray⟩ := rfl
  rw [e2, str_append, str_append, str_append]
  rfl
set_option maxHeartbeats 2000000 in
theorem writeStatus_yes (t r c : Nat) (ht : t ≤ 4294967295) (hr : r ≤ 4294967295) (hc : c ≤ 2) (w : World) :
    Calls Try.prog 14 #[.agg #[.int .i64 t, .int .i64 r, .int .i64 c]] w fun e w' => e = .returned (.tuple #[.string ⟨(stL t r c).toArray⟩, .int .i64 0]) ∧ Below w.heap.size w w' := by
  have h1 := is32_any (t : Int)
  have h2 := is32_any (r : Int)
  rw [show decide (0 ≤ (t : Int) ∧ (t : Int) ≤ 4294967295) = true from by simp; omega] at h1
  rw [show decide (0 ≤ (r : Int) ∧ (r : Int) ≤ 4294967295) = true from by simp; omega] at h2
  have H1 := Lib.hid h1
  have H2 := Lib.hid h2
  have H3 := Lib.hid (longP_any t ht)
  have H4 := Lib.hid (longP_any r hr)
  clear h1 h2
  have hcells : Hid (∀ w', Below (w.heap.size + 1) (w.alloc (.cells #[.int .i64 t, .int .i64 r, .int .i64 c] 23)) w' → w'.cell? ⟨w.heap.size, 0, none⟩ = some (.int .i64 t) ∧ w'.cell? ⟨w.heap.size, 1, none⟩ = some (.int .i64 r) ∧ w'.cell? ⟨w.heap.size, 2, none⟩ = some (.int .i64 c)) :=
    fun w' h => ⟨(h.cell (by simp)).trans (by simp), (h.cell (by simp)).trans (by simp), (h.cell (by simp)).trans (by simp)⟩
  go_enter Try.func14, Try.ntmps14
  go_wp2_with (go_at_call 50; first | (with_reducible refine (H1.out _).mono ?_; rintro e w1 ⟨rfl, rfl⟩) | (with_reducible refine (H2.out _).mono ?_; rintro e w1 ⟨rfl, rfl⟩))
  have hz0 : w.heap.size + 1 ≤ (w.alloc (.cells #[.int .i64 t, .int .i64 r, .int .i64 c] 23)).heap.size := by simp
  have hl1 : (lowL t).length ≤ 4 := Nat.le_refl _
  have hl2 : (lowL r).length ≤ 4 := Nat.le_refl _
  have q1 : ¬ 9223372036854775807 < 4 + (lowL t).length := by omega
  have q2 : ¬ 9223372036854775807 < 4 + (lowL t).length + (lowL r).length := by omega
  have q3 : ¬ 9223372036854775807 < 4 + (lowL t).length + (lowL r).length + 1 := by omega
  have hsz := strOfNums_size
  have hc8 : IntKind.u8.wrap (c : Int) = c := by simp [IntKind.wrap, IntKind.bits, IntKind.signed]; omega
  have hcv := conv1 (P := Try.prog) Try.underlying91 Try.underlying5 Try.underlying9
  refine wp_region_relF (by kernel_rfl) (by rfl) (fun w' => Below (w.heap.size + 1) (w.alloc (.cells #[.int .i64 t, .int .i64 r, .int .i64 c] 23)) w')
    (fun i v w' => match i with
      | 0 => v = .pointer (some ⟨w.heap.size, 0, none⟩)
      | 1 => v = .int .i64 t
      | 2 => v = .string ⟨(lowL t).toArray⟩
      | 3 => v = .string (⟨#[85, 83, 66, 83]⟩ ++ ⟨(lowL t).toArray⟩)
      | 4 => v = .pointer (some ⟨w.heap.size, 1, none⟩)
      | 5 => v = .int .i64 r
      | 6 => v = .string ⟨(lowL r).toArray⟩
      | 7 => v = .string (⟨#[85, 83, 66, 83]⟩ ++ ⟨(lowL t).toArray⟩ ++ ⟨(lowL r).toArray⟩)
      | 8 => v = .pointer (some ⟨w.heap.size, 2, none⟩)
      | 9 => v = .int .i64 c
      | 10 => v = .int .u8 c
      | 11 => Reads w' 1 v 1 [.int .u8 c]
      | 12 => v = .string (strOfNums [(c : Int)])
      | 13 => v = .string (⟨#[85, 83, 66, 83]⟩ ++ ⟨(lowL t).toArray⟩ ++ ⟨(lowL r).toArray⟩ ++ strOfNums [(c : Int)])
      | 14 => v = .string (⟨#[85, 83, 66, 83]⟩ ++ ⟨(lowL t).toArray⟩ ++ ⟨(lowL r).toArray⟩ ++ strOfNums [(c : Int)])
      | 15 => v = .int .i64 0
      | _ => True) ?_ ?_ ?_ ?_
  · intro i v wq w2 h hS hS' hle
    match i, h with
    | 0, h => exact h
    | 1, h => exact h
    | 2, h => exact h
    | 3, h => exact h
    | 4, h => exact h
    | 5, h => exact h
    | 6, h => exact h
    | 7, h => exact h
    | 8, h => exact h
    | 9, h => exact h
    | 10, h => exact h
    | 11, h => exact Reads.below h hle (Nat.le_refl _)
    | 12, h => exact h
    | 13, h => exact h
    | 14, h => exact h
    | 15, h => exact h
    | n + 16, h => trivial
  · exact (Below.refl _ _).drew
  · refine ⟨?_, ?_, ?_, ?_, ?_, ?_, ?_, ?_, ?_, ?_, ?_, ?_, ?_, ?_, ?_, ?_, trivial⟩
    · refine ok_run rfl (fun x wq hS hd => ⟨.pointer (some ⟨w.heap.size, 0, none⟩), wq, ?_, rfl, hS, Below.refl _ _⟩)
      simp [putAll, Act.put, go_sem]
    · refine ok_run rfl (fun x wq hS hd => ⟨.int .i64 t, wq, ?_, rfl, hS, Below.refl _ _⟩)
      have d0 : (x 0) = .pointer (some ⟨w.heap.size, 0, none⟩) := hd.1 rfl
      obtain ⟨c0, c1, c2⟩ := hcells.out _ hS
      simp [putAll, Act.put, go_sem, d0, c0, c1, c2]
    · refine ok_call rfl (fun x wq hS hd => ⟨51, #[.int .i64 t], ?_, (H3.out wq).mono ?_⟩)
      · have d1 : (x 1) = .int .i64 t := hd.1 rfl
        simp [putAll, Act.put, go_sem, d1]
      · rintro e w2 ⟨rfl, hb⟩
        exact ⟨_, rfl, rfl, hS.trans (hb.mono (Nat.le_trans hz0 hS.size)), hb⟩
    · refine ok_run rfl (fun x wq hS hd => ⟨.string (⟨#[85, 83, 66, 83]⟩ ++ ⟨(lowL t).toArray⟩), wq, ?_, rfl, hS, Below.refl _ _⟩)
      have d2 : (x 2) = .string ⟨(lowL t).toArray⟩ := hd.1 rfl
      simp [putAll, Act.put, go_sem, d2, q1, q2, q3, hsz]
    · refine ok_run rfl (fun x wq hS hd => ⟨.pointer (some ⟨w.heap.size, 1, none⟩), wq, ?_, rfl, hS, Below.refl _ _⟩)
      simp [putAll, Act.put, go_sem]
    · refine ok_run rfl (fun x wq hS hd => ⟨.int .i64 r, wq, ?_, rfl, hS, Below.refl _ _⟩)
      have d4 : (x 4) = .pointer (some ⟨w.heap.size, 1, none⟩) := hd.1 rfl
      obtain ⟨c0, c1, c2⟩ := hcells.out _ hS
      simp [putAll, Act.put, go_sem, d4, c0, c1, c2]
    · refine ok_call rfl (fun x wq hS hd => ⟨51, #[.int .i64 r], ?_, (H4.out wq).mono ?_⟩)
      · have d5 : (x 5) = .int .i64 r := hd.1 rfl
        have d2 : (x 2) = .string ⟨(lowL t).toArray⟩ := hd.2.1 rfl
        simp [putAll, Act.put, go_sem, d2, d5]
      · rintro e w2 ⟨rfl, hb⟩
        exact ⟨_, rfl, rfl, hS.trans (hb.mono (Nat.le_trans hz0 hS.size)), hb⟩
    · refine ok_run rfl (fun x wq hS hd => ⟨.string (⟨#[85, 83, 66, 83]⟩ ++ ⟨(lowL t).toArray⟩ ++ ⟨(lowL r).toArray⟩), wq, ?_, rfl, hS, Below.refl _ _⟩)
      have d3 : (x 3) = .string (⟨#[85, 83, 66, 83]⟩ ++ ⟨(lowL t).toArray⟩) := hd.1 rfl
      have d6 : (x 6) = .string ⟨(lowL r).toArray⟩ := hd.2.1 rfl
      simp [putAll, Act.put, go_sem, d3, d6, q1, q2, q3, hsz]
    · refine ok_run rfl (fun x wq hS hd => ⟨.pointer (some ⟨w.heap.size, 2, none⟩), wq, ?_, rfl, hS, Below.refl _ _⟩)
      simp [putAll, Act.put, go_sem]
    · refine ok_run rfl (fun x wq hS hd => ⟨.int .i64 c, wq, ?_, rfl, hS, Below.refl _ _⟩)
      have d8 : (x 8) = .pointer (some ⟨w.heap.size, 2, none⟩) := hd.1 rfl
      obtain ⟨c0, c1, c2⟩ := hcells.out _ hS
      simp [putAll, Act.put, go_sem, d8, c0, c1, c2]
    · refine ok_run rfl (fun x wq hS hd => ⟨.int .u8 c, wq, ?_, rfl, hS, Below.refl _ _⟩)
      have d9 : (x 9) = .int .i64 c := hd.1 rfl
      simp [putAll, Act.put, go_sem, d9, hc8]
    · refine ok_run rfl (fun x wq hS hd => ⟨.slice (some ⟨wq.heap.size, 0, none⟩) 1 1, wq.alloc (.cells #[.int .u8 c] 5), ?_, Reads.lit wq _ 1 1 [.int .u8 c] rfl (by decide), Below.alloc hS (Nat.le_trans hz0 hS.size) _, (Below.refl _ _).alloc (Nat.le_refl _) _⟩)
      have d10 : (x 10) = .int .u8 c := hd.1 rfl
      simp [putAll, Act.put, go_sem, d10]
    · refine ok_run rfl (fun x wq hS hd => ⟨.string (strOfNums [(c : Int)]), wq, ?_, rfl, hS, Below.refl _ _⟩)
      have d11 : Reads wq 1 (x 11) 1 [.int .u8 c] := hd.1 rfl
      have hcv := conv_reads (P := Try.prog) (xs := [(c : Int)]) 91 5 Try.underlying91 Try.underlying5 9 Try.underlying9 d11
      simp [putAll, Act.put, go_sem, hcv]
    · refine ok_run rfl (fun x wq hS hd => ⟨.string (⟨#[85, 83, 66, 83]⟩ ++ ⟨(lowL t).toArray⟩ ++ ⟨(lowL r).toArray⟩ ++ strOfNums [(c : Int)]), wq, ?_, rfl, hS, Below.refl _ _⟩)
      have d7 : (x 7) = .string (⟨#[85, 83, 66, 83]⟩ ++ ⟨(lowL t).toArray⟩ ++ ⟨(lowL r).toArray⟩) := hd.1 rfl
      have d12 : (x 12) = .string (strOfNums [(c : Int)]) := hd.2.1 rfl
      simp [putAll, Act.put, go_sem, d7, d12, q1, q2, q3, hsz]
    · refine ok_run rfl (fun x wq hS hd => ⟨.string (⟨#[85, 83, 66, 83]⟩ ++ ⟨(lowL t).toArray⟩ ++ ⟨(lowL r).toArray⟩ ++ strOfNums [(c : Int)]), wq, ?_, rfl, hS, Below.refl _ _⟩)
      have d13 : (x 13) = .string (⟨#[85, 83, 66, 83]⟩ ++ ⟨(lowL t).toArray⟩ ++ ⟨(lowL r).toArray⟩ ++ strOfNums [(c : Int)]) := hd.1 rfl
      have d6 : (x 6) = .string ⟨(lowL r).toArray⟩ := hd.2.1 rfl
      have d0 : (x 0) = .pointer (some ⟨w.heap.size, 0, none⟩) := hd.2.2.1 rfl
      have d1 : (x 1) = .int .i64 t := hd.2.2.2.1 rfl
      have d2 : (x 2) = .string ⟨(lowL t).toArray⟩ := hd.2.2.2.2.1 rfl
      have d3 : (x 3) = .string (⟨#[85, 83, 66, 83]⟩ ++ ⟨(lowL t).toArray⟩) := hd.2.2.2.2.2.1 rfl
      have d4 : (x 4) = .pointer (some ⟨w.heap.size, 1, none⟩) := hd.2.2.2.2.2.2.1 rfl
      have d5 : (x 5) = .int .i64 r := hd.2.2.2.2.2.2.2.1 rfl
      have d7 : (x 7) = .string (⟨#[85, 83, 66, 83]⟩ ++ ⟨(lowL t).toArray⟩ ++ ⟨(lowL r).toArray⟩) := hd.2.2.2.2.2.2.2.2.2.1 rfl
      have d8 : (x 8) = .pointer (some ⟨w.heap.size, 2, none⟩) := hd.2.2.2.2.2.2.2.2.2.2.1 rfl
      have d9 : (x 9) = .int .i64 c := hd.2.2.2.2.2.2.2.2.2.2.2.1 rfl
      have d10 : (x 10) = .int .u8 c := hd.2.2.2.2.2.2.2.2.2.2.2.2.1 rfl
      have d11 : Reads wq 1 (x 11) 1 [.int .u8 c] := hd.2.2.2.2.2.2.2.2.2.2.2.2.2.1 rfl
      have d12 : (x 12) = .string (strOfNums [(c : Int)]) := hd.2.2.2.2.2.2.2.2.2.2.2.2.2.2.1 rfl
      simp [putAll, Act.put, go_sem, d0, d1, d2, d3, d4, d5, d6, d7, d8, d9, d10, d11, d12, d13]
    · refine ok_run rfl (fun x wq hS hd => ⟨.int .i64 0, wq, ?_, rfl, hS, Below.refl _ _⟩)
      have d14 : (x 14) = .string (⟨#[85, 83, 66, 83]⟩ ++ ⟨(lowL t).toArray⟩ ++ ⟨(lowL r).toArray⟩ ++ strOfNums [(c : Int)]) := hd.1 rfl
      have d0 : (x 0) = .pointer (some ⟨w.heap.size, 0, none⟩) := hd.2.1 rfl
      have d1 : (x 1) = .int .i64 t := hd.2.2.1 rfl
      have d2 : (x 2) = .string ⟨(lowL t).toArray⟩ := hd.2.2.2.1 rfl
      have d3 : (x 3) = .string (⟨#[85, 83, 66, 83]⟩ ++ ⟨(lowL t).toArray⟩) := hd.2.2.2.2.1 rfl
      have d4 : (x 4) = .pointer (some ⟨w.heap.size, 1, none⟩) := hd.2.2.2.2.2.1 rfl
      have d5 : (x 5) = .int .i64 r := hd.2.2.2.2.2.2.1 rfl
      have d6 : (x 6) = .string ⟨(lowL r).toArray⟩ := hd.2.2.2.2.2.2.2.1 rfl
      have d7 : (x 7) = .string (⟨#[85, 83, 66, 83]⟩ ++ ⟨(lowL t).toArray⟩ ++ ⟨(lowL r).toArray⟩) := hd.2.2.2.2.2.2.2.2.1 rfl
      have d8 : (x 8) = .pointer (some ⟨w.heap.size, 2, none⟩) := hd.2.2.2.2.2.2.2.2.2.1 rfl
      have d9 : (x 9) = .int .i64 c := hd.2.2.2.2.2.2.2.2.2.2.1 rfl
      have d10 : (x 10) = .int .u8 c := hd.2.2.2.2.2.2.2.2.2.2.2.1 rfl
      have d11 : Reads wq 1 (x 11) 1 [.int .u8 c] := hd.2.2.2.2.2.2.2.2.2.2.2.2.1 rfl
      have d12 : (x 12) = .string (strOfNums [(c : Int)]) := hd.2.2.2.2.2.2.2.2.2.2.2.2.2.1 rfl
      have d13 : (x 13) = .string (⟨#[85, 83, 66, 83]⟩ ++ ⟨(lowL t).toArray⟩ ++ ⟨(lowL r).toArray⟩ ++ strOfNums [(c : Int)]) := hd.2.2.2.2.2.2.2.2.2.2.2.2.2.2.1 rfl
      simp [putAll, Act.put, go_sem, d0, d1, d2, d3, d4, d5, d6, d7, d8, d9, d10, d11, d12, d13, d14]
  · intro x wq hS hall
    have q14 : (x 14) = .string (⟨#[85, 83, 66, 83]⟩ ++ ⟨(lowL t).toArray⟩ ++ ⟨(lowL r).toArray⟩ ++ strOfNums [(c : Int)]) := hall.2.2.2.2.2.2.2.2.2.2.2.2.2.2.1
    have q15 : (x 15) = .int .i64 0 := hall.2.2.2.2.2.2.2.2.2.2.2.2.2.2.2.1
    clear hall
    simp only [putAll, Act.put, List.setIfInBounds_toArray, List.set_cons_succ, List.set_cons_zero, q14, q15]
    go_wp2_with fail
    go_ret2
    refine ⟨ret_si ?_ rfl, Below.trans ((Below.refl _ _).alloc (Nat.le_refl _) _) (hS.mono (by omega))⟩
    exact stT_eq t r c

theorem statusText_no (t r c : Int) (h : goodSt t r c = false) (w : World) :
    Calls Try.prog 15 #[.agg #[.int .i64 t, .int .i64 r, .int .i64 c]] w fun e w' => e = .returned (.tuple #[.string ⟨#[]⟩, .int .i64 1]) ∧ Below w.heap.size w w' := by
  have hg : ¬ ((0 ≤ t ∧ t ≤ 4294967295) ∧ (0 ≤ r ∧ r ≤ 4294967295) ∧ (0 ≤ c ∧ c ≤ 2)) := by simpa [goodSt] using h
  have HG := Lib.hid hg
  clear hg h
  go_enter Try.func15, Try.ntmps15
  go_wp2_with (first | (go_at_call 52; refine (longR_any _ _).mono ?_; rintro e w1 ⟨rfl, rfl⟩) | (go_at_call 25; refine (between_any _ _ _ _).mono ?_; rintro e w1 ⟨rfl, rfl⟩))
  all_goals try (go_ret2; exact ⟨rfl, (Below.refl _ _).alloc (Nat.le_refl _) _⟩)
  all_goals (first | exact absurd ⟨by assumption, by assumption, by simp_all; omega⟩ HG.out | exact absurd ⟨by assumption, by assumption, by simp at *; omega⟩ HG.out)

set_option maxHeartbeats 2000000 in
theorem statusText_yes (t r c : Nat) (ht : t ≤ 4294967295) (hr : r ≤ 4294967295) (hc : c ≤ 2) (w : World) :
    Calls Try.prog 15 #[.agg #[.int .i64 t, .int .i64 r, .int .i64 c]] w fun e w' => e = .returned (.tuple #[.string ⟨(stL t r c).toArray⟩, .int .i64 0]) ∧ Below w.heap.size w w' := by
  have h1 := longR_any (t : Int)
  have h2 := longR_any (r : Int)
  have h5 := between_any (c : Int) 0 2
  rw [show decide (0 ≤ (t : Int) ∧ (t : Int) ≤ 4294967295) = true from by simp; omega] at h1
  rw [show decide (0 ≤ (r : Int) ∧ (r : Int) ≤ 4294967295) = true from by simp; omega] at h2
  rw [show decide (0 ≤ (c : Int) ∧ (c : Int) ≤ 2) = true from by simp; omega] at h5
  have H1 := Lib.hid h1
  have H2 := Lib.hid h2
  have H5 := Lib.hid h5
  have H3 := Lib.hid (low_any t ht)
  have H4 := Lib.hid (low_any r hr)
  have hbt : bytesT [(c : Int)] = strOfNums [(c : Int)] := if_pos (by simp [isByte]; omega)
  have hba : [(c : Int)].all isByte = true := by simp [isByte]; omega
  have HB1 := Lib.hid hbt
  have HB2 := Lib.hid hba
  clear h1 h2 h5 hbt hba
  go_enter Try.func15, Try.ntmps15
  go_wp2_with (first | (go_at_call 52; first | (with_reducible refine (H1.out _).mono ?_; rintro e w1 ⟨rfl, rfl⟩) | (with_reducible refine (H2.out _).mono ?_; rintro e w1 ⟨rfl, rfl⟩)) | (go_at_call 25; with_reducible refine (H5.out _).mono ?_; rintro e w1 ⟨rfl, rfl⟩))
  refine (bytesOf_any _ [(c : Int)] _ (Reads.litAt _ _ 1 1 [.int .i64 c] rfl (by decide) _ (by simp)) (by simp)).mono ?_
  rintro e w1 ⟨rfl, hb1⟩
  rw [HB1.out, HB2.out]
  have hB1 : Below (w.heap.size + 1) (w.alloc (.cells #[.int .i64 t, .int .i64 r, .int .i64 c] 23)) w1 :=
    Below.trans ((Below.refl _ _).alloc (by simp) _) (hb1.mono (by simp))
  clear hb1
  have hcells : Hid (∀ w', Below (w.heap.size + 1) w1 w' → w'.cell? ⟨w.heap.size, 0, none⟩ = some (.int .i64 t) ∧ w'.cell? ⟨w.heap.size, 1, none⟩ = some (.int .i64 r)) :=
    fun w' h => ⟨((hB1.trans h).cell (by simp)).trans (by simp), ((hB1.trans h).cell (by simp)).trans (by simp)⟩
  go_wp2_with fail
  have hz0 : w.heap.size + 1 ≤ w1.heap.size := by have := hB1.size; simp at this; omega
  have hl1 : (lowL t).length ≤ 4 := Nat.le_refl _
  have hl2 : (lowL r).length ≤ 4 := Nat.le_refl _
  have q1 : ¬ 9223372036854775807 < 4 + (lowL t).length := by omega
  have q2 : ¬ 9223372036854775807 < 4 + (lowL t).length + (lowL r).length := by omega
  have q3 : ¬ 9223372036854775807 < 4 + (lowL t).length + (lowL r).length + 1 := by omega
  have hsz := strOfNums_size
  refine wp_region_relF (by kernel_rfl) (by rfl) (fun w' => Below (w.heap.size + 1) w1 w')
    (fun i v w' => match i with
      | 0 => v = .pointer (some ⟨w.heap.size, 0, none⟩)
      | 1 => v = .int .i64 t
      | 2 => v = .string ⟨(lowL t).toArray⟩
      | 3 => v = .string (⟨#[85, 83, 66, 83]⟩ ++ ⟨(lowL t).toArray⟩)
      | 4 => v = .pointer (some ⟨w.heap.size, 1, none⟩)
      | 5 => v = .int .i64 r
      | 6 => v = .string ⟨(lowL r).toArray⟩
      | 7 => v = .string (⟨#[85, 83, 66, 83]⟩ ++ ⟨(lowL t).toArray⟩ ++ ⟨(lowL r).toArray⟩)
      | 8 => v = .string (strOfNums [(c : Int)])
      | 9 => v = .string (⟨#[85, 83, 66, 83]⟩ ++ ⟨(lowL t).toArray⟩ ++ ⟨(lowL r).toArray⟩ ++ strOfNums [(c : Int)])
      | 10 => v = .string (⟨#[85, 83, 66, 83]⟩ ++ ⟨(lowL t).toArray⟩ ++ ⟨(lowL r).toArray⟩ ++ strOfNums [(c : Int)])
      | 11 => v = .int .i64 0
      | _ => True) ?_ ?_ ?_ ?_
  · intro i v wq w2 h hS hS' hle
    match i, h with
    | 0, h => exact h
    | 1, h => exact h
    | 2, h => exact h
    | 3, h => exact h
    | 4, h => exact h
    | 5, h => exact h
    | 6, h => exact h
    | 7, h => exact h
    | 8, h => exact h
    | 9, h => exact h
    | 10, h => exact h
    | 11, h => exact h
    | n + 12, h => trivial
  · exact (Below.refl _ _).drew
  · refine ⟨?_, ?_, ?_, ?_, ?_, ?_, ?_, ?_, ?_, ?_, ?_, ?_, trivial⟩
    · refine ok_run rfl (fun x wq hS hd => ⟨.pointer (some ⟨w.heap.size, 0, none⟩), wq, ?_, rfl, hS, Below.refl _ _⟩)
      simp [putAll, Act.put, go_sem]
    · refine ok_run rfl (fun x wq hS hd => ⟨.int .i64 t, wq, ?_, rfl, hS, Below.refl _ _⟩)
      have d0 : (x 0) = .pointer (some ⟨w.heap.size, 0, none⟩) := hd.1 rfl
      obtain ⟨c0, c1⟩ := hcells.out _ hS
      simp [putAll, Act.put, go_sem, d0, c0, c1]
    · refine ok_call rfl (fun x wq hS hd => ⟨54, #[.int .i64 t], ?_, (H3.out wq).mono ?_⟩)
      · have d1 : (x 1) = .int .i64 t := hd.1 rfl
        simp [putAll, Act.put, go_sem, d1]
      · rintro e w2 ⟨rfl, hb⟩
        exact ⟨_, rfl, rfl, hS.trans (hb.mono (Nat.le_trans hz0 hS.size)), hb⟩
    · refine ok_run rfl (fun x wq hS hd => ⟨.string (⟨#[85, 83, 66, 83]⟩ ++ ⟨(lowL t).toArray⟩), wq, ?_, rfl, hS, Below.refl _ _⟩)
      have d2 : (x 2) = .string ⟨(lowL t).toArray⟩ := hd.1 rfl
      simp [putAll, Act.put, go_sem, d2, q1, q2, q3, hsz]
    · refine ok_run rfl (fun x wq hS hd => ⟨.pointer (some ⟨w.heap.size, 1, none⟩), wq, ?_, rfl, hS, Below.refl _ _⟩)
      simp [putAll, Act.put, go_sem]
    · refine ok_run rfl (fun x wq hS hd => ⟨.int .i64 r, wq, ?_, rfl, hS, Below.refl _ _⟩)
      have d4 : (x 4) = .pointer (some ⟨w.heap.size, 1, none⟩) := hd.1 rfl
      obtain ⟨c0, c1⟩ := hcells.out _ hS
      simp [putAll, Act.put, go_sem, d4, c0, c1]
    · refine ok_call rfl (fun x wq hS hd => ⟨54, #[.int .i64 r], ?_, (H4.out wq).mono ?_⟩)
      · have d5 : (x 5) = .int .i64 r := hd.1 rfl
        have d2 : (x 2) = .string ⟨(lowL t).toArray⟩ := hd.2.1 rfl
        simp [putAll, Act.put, go_sem, d2, d5]
      · rintro e w2 ⟨rfl, hb⟩
        exact ⟨_, rfl, rfl, hS.trans (hb.mono (Nat.le_trans hz0 hS.size)), hb⟩
    · refine ok_run rfl (fun x wq hS hd => ⟨.string (⟨#[85, 83, 66, 83]⟩ ++ ⟨(lowL t).toArray⟩ ++ ⟨(lowL r).toArray⟩), wq, ?_, rfl, hS, Below.refl _ _⟩)
      have d3 : (x 3) = .string (⟨#[85, 83, 66, 83]⟩ ++ ⟨(lowL t).toArray⟩) := hd.1 rfl
      have d6 : (x 6) = .string ⟨(lowL r).toArray⟩ := hd.2.1 rfl
      simp [putAll, Act.put, go_sem, d3, d6, q1, q2, q3, hsz]
    · refine ok_run rfl (fun x wq hS hd => ⟨.string (strOfNums [(c : Int)]), wq, ?_, rfl, hS, Below.refl _ _⟩)
      simp [putAll, Act.put, go_sem]
    · refine ok_run rfl (fun x wq hS hd => ⟨.string (⟨#[85, 83, 66, 83]⟩ ++ ⟨(lowL t).toArray⟩ ++ ⟨(lowL r).toArray⟩ ++ strOfNums [(c : Int)]), wq, ?_, rfl, hS, Below.refl _ _⟩)
      have d7 : (x 7) = .string (⟨#[85, 83, 66, 83]⟩ ++ ⟨(lowL t).toArray⟩ ++ ⟨(lowL r).toArray⟩) := hd.1 rfl
      have d8 : (x 8) = .string (strOfNums [(c : Int)]) := hd.2.1 rfl
      simp [putAll, Act.put, go_sem, d7, d8, q1, q2, q3, hsz]
    · refine ok_run rfl (fun x wq hS hd => ⟨.string (⟨#[85, 83, 66, 83]⟩ ++ ⟨(lowL t).toArray⟩ ++ ⟨(lowL r).toArray⟩ ++ strOfNums [(c : Int)]), wq, ?_, rfl, hS, Below.refl _ _⟩)
      have d9 : (x 9) = .string (⟨#[85, 83, 66, 83]⟩ ++ ⟨(lowL t).toArray⟩ ++ ⟨(lowL r).toArray⟩ ++ strOfNums [(c : Int)]) := hd.1 rfl
      have d6 : (x 6) = .string ⟨(lowL r).toArray⟩ := hd.2.1 rfl
      have d0 : (x 0) = .pointer (some ⟨w.heap.size, 0, none⟩) := hd.2.2.1 rfl
      have d1 : (x 1) = .int .i64 t := hd.2.2.2.1 rfl
      have d2 : (x 2) = .string ⟨(lowL t).toArray⟩ := hd.2.2.2.2.1 rfl
      have d3 : (x 3) = .string (⟨#[85, 83, 66, 83]⟩ ++ ⟨(lowL t).toArray⟩) := hd.2.2.2.2.2.1 rfl
      have d4 : (x 4) = .pointer (some ⟨w.heap.size, 1, none⟩) := hd.2.2.2.2.2.2.1 rfl
      have d5 : (x 5) = .int .i64 r := hd.2.2.2.2.2.2.2.1 rfl
      have d7 : (x 7) = .string (⟨#[85, 83, 66, 83]⟩ ++ ⟨(lowL t).toArray⟩ ++ ⟨(lowL r).toArray⟩) := hd.2.2.2.2.2.2.2.2.2.1 rfl
      have d8 : (x 8) = .string (strOfNums [(c : Int)]) := hd.2.2.2.2.2.2.2.2.2.2.1 rfl
      simp [putAll, Act.put, go_sem, d0, d1, d2, d3, d4, d5, d6, d7, d8, d9]
    · refine ok_run rfl (fun x wq hS hd => ⟨.int .i64 0, wq, ?_, rfl, hS, Below.refl _ _⟩)
      have d10 : (x 10) = .string (⟨#[85, 83, 66, 83]⟩ ++ ⟨(lowL t).toArray⟩ ++ ⟨(lowL r).toArray⟩ ++ strOfNums [(c : Int)]) := hd.1 rfl
      have d0 : (x 0) = .pointer (some ⟨w.heap.size, 0, none⟩) := hd.2.1 rfl
      have d1 : (x 1) = .int .i64 t := hd.2.2.1 rfl
      have d2 : (x 2) = .string ⟨(lowL t).toArray⟩ := hd.2.2.2.1 rfl
      have d3 : (x 3) = .string (⟨#[85, 83, 66, 83]⟩ ++ ⟨(lowL t).toArray⟩) := hd.2.2.2.2.1 rfl
      have d4 : (x 4) = .pointer (some ⟨w.heap.size, 1, none⟩) := hd.2.2.2.2.2.1 rfl
      have d5 : (x 5) = .int .i64 r := hd.2.2.2.2.2.2.1 rfl
      have d6 : (x 6) = .string ⟨(lowL r).toArray⟩ := hd.2.2.2.2.2.2.2.1 rfl
      have d7 : (x 7) = .string (⟨#[85, 83, 66, 83]⟩ ++ ⟨(lowL t).toArray⟩ ++ ⟨(lowL r).toArray⟩) := hd.2.2.2.2.2.2.2.2.1 rfl
      have d8 : (x 8) = .string (strOfNums [(c : Int)]) := hd.2.2.2.2.2.2.2.2.2.1 rfl
      have d9 : (x 9) = .string (⟨#[85, 83, 66, 83]⟩ ++ ⟨(lowL t).toArray⟩ ++ ⟨(lowL r).toArray⟩ ++ strOfNums [(c : Int)]) := hd.2.2.2.2.2.2.2.2.2.2.1 rfl
      simp [putAll, Act.put, go_sem, d0, d1, d2, d3, d4, d5, d6, d7, d8, d9, d10]
  · intro x wq hS hall
    have q10 : (x 10) = .string (⟨#[85, 83, 66, 83]⟩ ++ ⟨(lowL t).toArray⟩ ++ ⟨(lowL r).toArray⟩ ++ strOfNums [(c : Int)]) := hall.2.2.2.2.2.2.2.2.2.2.1
    have q11 : (x 11) = .int .i64 0 := hall.2.2.2.2.2.2.2.2.2.2.2.1
    clear hall
    simp only [putAll, Act.put, List.setIfInBounds_toArray, List.set_cons_succ, List.set_cons_zero, q10, q11]
    go_wp2_with fail
    go_ret2
    refine ⟨ret_si ?_ rfl, Below.trans ((Below.refl _ _).alloc (Nat.le_refl _) _) ((hB1.trans hS).mono (by omega))⟩
    exact stT_eq t r c
end Go.Proofs.Ytpiamcafkjdfpaa
