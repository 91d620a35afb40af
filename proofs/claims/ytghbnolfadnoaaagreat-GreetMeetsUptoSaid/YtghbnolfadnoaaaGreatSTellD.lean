/- GreetTells: a greeting that is copied is the same. -/
import Derived.Test.YtghbnolfadnoaaaGreatSRdC
import Derived.Test.YtghbnolfadnoaaaGreatFgm
import Derived.Test.YtghbnolfadnoaaaGreatAm26
namespace Go.Proofs.YtghbnolfadnoaaaGreat
open Go Go.RowKit
set_option linter.unusedVariables false
def SmF (Fs : List CFace) : Prop := Fs.length ≤ 1759218604441 ∧ ∀ f ∈ Fs, f.2.2.2.2.1.length ≤ 8796093022208 ∧ f.2.2.2.2.2.length ≤ 3518437208883
abbrev D0 : CFace := ((0 : Int), ((0 : Int), ((0 : Int), ((0 : Int), (([] : List (List UInt8)), ([] : List (Int × Bool × Int × Int × Int)))))))
theorem set_self {α : Type} (d : α) : ∀ (l : List α) (k : Nat), k < l.length → l.set k (l.getD k d) = l
 | [], k, h => by simp at h
 | a :: l, 0, _ => rfl
 | a :: l, k + 1, h => by
  have := set_self d l k (by simpa using h)
  simpa using this
theorem setF (l : List CFace) (x : Int) (h0 : 0 ≤ x) (h : x < l.length) : l.set x.toNat (l.getD x.toNat D0) = l := set_self D0 l x.toNat (by omega)
theorem copied (n : Nat) (st tr ad m0 to du dc ds dp dm dv dq dr dk dn dz df cv cn ca cp : Int) (fs : List CFace) (se : CTx) (er : Int) (hs : SmF fs) (hn : fs.length + 1 < n) :
  F33 n st tr ad m0 to du dc ds dp dm dv dq dr dk dn dz df cv cn ca cp fs se er = some (st, tr, ad, m0, to, du, dc, ds, dp, dm, dv, dq, dr, dk, dn, dz, df, cv, cn, ca, cp, se, er, fs) := by
 obtain ⟨hl, hf⟩ := hs
 unfold F33
 have e67 : F65 n fs = some fs := by
  unfold F65
  rw [decide_eq_true (by simp only [List.length_nil]; omega)]; rfl
 rw [e67]
 simp only [Option.bind_some]
 obtain ⟨r, h1, h2⟩ := loopF_post (F33_l2 n st tr ad m0 to du dc ds dp dm dv dq dr dk dn dz df cv cn ca cp se er fs) (fun x : Int × List CFace => x.2 = fs ∧ 0 ≤ x.1 ∧ x.1 ≤ (fs.length : Int)) (fun x r => r = (st, tr, ad, m0, to, du, dc, ds, dp, dm, dv, dq, dr, dk, dn, dz, df, cv, cn, ca, cp, se, er, fs)) (fun x => ((fs.length : Int) - x.1).toNat) (by
  rintro k ⟨x, m⟩ ⟨hm, hx0, hx1⟩ ih
  simp only at hm hx0 hx1
  subst hm
  simp only [F33_l2]
  by_cases hx : x < (m.length : Int)
  ·obtain ⟨r, i1, i2⟩ := ih (x + 1, m) ⟨rfl, by simp only; omega, by simp only; omega⟩ (by simp only; omega)
   refine ⟨r, ?_, i2⟩
   have hmem : m.getD x.toNat D0 ∈ m := by
    rw [List.getD_eq_getElem?_getD, List.getElem?_eq_getElem (by omega)]
    exact List.getElem_mem _
   have hset := setF m x hx0 hx
   obtain ⟨b1, b2⟩ := hf _ hmem
   have e68 : F66 n (m.getD x.toNat D0).2.2.2.2.1 = some (m.getD x.toNat D0).2.2.2.2.1 := by
    unfold F66
    rw [decide_eq_true (by simp only [List.length_nil]; omega)]; rfl
   have e69 : F67 n (m.getD x.toNat D0).2.2.2.2.2 = some (m.getD x.toNat D0).2.2.2.2.2 := by
    unfold F67
    rw [decide_eq_true (by simp only [List.length_nil]; omega)]; rfl
   rw [decide_eq_true hx, inb_true hx0 hx]
   simp only [cond_true]
   rw [e68]
   simp only [Option.bind_some]
   rw [e69]
   simp only [Option.bind_some]
   rw [hset, inb_true hx0 hx]
   simp only [cond_true]
   rw [hset, w64 (n := x + 1) (by omega) (by omega)]
   exact i1
  ·rw [decide_eq_false hx]
   exact ⟨_, rfl, rfl⟩) n (0, fs) ⟨rfl, by simp only; omega, by simp only; omega⟩ (by simp only; omega)
 rw [h1, h2]
end Go.Proofs.YtghbnolfadnoaaaGreat
namespace Go.Proofs.YtghbnolfadnoaaaGreat.DevG
open Go Go.RowKit Go.Proofs.YtghbnolfadnoaaaGreat
open Classical
set_option linter.unusedVariables false
def rg (lo hi v : Int) : Prop := lo ≤ v ∧ v ≤ hi
instance (lo hi v : Int) : Decidable (rg lo hi v) := inferInstanceAs (Decidable (lo ≤ v ∧ v ≤ hi))
def allR (most : Int) (l : List Int) : Bool := l.all fun x => decide (0 ≤ x) && decide (x ≤ most)
theorem drop_at (l : List Int) (k : Nat) (h : k < l.length) : l.drop k = l.getD k 0 :: l.drop (k + 1) := by
 rw [List.drop_eq_getElem_cons h]
 simp [List.getD_eq_getElem?_getD, List.getElem?_eq_getElem h]
theorem v68 (n : Nat) (hn : 100 < n) (most : Int) (l : List Int) (hl : l.length ≤ 50) : F52 n most l = some (allR most l) := by
 unfold F52
 refine loopF_eq (F52_l2 n most l) (fun x => some (allR most (l.drop x.toNat))) (fun x => ∃ k : Nat, x = (k : Int) ∧ k ≤ l.length) (fun x => l.length - x.toNat) ?_ n 0 ⟨0, rfl, by omega⟩ (by simp; omega)
 rintro kk x ⟨k, rfl, hk⟩ ih
 simp only [F52_l2, Int.toNat_natCast]
 by_cases hka : k < l.length
 ·rw [decide_eq_true (show (k : Int) < (l.length : Int) by omega), inb_true (show (0 : Int) ≤ k by omega) (show (k : Int) < l.length by omega), drop_at l k hka, w64 (n := (k : Int) + 1) (by omega) (by omega)]
  simp only [cond_true]
  unfold allR
  rw [List.all_cons]
  by_cases h1 : l.getD k 0 < 0
  ·rw [decide_eq_true h1, decide_eq_false (show ¬ 0 ≤ l.getD k 0 by omega)]; rfl
  ·rw [decide_eq_false h1, decide_eq_true (show 0 ≤ l.getD k 0 by omega)]
   by_cases h2 : l.getD k 0 > most
   ·rw [decide_eq_true h2, decide_eq_false (show ¬ l.getD k 0 ≤ most by omega)]; rfl
   ·rw [decide_eq_false h2, decide_eq_true (show l.getD k 0 ≤ most by omega)]
    simp only [cond_false]
    have := ih ((k : Int) + 1) ⟨k + 1, by omega, by omega⟩ (by simp only [Int.toNat_natCast]; omega)
    rw [this, show ((k : Int) + 1).toNat = k + 1 by omega]; rfl
 ·rw [decide_eq_false (show ¬ (k : Int) < (l.length : Int) by omega), List.drop_of_length_le (by omega)]; rfl
def wr8 (l : List Int) : List Int := l.map (IntKind.wrap .u8)
def tb (v : Int) : List UInt8 := strOf [IntKind.wrap .u8 v, IntKind.wrap .u8 (shrI .i64 v 8)]
variable {mm : Nat}
theorem v70 (v : Int) : F54 (mm + 200) v = some (tb v) := rfl
theorem v69_2 (a b : Int) : F53 (mm + 200) [a, b] = some (strOf (wr8 [a, b])) := rfl
theorem v69_4 (a b c d : Int) : F53 (mm + 200) [a, b, c, d] = some (strOf (wr8 [a, b, c, d])) := rfl
structure Dev where
 (u c s p m v r l k a z g : Int)
def setB (m : Int) : Prop := m = 8 ∨ m = 16 ∨ m = 32 ∨ m = 64
def devOk (u c s p m v r l k a z g : Int) : Prop := setB m ∧ (rg 0 255 c ∧ rg 0 255 s ∧ rg 0 255 p ∧ rg 0 255 k ∧ rg 0 255 a ∧ rg 0 255 z) ∧ (rg 0 65535 u ∧ rg 0 65535 v ∧ rg 0 65535 r ∧ rg 0 65535 l) ∧ rg 1 255 g
def txt (u c s p m v r l k a z g : Int) : List UInt8 := strOf (wr8 [18, 1]) ++ tb u ++ strOf (wr8 [c, s, p, m]) ++ tb v ++ tb r ++ tb l ++ strOf (wr8 [k, a, z, g])
noncomputable def devR (u c s p m v r l k a z g : Int) : List UInt8 × Int := if devOk u c s p m v r l k a z g then (txt u c s p m v r l k a z g, 0) else ([], 1)
theorem len_tb (v : Int) : (tb v).length = 2 := rfl
theorem len_p2 (a b : Int) : (strOf (wr8 [a, b])).length = 2 := rfl
theorem len_p4 (a b c d : Int) : (strOf (wr8 [a, b, c, d])).length = 4 := rfl
theorem all6 (a b c d e f : Int) : allR 255 [a, b, c, d, e, f] = true ↔ (rg 0 255 a ∧ rg 0 255 b ∧ rg 0 255 c ∧ rg 0 255 d ∧ rg 0 255 e ∧ rg 0 255 f) := by
 simp [allR, rg]
theorem all4 (most a b c d : Int) : allR most [a, b, c, d] = true ↔ (rg 0 most a ∧ rg 0 most b ∧ rg 0 most c ∧ rg 0 most d) := by
 simp [allR, rg]
section
variable (u c s p m v r l k a z g : Int)
theorem v18j4 : F24_j4 (mm + 200) u c s p m v r l k a z g false = some (txt u c s p m v r l k a z g, 0) := by
 unfold F24_j4
 simp only [cond_false, v69_2, v69_4, v70, Option.bind_some, List.length_append, len_tb, len_p2, len_p4]
 rfl
theorem v18 : F24 (mm + 200) u c s p m v r l k a z g = some (devR u c s p m v r l k a z g) := by
 have no : ¬ devOk u c s p m v r l k a z g → some (([] : List UInt8), (1 : Int)) = some (devR u c s p m v r l k a z g) := fun h => by unfold devR; rw [if_neg h]
 have jt : F24_j4 (mm + 200) u c s p m v r l k a z g true = some ([], 1) := rfl
 have j3 : ∀ size : Bool, (size = true ↔ setB m) → F24_j3 (mm + 200) u c s p m v r l k a z g size = some (devR u c s p m v r l k a z g) := by
  intro size hs
  unfold F24_j3 F51
  rw [v68 (mm + 200) (by omega) 255 _ (by simp), v68 (mm + 200) (by omega) 65535 _ (by simp)]
  simp only [Option.bind_some]
  cases h1 : allR 255 [c, s, p, k, a, z]
  ·exact no (fun h => by have := (all6 c s p k a z).2 h.2.1; rw [h1] at this; cases this)
  cases h2 : allR 65535 [u, v, r, l]
  ·exact no (fun h => by have := (all4 65535 u v r l).2 h.2.2.1; rw [h2] at this; cases this)
  cases size
  ·exact no (fun h => by have := hs.2 h.1; cases this)
  simp only [Bool.not_true, cond_false]
  by_cases h3 : g < 1
  ·rw [decide_eq_true h3]; exact no (fun h => by have := h.2.2.2; unfold rg at this; omega)
  by_cases h4 : g > 255
  ·rw [decide_eq_false h3, decide_eq_true h4]; exact no (fun h => by have := h.2.2.2; unfold rg at this; omega)
  rw [decide_eq_false h3, decide_eq_false h4]
  simp only [cond_false]
  rw [v18j4]
  unfold devR
  rw [if_pos (show devOk u c s p m v r l k a z g from ⟨hs.1 rfl, (all6 c s p k a z).1 h1, (all4 65535 u v r l).1 h2, by unfold rg; omega⟩)]
 unfold F24
 by_cases h1 : m = 8
 ·rw [show (m == 8) = true by simpa using h1]; exact j3 true ⟨fun _ => .inl h1, fun _ => rfl⟩
 rw [show (m == 8) = false by simpa using h1]
 by_cases h2 : m = 16
 ·rw [show (m == 16) = true by simpa using h2]; exact j3 true ⟨fun _ => .inr (.inl h2), fun _ => rfl⟩
 rw [show (m == 16) = false by simpa using h2]
 by_cases h3 : m = 32
 ·rw [show (m == 32) = true by simpa using h3]; exact j3 true ⟨fun _ => .inr (.inr (.inl h3)), fun _ => rfl⟩
 rw [show (m == 32) = false by simpa using h3]
 refine j3 (m == 64) ⟨fun h => .inr (.inr (.inr (by simpa using h))), fun h => ?_⟩
 rcases h with h | h | h | h
 ·exact absurd h h1
 ·exact absurd h h2
 ·exact absurd h h3
 ·simpa using h
end
def by' (s : List UInt8) (i : Nat) : Nat := (s.getD i 0).toNat
theorem by_lt (s : List UInt8) (i : Nat) : by' s i < 256 := (s.getD i 0).toNat_lt
def wd (s : List UInt8) (i : Nat) : Nat := by' s i + by' s (i + 1) * 256
theorem v75 (n : Nat) (s : List UInt8) (i : Nat) (h : i + 1 < s.length) (hi : i ≤ 100) : F94 n s i = some (wd s i : Int) := by
 have b0 := by_lt s i
 have b1 := by_lt s (i + 1)
 unfold F94
 rw [w64 (n := (i : Int) + 1) (by omega) (by omega), show (i : Int) + 1 = ((i + 1 : Nat) : Int) by omega, inb_true (by omega) (show (i : Int) < s.length by omega), inb_true (by omega) (show ((i + 1 : Nat) : Int) < s.length by omega)]
 simp only [cond_true, Int.toNat_natCast]
 show some (bitsI .or .i64 (IntKind.wrap .i64 (by' s i : Int)) (shlI .i64 (IntKind.wrap .i64 (by' s (i + 1) : Int)) 8)) = _
 rw [w64n _ (by omega), w64n _ (by omega), show (8 : Int) = ((8 : Nat) : Int) from rfl, shl_mul _ 8 (by omega) (by omega), bOrAdd _ _ 8 (by omega) (by omega)]
 rfl
theorem v77 (n : Nat) (s : List UInt8) (i : Nat) (h : i + 1 < s.length) (hi : i ≤ 100) : F80 n s i = some (wd s i : Int) := by
 have b0 := by_lt s i
 have b1 := by_lt s (i + 1)
 unfold F80
 rw [w64 (n := (i : Int) + 1) (by omega) (by omega), show (i : Int) + 1 = ((i + 1 : Nat) : Int) by omega, inb_true (by omega) (show (i : Int) < s.length by omega), inb_true (by omega) (show ((i + 1 : Nat) : Int) < s.length by omega)]
 simp only [cond_true, Int.toNat_natCast]
 show some (IntKind.wrap .i64 (IntKind.wrap .i64 (256 * IntKind.wrap .i64 (by' s (i + 1) : Int)) + IntKind.wrap .i64 (by' s i : Int))) = _
 rw [w64n _ (by omega), w64n _ (by omega), w64 (n := 256 * (by' s (i + 1) : Int)) (by omega) (by omega), w64 (by omega) (by omega)]
 unfold wd
 congr 1
 omega
theorem v74 (n : Nat) (s : List UInt8) (i : Nat) (h : i < s.length) : F93 n i s = some (by' s i : Int) := by
 have b0 := by_lt s i
 unfold F93
 rw [inb_true (by omega) (show (i : Int) < s.length by omega)]
 simp only [cond_true, Int.toNat_natCast]
 show some (IntKind.wrap .i64 (by' s i : Int)) = _
 rw [w64n _ (by omega)]
theorem tb_wd (s : List UInt8) (i : Nat) : tb (wd s i : Int) = [s.getD i 0, s.getD (i + 1) 0] := by
 have b0 := by_lt s i
 have b1 := by_lt s (i + 1)
 unfold tb strOf
 simp only [List.map_cons, List.map_nil, u8w, show (8 : Int) = ((8 : Nat) : Int) from rfl, shr_div .i64 _ 8 (by decide)]
 have e0 : ((wd s i : Nat) : Int) % 256 = (by' s i : Nat) := by unfold wd; omega
 have e1 : ((wd s i : Nat) : Int) / 2 ^ 8 % 256 = (by' s (i + 1) : Nat) := by unfold wd; omega
 rw [e0, e1]
 unfold by'
 rw [u8_nat, u8_nat]
theorem by_u8 (s : List UInt8) (i : Nat) : UInt8.ofNat (IntKind.wrap .u8 (by' s i : Int)).toNat = s.getD i 0 := by
 have b0 := by_lt s i
 rw [u8w, show ((by' s i : Nat) : Int) % 256 = (by' s i : Nat) by omega]
 unfold by'
 rw [u8_nat]
theorem p4_by (s : List UInt8) (i j k l : Nat) : strOf (wr8 [(by' s i : Int), (by' s j : Int), (by' s k : Int), (by' s l : Int)]) = [s.getD i 0, s.getD j 0, s.getD k 0, s.getD l 0] := by
 unfold strOf wr8
 simp only [List.map_cons, List.map_nil, by_u8]
def txtS (s : List UInt8) : List UInt8 := txt (wd s 2) (by' s 4) (by' s 5) (by' s 6) (by' s 7) (wd s 8) (wd s 10) (wd s 12) (by' s 14) (by' s 15) (by' s 16) (by' s 17)
theorem txtS_eq (s : List UInt8) (hl : 18 ≤ s.length) : txtS s = [18, 1] ++ (s.take 18).drop 2 := by
 unfold txtS txt
 rw [tb_wd, tb_wd, tb_wd, tb_wd, p4_by, p4_by]
 obtain ⟨q, w, hq, rfl⟩ : ∃ q w : List UInt8, q.length = 18 ∧ s = q ++ w := ⟨s.take 18, s.drop 18, by rw [List.length_take]; omega, (List.take_append_drop 18 s).symm⟩
 have e : (q ++ w).take 18 = q := by rw [List.take_append_of_le_length (by omega), List.take_of_length_le (by omega)]
 rw [e]
 match q, hq with
 | [x0, x1, x2, x3, x4, x5, x6, x7, x8, x9, x10, x11, x12, x13, x14, x15, x16, x17], _ => rfl
theorem ix_byte : ∀ c : _root_.Fin 256, decide (Lib.indexByte ([8, 16, 32, 64] : List UInt8) ((c.val : Int)).toNat.toUInt8 < 0) = !decide (c.val = 8 ∨ c.val = 16 ∨ c.val = 32 ∨ c.val = 64) := by decide +kernel
abbrev DR := Int × Int × Int × Int × Int × Int × Int × Int × Int × Int × Int × Int × Int
def formE : DR := (0, 0, 0, 0, 0, 0, 0, 0, 0, 0, 0, 0, 4)
def devS (s : List UInt8) : DR := ((wd s 2 : Int), (by' s 4 : Int), (by' s 5 : Int), (by' s 6 : Int), (by' s 7 : Int), (wd s 8 : Int), (wd s 10 : Int), (wd s 12 : Int), (by' s 14 : Int), (by' s 15 : Int), (by' s 16 : Int), (by' s 17 : Int), 0)
def okS (s : List UInt8) : Prop := s.length = 18 ∧ s.take 2 = [18, 1] ∧ by' s 17 ≠ 0 ∧ setB (by' s 7 : Int)
theorem wd_rg (s : List UInt8) (i : Nat) : rg 0 65535 (wd s i : Int) := by
 have := by_lt s i
 have := by_lt s (i + 1)
 unfold rg wd; omega
theorem by_rg (s : List UInt8) (i : Nat) : rg 0 255 (by' s i : Int) := by
 have := by_lt s i
 unfold rg; omega
theorem devS_ok (s : List UInt8) : devOk (wd s 2) (by' s 4) (by' s 5) (by' s 6) (by' s 7) (wd s 8) (wd s 10) (wd s 12) (by' s 14) (by' s 15) (by' s 16) (by' s 17) ↔ setB (by' s 7 : Int) ∧ by' s 17 ≠ 0 := by
 have := by_lt s 17
 constructor
 ·intro h; exact ⟨h.1, by have := h.2.2.2; unfold rg at this; omega⟩
 ·rintro ⟨h1, h2⟩
  exact ⟨h1, ⟨by_rg s 4, by_rg s 5, by_rg s 6, by_rg s 14, by_rg s 15, by_rg s 16⟩, ⟨wd_rg s 2, wd_rg s 8, wd_rg s 10, wd_rg s 12⟩, by unfold rg; omega⟩
theorem v20 (s : List UInt8) (hl : 18 ≤ s.length) : F68 (mm + 200) s = some (if okS s then devS s else formE) := by
 have no : ¬ okS s → some formE = some (if okS s then devS s else formE) := fun h => by rw [if_neg h]
 unfold F68
 rw [decide_eq_false (show ¬ ((s.length : Nat) : Int) < 18 by omega)]
 have e2 := v75 (mm + 200) s 2 (by omega) (by omega)
 have e8 := v75 (mm + 200) s 8 (by omega) (by omega)
 have e10 := v75 (mm + 200) s 10 (by omega) (by omega)
 have e12 := v75 (mm + 200) s 12 (by omega) (by omega)
 have e4 := v74 (mm + 200) s 4 (by omega)
 have e5 := v74 (mm + 200) s 5 (by omega)
 have e6 := v74 (mm + 200) s 6 (by omega)
 have e7 := v74 (mm + 200) s 7 (by omega)
 have e14 := v74 (mm + 200) s 14 (by omega)
 have e15 := v74 (mm + 200) s 15 (by omega)
 have e16 := v74 (mm + 200) s 16 (by omega)
 have e17 := v74 (mm + 200) s 17 (by omega)
 simp only [Int.cast_ofNat_Int] at e2 e8 e10 e12 e4 e5 e6 e7 e14 e15 e16 e17
 simp only [cond_false, e2, e8, e10, e12, e4, e5, e6, e7, e14, e15, e16, e17, Option.bind_some, v18]
 have hd := devS_ok s
 unfold devR
 by_cases h : setB (by' s 7 : Int) ∧ by' s 17 ≠ 0
 ·rw [if_pos (hd.2 h)]
  simp only [bne_self_eq_false, cond_false]
  have ht := txtS_eq s hl
  unfold txtS at ht
  rw [ht]
  by_cases h2 : s.length = 18 ∧ s.take 2 = [18, 1]
  ·have e : [18, 1] ++ (s.take 18).drop 2 = s := by
    rw [List.take_of_length_le (by omega), ← h2.2, List.take_append_drop]
   rw [e, show (s == s) = true by simp, if_pos (show okS s from ⟨h2.1, h2.2, h.2, h.1⟩)]
   rfl
  ·have e : ([18, 1] ++ (s.take 18).drop 2 == s) = false := by
    rw [beq_eq_false_iff_ne]
    intro e
    apply h2
    have hlen := congrArg List.length e
    simp only [List.length_append, List.length_drop, List.length_take, List.length_cons, List.length_nil] at hlen
    refine ⟨by omega, ?_⟩
    rw [← e]; rfl
   rw [e]
   exact no (fun hh => h2 ⟨hh.1, hh.2.1⟩)
 ·rw [if_neg (fun hh => h (hd.1 hh))]
  exact no (fun hh => h ⟨hh.2.2.2, hh.2.2.1⟩)
theorem v21 (s : List UInt8) (hl : 18 ≤ s.length) : F82 (mm + 200) s = some (if okS s then devS s else formE) := by
 have no : ¬ okS s → some formE = some (if okS s then devS s else formE) := fun h => by rw [if_neg h]
 have jt : F82_j2 (mm + 200) s true = some formE := rfl
 unfold F82
 rw [decide_eq_false (show ¬ ((s.length : Nat) : Int) < 18 by omega)]
 by_cases h18 : s.length = 18
 ·rw [decide_eq_false (show ¬ ((s.length : Nat) : Int) > 18 by omega), show subB s.length none (some 2) = true by simp [subB]; omega, inb_true (show (0 : Int) ≤ 17 by omega) (show (17 : Int) < s.length by omega), inb_true (show (0 : Int) ≤ 7 by omega) (show (7 : Int) < s.length by omega)]
  simp only [cond_true, cond_false]
  by_cases h2 : s.take 2 = [18, 1]
  ·rw [show (s.take 2 == ([18, 1] : List UInt8)) = true by simpa using h2]
   simp only [Bool.not_true, cond_false]
   show (bif (by' s 17 : Int) == 0 then _ else ((F102 (mm + 200) [8, 16, 32, 64] (by' s 7 : Int)).bind fun y => F82_j2 (mm + 200) s (decide (y < 0)))) = _
   by_cases h17 : by' s 17 = 0
   ·rw [h17]; exact no (fun h => h.2.2.1 h17)
   ·rw [show ((by' s 17 : Int) == 0) = false by rw [beq_eq_false_iff_ne]; omega]
    simp only [cond_false]
    unfold F102
    simp only [Option.bind_some]
    have hix := ix_byte ⟨by' s 7, by_lt s 7⟩
    simp only at hix
    rw [hix]
    by_cases hs : setB (by' s 7 : Int)
    ·rw [decide_eq_true (show by' s 7 = 8 ∨ by' s 7 = 16 ∨ by' s 7 = 32 ∨ by' s 7 = 64 by unfold setB at hs; omega), if_pos (show okS s from ⟨h18, h2, h17, hs⟩)]
     unfold F82_j2
     have e2 := v77 (mm + 200) s 2 (by omega) (by omega)
     have e8 := v77 (mm + 200) s 8 (by omega) (by omega)
     have e10 := v77 (mm + 200) s 10 (by omega) (by omega)
     have e12 := v77 (mm + 200) s 12 (by omega) (by omega)
     simp only [Int.cast_ofNat_Int] at e2 e8 e10 e12
     have ib : ∀ i : Int, 0 ≤ i → i < 18 → inb i s.length = true := fun i a b => inb_true a (by omega)
     have wb : ∀ i : Nat, IntKind.wrap .i64 (((s.getD i 0).toNat : Nat) : Int) = (by' s i : Int) := fun i => by have := by_lt s i; exact w64n _ (by unfold by' at this; omega)
     simp only [Bool.not_true, cond_false, e2, e8, e10, e12, Option.bind_some, ib 4 (by omega) (by omega), ib 5 (by omega) (by omega), ib 6 (by omega) (by omega), ib 7 (by omega) (by omega), ib 14 (by omega) (by omega), ib 15 (by omega) (by omega), ib 16 (by omega) (by omega), ib 17 (by omega) (by omega), cond_true, wb]
     rfl
    ·rw [decide_eq_false (show ¬ (by' s 7 = 8 ∨ by' s 7 = 16 ∨ by' s 7 = 32 ∨ by' s 7 = 64) by unfold setB at hs; omega)]
     exact no (fun h => hs h.2.2.2)
  ·rw [show (s.take 2 == ([18, 1] : List UInt8)) = false by simpa using h2]
   exact no (fun h => h2 h.2.1)
 ·rw [decide_eq_true (show ((s.length : Nat) : Int) > 18 by omega)]
  exact no (fun h => h18 h.1)
end Go.Proofs.YtghbnolfadnoaaaGreat.DevG
namespace Go.Proofs.YtghbnolfadnoaaaGreat.UtfG
open Go Go.RowKit Go.Proofs.YtghbnolfadnoaaaGreat
set_option linter.unusedVariables false
abbrev Tx := List UInt8
def bt (s : Tx) (k : Nat) : Nat := (s.getD k 0).toNat
theorem bt_lt (s : Tx) (k : Nat) : bt s k < 256 := UInt8.toNat_lt _
theorem get_at (s : Tx) (k : Nat) (h : k < s.length) : ((⟨s.toArray⟩ : ByteArray).get! k).toNat = bt s k := by
 have e : (⟨s.toArray⟩ : ByteArray).get! k = s.toArray[k]! := rfl
 rw [e, getElem!_pos s.toArray k (by simpa using h)]
 unfold bt
 rw [List.getD_eq_getElem?_getD, List.getElem?_eq_getElem h]
 simp
def cont (s : Tx) (k : Nat) : Bool := decide (k < s.length) && bt s k / 64 == 2
def validN (c : Nat) : Bool := decide (c < 55296) || (decide (57344 ≤ c) && decide (c ≤ 1114111))
def runeV (s : Tx) (p : Nat) : Nat × Nat :=
 if bt s p < 128 then (bt s p, 1)
 else if bt s p / 32 = 6 ∧ cont s (p + 1) = true then (if 128 ≤ (bt s p % 32) * 64 + bt s (p + 1) % 64 then ((bt s p % 32) * 64 + bt s (p + 1) % 64, 2) else (65533, 1))
 else if bt s p / 16 = 14 ∧ cont s (p + 1) = true ∧ cont s (p + 2) = true then
  (if 2048 ≤ (bt s p % 16) * 4096 + (bt s (p + 1) % 64) * 64 + bt s (p + 2) % 64 ∧ validN ((bt s p % 16) * 4096 + (bt s (p + 1) % 64) * 64 + bt s (p + 2) % 64) = true then ((bt s p % 16) * 4096 + (bt s (p + 1) % 64) * 64 + bt s (p + 2) % 64, 3) else (65533, 1))
 else if bt s p / 8 = 30 ∧ cont s (p + 1) = true ∧ cont s (p + 2) = true ∧ cont s (p + 3) = true then
  (if 65536 ≤ (bt s p % 8) * 262144 + (bt s (p + 1) % 64) * 4096 + (bt s (p + 2) % 64) * 64 + bt s (p + 3) % 64 ∧ validN ((bt s p % 8) * 262144 + (bt s (p + 1) % 64) * 4096 + (bt s (p + 2) % 64) * 64 + bt s (p + 3) % 64) = true then ((bt s p % 8) * 262144 + (bt s (p + 1) % 64) * 4096 + (bt s (p + 2) % 64) * 64 + bt s (p + 3) % 64, 4) else (65533, 1))
 else (65533, 1)
theorem valid_nat (c : Nat) : Utf8.valid (c : Int) = validN c := by
 unfold Utf8.valid validN
 rw [Bool.eq_iff_iff]
 simp
 omega
theorem runeAt_V (s : Tx) (p : Nat) (h : p < s.length) : Go.Proofs.YtghbnolfadnoaaaGreat.runeAt s p = runeV s p := by
 have hc : ∀ k, (decide (p + k < (⟨s.toArray⟩ : ByteArray).size) && ((⟨s.toArray⟩ : ByteArray).get! (p + k)).toNat / 64 == 2) = cont s (p + k) := by
  intro k
  unfold cont
  by_cases hk : p + k < s.length
  ·rw [get_at s _ hk]; rfl
  ·rw [decide_eq_false (show ¬ p + k < (⟨s.toArray⟩ : ByteArray).size from hk), decide_eq_false hk]; rfl
 have g : ∀ k, cont s (p + k) = true → ((⟨s.toArray⟩ : ByteArray).get! (p + k)).toNat = bt s (p + k) := by
  intro k hk
  unfold cont at hk
  rw [Bool.and_eq_true, decide_eq_true_eq] at hk
  exact get_at s _ hk.1
 have g0 : ((⟨s.toArray⟩ : ByteArray).get! (p + 0)).toNat = bt s p := get_at s p h
 unfold Go.Proofs.YtghbnolfadnoaaaGreat.runeAt Utf8.decode runeV
 simp only [hc, g0]
 split
 ·rfl
 ·by_cases c1 : bt s p / 32 = 6 ∧ cont s (p + 1) = true
  ·rw [if_pos c1, if_pos (by simpa using c1), g 1 c1.2]
   rfl
  ·rw [if_neg c1, if_neg (by simpa using c1)]
   by_cases c2 : bt s p / 16 = 14 ∧ cont s (p + 1) = true ∧ cont s (p + 2) = true
   ·rw [if_pos c2, if_pos (by simpa [and_assoc] using c2), g 1 c2.2.1, g 2 c2.2.2]
    simp only [Bool.and_eq_true, decide_eq_true_eq, ge_iff_le, valid_nat]
    rfl
   ·rw [if_neg c2, if_neg (by simpa [and_assoc] using c2)]
    by_cases c3 : bt s p / 8 = 30 ∧ cont s (p + 1) = true ∧ cont s (p + 2) = true ∧ cont s (p + 3) = true
    ·rw [if_pos c3, if_pos (by simpa [and_assoc] using c3), g 1 c3.2.1, g 2 c3.2.2.1, g 3 c3.2.2.2]
     simp only [Bool.and_eq_true, decide_eq_true_eq, ge_iff_le, valid_nat]
     rfl
    ·rw [if_neg c3, if_neg (by simpa [and_assoc] using c3)]
     rfl
theorem runeV_w (s : Tx) (p : Nat) : 1 ≤ (runeV s p).2 ∧ (runeV s p).2 ≤ 4 ∧ (runeV s p).1 ≤ 1114111 := by
 have := bt_lt s p
 unfold runeV
 repeat' split
 all_goals (simp only [validN, Bool.or_eq_true, Bool.and_eq_true, decide_eq_true_eq] at *; omega)
theorem W8 (s : Tx) (k : Nat) : IntKind.wrap .i64 (((s.getD k 0).toNat : Nat) : Int) = ((bt s k : Nat) : Int) := by
 have := bt_lt s k
 exact w64 (by show _ ≤ ((bt s k : Nat) : Int); omega) (by show ((bt s k : Nat) : Int) ≤ _; omega)
def endE (b least vn : Nat) : Option (Int × Int) := some (if b < least ∨ b > 1114111 ∨ (55296 ≤ b ∧ b < 57344) then (65533, 1) else ((b : Int), (vn : Int) + 1))
set_option maxRecDepth 100000
def rl (s : Tx) : Nat → Nat → List Nat
 | 0, _ => []
 | f + 1, p => if p < s.length then (runeV s p).1 :: rl s f (p + (runeV s p).2) else []
theorem rl_fuel (s : Tx) : ∀ f f' p, s.length - p ≤ f → s.length - p ≤ f' → rl s f p = rl s f' p
 | 0, 0, p, _, _ => rfl
 | 0, f' + 1, p, h, _ => by simp only [rl]; rw [if_neg (by omega)]
 | f + 1, 0, p, _, h => by simp only [rl]; rw [if_neg (by omega)]
 | f + 1, f' + 1, p, h, h' => by
  simp only [rl]
  have := (runeV_w s p).1
  split
  ·rw [rl_fuel s f f' _ (by omega) (by omega)]
  ·rfl
def runes (s : Tx) (p : Nat) : List Nat := rl s (s.length - p) p
theorem runes_step (s : Tx) (p : Nat) (h : p < s.length) : runes s p = (runeV s p).1 :: runes s (p + (runeV s p).2) := by
 have := (runeV_w s p).1
 unfold runes
 obtain ⟨f, hf⟩ : ∃ f, s.length - p = f + 1 := ⟨s.length - p - 1, by omega⟩
 rw [hf]
 simp only [rl]
 rw [if_pos h, rl_fuel s f (s.length - (p + (runeV s p).2)) _ (by omega) (by omega)]
theorem runes_end (s : Tx) (p : Nat) (h : ¬ p < s.length) : runes s p = [] := by unfold runes; rw [show s.length - p = 0 by omega]; rfl
theorem rl_le (s : Tx) : ∀ f p, ∀ r ∈ rl s f p, r ≤ 1114111
 | 0, p, r, h => by cases h
 | f + 1, p, r, h => by
  simp only [rl] at h
  split at h
  ·rcases List.mem_cons.1 h with rfl | h
   ·exact (runeV_w s p).2.2
   ·exact rl_le s f _ r h
  ·cases h
theorem rl_len (s : Tx) : ∀ f p, (rl s f p).length ≤ f
 | 0, p => Nat.le_refl _
 | f + 1, p => by
  simp only [rl]
  split
  ·have := rl_len s f (p + (runeV s p).2); rw [List.length_cons]; omega
  ·simp
def two (m : Nat) : Tx := [UInt8.ofNat (m % 256), UInt8.ofNat (m / 256 % 256)]
def tb (r : Nat) : Tx := if r < 65536 then two r else two (55296 + (r - 65536) / 1024) ++ two (56320 + (r - 65536) % 1024)
def cnt (r : Nat) : Nat := if r < 65536 then 1 else 2
def cntL : List Nat → Nat
 | [] => 0
 | r :: l => cnt r + cntL l
theorem tb_len (r : Nat) : (tb r).length = 2 * cnt r := by
 unfold tb cnt
 split <;> rfl
theorem tbL_len : ∀ l : List Nat, (l.flatMap tb).length = 2 * cntL l
 | [] => rfl
 | r :: l => by rw [List.flatMap_cons, List.length_append, tb_len, tbL_len l, cntL]; omega
theorem map_getD (l : List Nat) (k : Nat) : (l.map fun r : Nat => (r : Int)).getD k 0 = ((l.getD k 0 : Nat) : Int) := by
 rw [List.getD_eq_getElem?_getD, List.getD_eq_getElem?_getD, List.getElem?_map]
 cases l[k]? <;> rfl
theorem dropD {α : Type} (d : α) : ∀ (l : List α) (k : Nat), k < l.length → l.drop k = l.getD k d :: l.drop (k + 1)
 | [], k, h => by simp at h
 | x :: l, 0, h => rfl
 | x :: l, k + 1, h => by simpa using dropD d l k (by simpa using h)
def wideV (rs : List Nat) : Tx × Int := if 126 < cntL rs then ([], 2) else (rs.flatMap tb, 0)
theorem w32 {n : Int} (h1 : -2147483648 ≤ n) (h2 : n ≤ 2147483647) : IntKind.wrap .i32 n = n := by
 have e : IntKind.wrap .i32 n = if n % 4294967296 ≥ 2147483648 then n % 4294967296 - 4294967296 else n % 4294967296 := by
  simp [IntKind.wrap, IntKind.bits, IntKind.signed]
 rw [e]
 split <;> omega
theorem bv32 (x : Nat) (h : x < 4294967296) : (BitVec.ofInt 32 (x : Int)).toNat = x := by
 rw [BitVec.toNat_ofInt]
 omega
theorem bAnd32 (x : Nat) (h : x < 2147483648) : bitsI .and .i32 (x : Int) 1023 = ((x % 1024 : Nat) : Int) := by
 have hx : x &&& 1023 = x % 1024 := Nat.and_two_pow_sub_one_eq_mod x 10
 show IntKind.i32.wrap ((BitVec.ofInt 32 (x : Int) &&& BitVec.ofInt 32 ((1023 : Nat) : Int)).toNat : Int) = _
 rw [BitVec.toNat_and, bv32 x (by omega), bv32 1023 (by omega), hx, w32 (by omega) (by omega)]
theorem bOr32 (a b : Nat) (ha : a < 256) (hb : b < 256) : bitsI .or .i32 (a : Int) ((b * 256 : Nat) : Int) = ((a + 256 * b : Nat) : Int) := by
 have hx : a ||| b * 256 = a + b * 256 := nat_or_add a b 8 (by omega)
 show IntKind.i32.wrap ((BitVec.ofInt 32 (a : Int) ||| BitVec.ofInt 32 ((b * 256 : Nat) : Int)).toNat : Int) = _
 rw [BitVec.toNat_or, bv32 a (by omega), bv32 (b * 256) (by omega), hx, w32 (by omega) (by omega)]
 omega
theorem shl32 (x j m : Nat) (hm : m = 2 ^ j) (hj : j ≤ 32) (h : x * m < 2147483648) : shlI .i32 (x : Int) (j : Int) = ((x * m : Nat) : Int) := by
 subst hm
 unfold shlI
 rw [Int.toNat_natCast, Nat.min_eq_left (by simpa [IntKind.bits] using hj)]
 have e : (x : Int) * 2 ^ j = ((x * 2 ^ j : Nat) : Int) := by simp
 rw [e, w32 (by omega) (by omega)]
theorem hi32 (d : Nat) (h : d < 1048576) : IntKind.wrap .i32 (55296 + shrI .i32 (d : Int) 10) = ((55296 + d / 1024 : Nat) : Int) := by
 have s10 := shr_div .i32 (d : Int) 10 (by decide)
 rw [show ((10 : Nat) : Int) = 10 from rfl, show (2 : Int) ^ 10 = 1024 by decide] at s10
 rw [s10, w32 (by omega) (by omega)]; omega
theorem lo32 (d : Nat) (h : d < 1048576) : IntKind.wrap .i32 (56320 + bitsI .and .i32 (d : Int) 1023) = ((56320 + d % 1024 : Nat) : Int) := by
 rw [bAnd32 _ (by omega), w32 (by omega) (by omega)]; omega
theorem sub32 (r d : Nat) (h : d < 1048576) (e : r = d + 65536) : IntKind.wrap .i32 ((r : Int) - 65536) = (d : Int) := by
 rw [w32 (by omega) (by omega)]; omega
theorem tb_big (r d : Nat) (e : r = d + 65536) : tb r = two (55296 + d / 1024) ++ two (56320 + d % 1024) := by
 have hb : ¬ r < 65536 := by omega
 unfold tb
 rw [if_neg hb, show r - 65536 = d by omega]
theorem hi64 (r d : Nat) (h : d < 1048576) (e : r = d + 65536) : IntKind.wrap .i64 (55296 + IntKind.wrap .i64 ((IntKind.wrap .i64 ((r : Int) - 65536)).tdiv 1024)) = ((55296 + d / 1024 : Nat) : Int) := by
 rw [w64 (n := (r : Int) - 65536) (by omega) (by omega), show (r : Int) - 65536 = (d : Int) by omega, Int.tdiv_eq_ediv_of_nonneg (by omega), w64 (n := (d : Int) / 1024) (by omega) (by omega), w64 (by omega) (by omega)]; omega
theorem lo64 (r d : Nat) (h : d < 1048576) (e : r = d + 65536) : IntKind.wrap .i64 (56320 + (IntKind.wrap .i64 ((r : Int) - 65536)).tmod 1024) = ((56320 + d % 1024 : Nat) : Int) := by
 rw [w64 (n := (r : Int) - 65536) (by omega) (by omega), show (r : Int) - 65536 = (d : Int) by omega, Int.tmod_eq_emod_of_nonneg (by omega), w64 (by omega) (by omega)]; omega
theorem pairB (m : Nat) (hm : m < 1000000) : strOf [IntKind.wrap .u8 (m : Int), IntKind.wrap .u8 (shrI .i32 (m : Int) 8)] = two m := by
 have s8 := shr_div .i32 (m : Int) 8 (by decide)
 rw [show ((8 : Nat) : Int) = 8 from rfl, show (2 : Int) ^ 8 = 256 by decide] at s8
 rw [s8, u8w, u8w]
 have e1 : ((m : Int) % 256).toNat = m % 256 := by omega
 have e2 : ((m : Int) / 256 % 256).toNat = m / 256 % 256 := by omega
 simp only [strOf, List.map_cons, List.map_nil, e1, e2]; rfl
set_option maxRecDepth 100000
def un (t : Tx) (i : Nat) : Nat := if i + 1 < t.length then bt t i + 256 * bt t (i + 1) else 0
theorem unitP (n : Nat) (t : Tx) (i : Nat) (hi : i < 1000000) : F108 n (i : Int) t = some ((un t i : Nat) : Int) := by
 unfold F108 un
 rw [w64 (n := (i : Int) + 1) (by omega) (by omega)]
 by_cases h : i + 1 < t.length
 ·have h1 := bt_lt t i
  have h2 := bt_lt t (i + 1)
  rw [if_pos h, decide_eq_false (show ¬ (i : Int) + 1 ≥ ((t.length : Nat) : Int) by omega), inb_true (show (0 : Int) ≤ i by omega) (show (i : Int) < t.length by omega), inb_true (show (0 : Int) ≤ (i : Int) + 1 by omega) (show (i : Int) + 1 < t.length by omega), Int.toNat_natCast, show ((i : Int) + 1).toNat = i + 1 by omega]
  have w1 : IntKind.wrap .i32 (((t.getD i 0).toNat : Nat) : Int) = ((bt t i : Nat) : Int) := w32 (by show _ ≤ ((bt t i : Nat) : Int); omega) (by show ((bt t i : Nat) : Int) ≤ _; omega)
  have w2 : IntKind.wrap .i32 (((t.getD (i + 1) 0).toNat : Nat) : Int) = ((bt t (i + 1) : Nat) : Int) := w32 (by show _ ≤ ((bt t (i + 1) : Nat) : Int); omega) (by show ((bt t (i + 1) : Nat) : Int) ≤ _; omega)
  have s8 := shl32 (bt t (i + 1)) 8 256 rfl (by omega) (by omega)
  rw [show ((8 : Nat) : Int) = 8 from rfl] at s8
  rw [w1, w2, s8, bOr32 _ _ h1 h2]
  rfl
 ·rw [if_neg h, decide_eq_true (show (i : Int) + 1 ≥ ((t.length : Nat) : Int) by omega)]; rfl
def us : Tx → List Nat
 | a :: b :: t => (a.toNat + 256 * b.toNat) :: us t
 | _ => []
theorem us_drop (t : Tx) (i : Nat) (h : i + 1 < t.length) : us (t.drop i) = un t i :: us (t.drop (i + 2)) := by
 have e1 := dropD (0 : UInt8) t i (by omega)
 have e2 := dropD (0 : UInt8) t (i + 1) h
 rw [e1, e2, us]
 unfold un bt
 rw [if_pos h]
theorem us_lt : ∀ t : Tx, ∀ u ∈ us t, u < 65536
 | [], u, h => by cases h
 | [a], u, h => by cases h
 | a :: b :: t, u, h => by
  rw [us] at h
  rcases List.mem_cons.1 h with rfl | h
  ·have := UInt8.toNat_lt a; have := UInt8.toNat_lt b; omega
  ·exact us_lt t u h
theorem us_len : ∀ t : Tx, (us t).length ≤ t.length / 2
 | [] => Nat.le_refl _
 | [a] => Nat.zero_le _
 | a :: b :: t => by have := us_len t; rw [us]; simp only [List.length_cons]; omega
def one (c : Nat) : Nat := if c / 2048 = 27 then 65533 else c
def nr : List Nat → List Nat
 | [] => []
 | [c] => [one c]
 | c :: d :: l => if c / 1024 = 54 ∧ d / 1024 = 55 then (65536 + c % 1024 * 1024 + d % 1024) :: nr l else one c :: nr (d :: l)
theorem nr_one {c : Nat} {l : List Nat} (h : ¬ (c / 1024 = 54 ∧ (l.getD 0 0) / 1024 = 55)) : nr (c :: l) = one c :: nr l := by
 cases l with
 | nil => rfl
 | cons d l => rw [nr, if_neg (by simpa using h)]
theorem nr_two {c d : Nat} {l : List Nat} (h : c / 1024 = 54 ∧ d / 1024 = 55) : nr (c :: d :: l) = (65536 + c % 1024 * 1024 + d % 1024) :: nr l := by rw [nr, if_pos h]
theorem narrowP (n : Nat) (hn : 600 < n) (t : Tx) (h2 : t.length % 2 = 0) (hl : t.length ≤ 252) : loopF (F97_l7 n t) n (0, []) = some (strOfRunes ((nr (us t)).map fun r : Nat => (r : Int)), 0) := by
 refine (loopF_eq (F97_l7 n t) (fun d => some (strOfRunes (d.2 ++ (nr (us (t.drop d.1.toNat))).map fun r : Nat => (r : Int)), 0)) (fun d => ∃ i : Nat, d.1 = (i : Int) ∧ i % 2 = 0 ∧ i ≤ t.length ∧ d.2.length ≤ i) (fun d => t.length - d.1.toNat) ?_ n (0, []) ⟨0, rfl, rfl, by omega, by simp⟩ (by simp; omega)).trans (by simp)
 rintro k ⟨_, m⟩ ⟨i, rfl, hi2, hi, hm⟩ ih
 simp only at hm
 simp only [F97_l7, Int.toNat_natCast]
 by_cases h : i < t.length
 ·have wi : IntKind.wrap .i64 ((i : Int) + 2) = ((i + 2 : Nat) : Int) := by rw [w64 (by omega) (by omega)]; omega
  have wi2 : IntKind.wrap .i64 (((i + 2 : Nat) : Int) + 2) = ((i + 4 : Nat) : Int) := by rw [w64 (by omega) (by omega)]; omega
  rw [decide_eq_true (show (i : Int) < (t.length : Int) by omega), unitP n t i (by omega), wi, unitP n t (i + 2) (by omega)]
  simp only [cond_true, Option.bind_some, F97_j8, wi, wi2]
  rw [us_drop t i (by omega)]
  have hun : un t i < 65536 := us_lt (t.drop i) _ (by rw [us_drop t i (by omega)]; exact List.mem_cons_self)
  have hb : un t (i + 2) = (us (t.drop (i + 2))).getD 0 0 := by
   by_cases h3 : i + 2 + 1 < t.length
   ·rw [us_drop t (i + 2) h3]; rfl
   ·rw [List.drop_eq_nil_of_le (by omega)]
    unfold un
    rw [if_neg h3]; rfl
  have hb2 : un t (i + 2) < 65536 := by
   rw [hb]
   cases hq : us (t.drop (i + 2)) with
   | nil => simp
   | cons d l => exact us_lt (t.drop (i + 2)) d (by rw [hq]; exact List.mem_cons_self)
  have single : ∀ c : Nat, ¬ (un t i / 1024 = 54 ∧ un t (i + 2) / 1024 = 55) → c = one (un t i) → (bif decide (m.length + [(c : Int)].length ≤ 35184372088832) then k (((i + 2 : Nat) : Int), m ++ [(c : Int)]) else none) = some (strOfRunes (m ++ (nr (un t i :: us (t.drop (i + 2)))).map fun r : Nat => (r : Int)), 0) := by
   intro c hc hcv
   rw [decide_eq_true (by simp only [List.length_singleton]; omega)]
   simp only [cond_true]
   rw [ih _ ⟨i + 2, rfl, by omega, by omega, by simp only [List.length_append, List.length_singleton]; omega⟩ (by simp only [Int.toNat_natCast]; omega), nr_one (by rw [← hb]; exact hc), hcv]
   simp only [Int.toNat_natCast, List.map_cons, List.append_assoc, List.singleton_append]
  by_cases hp : un t i / 1024 = 54 ∧ un t (i + 2) / 1024 = 55
  ·rw [decide_eq_true (show ((un t i : Nat) : Int) ≥ 55296 by omega), decide_eq_true (show ((un t i : Nat) : Int) ≤ 56319 by omega), decide_eq_true (show ((un t (i + 2) : Nat) : Int) ≥ 56320 by omega), decide_eq_true (show ((un t (i + 2) : Nat) : Int) ≤ 57343 by omega)]
   simp only [cond_true]
   have h3 : i + 2 + 1 < t.length := by
    by_cases h3 : i + 2 + 1 < t.length
    ·exact h3
    ·exfalso
     have := hp.2
     unfold un at this
     rw [if_neg h3] at this
     omega
   have s10 := shl32 (un t i - 55296) 10 1024 rfl (by omega) (by omega)
   rw [show ((10 : Nat) : Int) = 10 from rfl] at s10
   have e0 : IntKind.wrap .i32 (((un t i : Nat) : Int) - 55296) = ((un t i - 55296 : Nat) : Int) := by rw [w32 (by omega) (by omega)]; omega
   have e1 : IntKind.wrap .i32 (IntKind.wrap .i32 (65536 + shlI .i32 (IntKind.wrap .i32 (((un t i : Nat) : Int) - 55296)) 10) + IntKind.wrap .i32 (((un t (i + 2) : Nat) : Int) - 56320)) = ((65536 + un t i % 1024 * 1024 + un t (i + 2) % 1024 : Nat) : Int) := by
    rw [e0, s10, w32 (n := 65536 + _) (by omega) (by omega), w32 (n := ((un t (i + 2) : Nat) : Int) - 56320) (by omega) (by omega), w32 (by omega) (by omega)]; omega
   rw [e1, decide_eq_true (by simp only [List.length_singleton]; omega)]
   simp only [cond_true]
   rw [ih _ ⟨i + 4, rfl, by omega, by omega, by simp only [List.length_append, List.length_singleton]; omega⟩ (by simp only [Int.toNat_natCast]; omega), us_drop t (i + 2) h3, nr_two hp]
   simp only [Int.toNat_natCast, List.map_cons, List.append_assoc, List.singleton_append]
  ·have nopair : (bif decide (((un t i : Nat) : Int) ≥ 55296) then (bif decide (((un t i : Nat) : Int) ≤ 57343) then (bif decide (m.length + [(65533 : Int)].length ≤ 35184372088832) then k (((i + 2 : Nat) : Int), m ++ [(65533 : Int)]) else none) else (bif decide (m.length + [((un t i : Nat) : Int)].length ≤ 35184372088832) then k (((i + 2 : Nat) : Int), m ++ [((un t i : Nat) : Int)]) else none)) else (bif decide (m.length + [((un t i : Nat) : Int)].length ≤ 35184372088832) then k (((i + 2 : Nat) : Int), m ++ [((un t i : Nat) : Int)]) else none)) = some (strOfRunes (m ++ (nr (un t i :: us (t.drop (i + 2)))).map fun r : Nat => (r : Int)), 0) := by
    by_cases q1 : 55296 ≤ un t i
    ·rw [decide_eq_true (show ((un t i : Nat) : Int) ≥ 55296 by omega)]
     by_cases q2 : un t i ≤ 57343
     ·rw [decide_eq_true (show ((un t i : Nat) : Int) ≤ 57343 by omega)]
      exact single 65533 hp (by unfold one; rw [if_pos (by omega)])
     ·rw [decide_eq_false (show ¬ ((un t i : Nat) : Int) ≤ 57343 by omega)]
      exact single (un t i) hp (by unfold one; rw [if_neg (by omega)])
    ·rw [decide_eq_false (show ¬ ((un t i : Nat) : Int) ≥ 55296 by omega)]
     exact single (un t i) hp (by unfold one; rw [if_neg (by omega)])
   by_cases q1 : 55296 ≤ un t i
   ·rw [decide_eq_true (show ((un t i : Nat) : Int) ≥ 55296 by omega)] at nopair ⊢
    by_cases q2 : un t i ≤ 56319
    ·rw [decide_eq_true (show ((un t i : Nat) : Int) ≤ 56319 by omega)]
     by_cases q3 : 56320 ≤ un t (i + 2)
     ·rw [decide_eq_true (show ((un t (i + 2) : Nat) : Int) ≥ 56320 by omega), decide_eq_false (show ¬ ((un t (i + 2) : Nat) : Int) ≤ 57343 by omega)]
      exact nopair
     ·rw [decide_eq_false (show ¬ ((un t (i + 2) : Nat) : Int) ≥ 56320 by omega)]
      exact nopair
    ·rw [decide_eq_false (show ¬ ((un t i : Nat) : Int) ≤ 56319 by omega)]
     exact nopair
   ·rw [decide_eq_false (show ¬ ((un t i : Nat) : Int) ≥ 55296 by omega)] at nopair ⊢
    exact nopair
 ·rw [decide_eq_false (show ¬ (i : Int) < (t.length : Int) by omega), List.drop_eq_nil_of_le (by omega)]
  simp [us, nr]
theorem enc_le (c : Nat) (h : c < 55296 ∨ (57344 ≤ c ∧ c ≤ 1114111)) : encL (c : Int) = if c < 128 then [UInt8.ofNat c] else if c < 2048 then [UInt8.ofNat (192 + c / 64), UInt8.ofNat (128 + c % 64)]
  else if c < 65536 then [UInt8.ofNat (224 + c / 4096), UInt8.ofNat (128 + c / 64 % 64), UInt8.ofNat (128 + c % 64)] else [UInt8.ofNat (240 + c / 262144), UInt8.ofNat (128 + c / 4096 % 64), UInt8.ofNat (128 + c / 64 % 64), UInt8.ofNat (128 + c % 64)] := by
 unfold encL Utf8.encode
 have hv : Utf8.valid (c : Int) = true := by
  rw [valid_nat]
  unfold validN
  simp only [Bool.or_eq_true, Bool.and_eq_true, decide_eq_true_eq]
  omega
 rw [hv]
 simp only [if_true, Int.toNat_natCast]
 split
 ·rfl
 ·split
  ·rfl
  ·split <;> rfl
theorem runeW (n : Nat) (hn : 10 < n) (c : Nat) (h : c < 55296 ∨ (57344 ≤ c ∧ c ≤ 1114111)) : F111 n (c : Int) = some (encL (c : Int)) := by
 rw [enc_le c h]
 obtain ⟨m, rfl⟩ : ∃ m, n = m + 5 := ⟨n - 5, by omega⟩
 unfold F111
 have d1 : (c : Int).tdiv 64 = ((c / 64 : Nat) : Int) := by rw [Int.tdiv_eq_ediv_of_nonneg (by omega)]; omega
 have m1 : (c : Int).tmod 64 = ((c % 64 : Nat) : Int) := by rw [Int.tmod_eq_emod_of_nonneg (by omega)]; omega
 have d2 : ((c / 64 : Nat) : Int).tdiv 64 = ((c / 4096 : Nat) : Int) := by rw [Int.tdiv_eq_ediv_of_nonneg (by omega)]; omega
 have m2 : ((c / 64 : Nat) : Int).tmod 64 = ((c / 64 % 64 : Nat) : Int) := by rw [Int.tmod_eq_emod_of_nonneg (by omega)]; omega
 have d3 : ((c / 4096 : Nat) : Int).tdiv 64 = ((c / 262144 : Nat) : Int) := by rw [Int.tdiv_eq_ediv_of_nonneg (by omega)]; omega
 have m3 : ((c / 4096 : Nat) : Int).tmod 64 = ((c / 4096 % 64 : Nat) : Int) := by rw [Int.tmod_eq_emod_of_nonneg (by omega)]; omega
 have W : ∀ x : Nat, x < 10000000 → IntKind.wrap .i64 (x : Int) = (x : Int) := fun x hx => w64 (by omega) (by omega)
 have A : ∀ (b : Nat) (x : Nat), x < 10000000 → b < 1000 → IntKind.wrap .u8 (IntKind.wrap .i64 ((b : Int) + (x : Int))) = (((b + x) % 256 : Nat) : Int) := fun b x hx hb => by rw [w64 (by omega) (by omega), u8w]; omega
 by_cases h1 : c < 128
 ·rw [decide_eq_true (show (c : Int) < 128 by omega), if_pos h1, u8w]
  have e : ((c : Int) % 256).toNat = c := by omega
  simp only [cond_true, strOf, List.map_cons, List.map_nil, e]
 rw [decide_eq_false (show ¬ (c : Int) < 128 by omega), if_neg h1]
 by_cases h2 : c < 2048
 ·rw [decide_eq_true (show (c : Int) < 2048 by omega), if_pos h2]
  have e : F111_j3 (m + 5) (c : Int) (192, List.replicate 2 0) = some (strOf [IntKind.wrap .u8 (IntKind.wrap .i64 (((192 : Nat) : Int) + IntKind.wrap .i64 ((c : Int).tdiv 64))), IntKind.wrap .u8 (IntKind.wrap .i64 (((128 : Nat) : Int) + (c : Int).tmod 64))]) := by kernel_rfl
  simp only [cond_false, cond_true]
  rw [e, d1, m1, W _ (by omega), A _ _ (by omega) (by omega), A _ _ (by omega) (by omega)]
  simp only [strOf, List.map_cons, List.map_nil, Int.toNat_natCast, Option.some.injEq, List.cons.injEq, and_true]
  exact ⟨by apply UInt8.toNat.inj; simp, by apply UInt8.toNat.inj; simp⟩
 rw [decide_eq_false (show ¬ (c : Int) < 2048 by omega), if_neg h2]
 by_cases h3 : c < 65536
 ·rw [decide_eq_true (show (c : Int) < 65536 by omega), if_pos h3]
  have e : F111_j3 (m + 5) (c : Int) (224, List.replicate 3 0) = some (strOf [IntKind.wrap .u8 (IntKind.wrap .i64 (((224 : Nat) : Int) + IntKind.wrap .i64 ((IntKind.wrap .i64 ((c : Int).tdiv 64)).tdiv 64))), IntKind.wrap .u8 (IntKind.wrap .i64 (((128 : Nat) : Int) + (IntKind.wrap .i64 ((c : Int).tdiv 64)).tmod 64)), IntKind.wrap .u8 (IntKind.wrap .i64 (((128 : Nat) : Int) + (c : Int).tmod 64))]) := by kernel_rfl
  simp only [cond_false, cond_true]
  rw [e, d1, m1, W _ (by omega), d2, m2, W _ (by omega), A _ _ (by omega) (by omega), A _ _ (by omega) (by omega), A _ _ (by omega) (by omega)]
  simp only [strOf, List.map_cons, List.map_nil, Int.toNat_natCast, Option.some.injEq, List.cons.injEq, and_true]
  exact ⟨by apply UInt8.toNat.inj; simp, by apply UInt8.toNat.inj; simp, by apply UInt8.toNat.inj; simp⟩
 rw [decide_eq_false (show ¬ (c : Int) < 65536 by omega), if_neg h3]
 have e : F111_j3 (m + 5) (c : Int) (240, List.replicate 4 0) = some (strOf [IntKind.wrap .u8 (IntKind.wrap .i64 (((240 : Nat) : Int) + IntKind.wrap .i64 ((IntKind.wrap .i64 ((IntKind.wrap .i64 ((c : Int).tdiv 64)).tdiv 64)).tdiv 64))), IntKind.wrap .u8 (IntKind.wrap .i64 (((128 : Nat) : Int) + (IntKind.wrap .i64 ((IntKind.wrap .i64 ((c : Int).tdiv 64)).tdiv 64)).tmod 64)), IntKind.wrap .u8 (IntKind.wrap .i64 (((128 : Nat) : Int) + (IntKind.wrap .i64 ((c : Int).tdiv 64)).tmod 64)), IntKind.wrap .u8 (IntKind.wrap .i64 (((128 : Nat) : Int) + (c : Int).tmod 64))]) := by kernel_rfl
 simp only [cond_false]
 rw [e, d1, m1, W _ (by omega), d2, m2, W _ (by omega), d3, m3, W _ (by omega), A _ _ (by omega) (by omega), A _ _ (by omega) (by omega), A _ _ (by omega) (by omega), A _ _ (by omega) (by omega)]
 simp only [strOf, List.map_cons, List.map_nil, Int.toNat_natCast, Option.some.injEq, List.cons.injEq, and_true]
 exact ⟨by apply UInt8.toNat.inj; simp, by apply UInt8.toNat.inj; simp, by apply UInt8.toNat.inj; simp, by apply UInt8.toNat.inj; simp⟩
theorem enc_len (c : Nat) (h : c < 55296 ∨ (57344 ≤ c ∧ c ≤ 1114111)) : (encL (c : Int)).length ≤ 4 := by
 rw [enc_le c h]
 split
 ·simp
 ·split
  ·simp
  ·split <;> simp
theorem one_ok (c : Nat) (h : c < 65536) : one c < 55296 ∨ (57344 ≤ one c ∧ one c ≤ 1114111) := by
 unfold one
 split <;> omega
def out (l : List Nat) : Tx := strOfRunes (l.map fun r : Nat => (r : Int))
theorem out_cons (c : Nat) (l : List Nat) : out (c :: l) = encL (c : Int) ++ out l := by simp [out, strOfRunes]
theorem unitsR (n : Nat) (hn : 600 < n) (u : List Nat) (hu : ∀ x ∈ u, x < 65536) (hl : u.length ≤ 126) : loopF (F104_l30 n) n (u.map fun r : Nat => (r : Int), []) = some (out (nr u), 0) := by
 refine (loopF_eq (F104_l30 n) (fun d => some (d.2 ++ out (nr (d.1.map fun x => x.toNat)), 0)) (fun d => ∃ u : List Nat, d.1 = (u.map fun r : Nat => (r : Int)) ∧ (∀ x ∈ u, x < 65536) ∧ u.length ≤ 126 ∧ d.2.length + 4 * u.length ≤ 504) (fun d => d.1.length) ?_ n (u.map fun r : Nat => (r : Int), []) ⟨u, rfl, hu, hl, by simp only [List.length_nil]; omega⟩ (by simp; omega)).trans (by
  simp only [List.nil_append, List.map_map]
  have : (fun x : Int => x.toNat) ∘ (fun r : Nat => (r : Int)) = id := by funext x; simp
  rw [this, List.map_id])
 rintro k ⟨_, vo⟩ ⟨u, rfl, hu, hl, hvo⟩ ih
 simp only at hvo
 have back : ∀ l : List Nat, (l.map fun r : Nat => (r : Int)).map (fun x => x.toNat) = l := by
  intro l
  rw [List.map_map]
  have : (fun x : Int => x.toNat) ∘ (fun r : Nat => (r : Int)) = id := by funext x; simp
  rw [this, List.map_id]
 simp only [F104_l30, back, List.length_map]
 cases u with
 | nil => simp [nr, out, strOfRunes]
 | cons c l =>
  have hc : c < 65536 := hu c List.mem_cons_self
  have hl' : ∀ x ∈ l, x < 65536 := fun x hx => hu x (List.mem_cons_of_mem _ hx)
  simp only [List.length_cons] at hl hvo
  rw [decide_eq_true (show (((c :: l).length : Nat) : Int) > 0 by simp only [List.length_cons]; omega), inb_true (show (0 : Int) ≤ 0 by omega) (show (0 : Int) < ((c :: l).length : Nat) by simp only [List.length_cons]; omega)]
  have k1 : IntKind.wrap .i64 ((c : Int).tdiv 1024) = ((c / 1024 : Nat) : Int) := by rw [Int.tdiv_eq_ediv_of_nonneg (by omega), w64 (by omega) (by omega)]; omega
  have k2 : IntKind.wrap .i64 ((c : Int).tdiv 2048) = ((c / 2048 : Nat) : Int) := by rw [Int.tdiv_eq_ediv_of_nonneg (by omega), w64 (by omega) (by omega)]; omega
  have single : ¬ (c / 1024 = 54 ∧ (l.getD 0 0) / 1024 = 55) → F104_j31 n k ((c :: l).map fun r : Nat => (r : Int)) vo false = some (vo ++ out (nr (c :: l)), 0) := by
   intro hp
   have s1 : subB ((c : Int) :: l.map fun r : Nat => (r : Int)).length (some 1) none = true := by simp [subB]; omega
   simp only [F104_j31, F104_j32, List.map_cons, s1, List.drop_succ_cons, List.drop_zero, List.getD_cons_zero, k2, cond_true, cond_false]
   have fin : F111 n ((one c : Nat) : Int) = some (encL ((one c : Nat) : Int)) := runeW n (by omega) _ (one_ok c hc)
   have el := enc_len _ (one_ok c hc)
   have go : ((F111 n ((one c : Nat) : Int)).bind fun y_3 => (bif (decide (vo.length + y_3.length ≤ 9223372036854775807)) then (k ((l.map fun r : Nat => (r : Int)), (vo ++ y_3))) else none)) = some (vo ++ out (nr (c :: l)), 0) := by
    rw [fin, Option.bind_some, decide_eq_true (by omega)]
    simp only [cond_true]
    rw [ih _ ⟨l, rfl, hl', by omega, by simp only [List.length_append]; omega⟩ (by simp only [List.length_map, List.length_cons]; omega), nr_one hp, out_cons]
    simp only [back, List.append_assoc]
   by_cases q : c / 2048 = 27
   ·rw [show (((c / 2048 : Nat) : Int) == 27) = true by rw [beq_iff_eq]; omega]
    have e : one c = 65533 := if_pos q
    rw [e] at go
    exact go
   ·rw [show (((c / 2048 : Nat) : Int) == 27) = false by rw [beq_eq_false_iff_ne]; omega]
    have e : one c = c := if_neg q
    rw [e] at go
    exact go
  simp only [cond_true, List.map_cons, List.getD_cons_zero, k1]
  cases l with
  | nil =>
   rw [decide_eq_false (show ¬ ((([c] : List Nat).length : Nat) : Int) > 1 by simp)]
   exact single (by simp)
  | cons d l =>
   rw [decide_eq_true (show (((c :: d :: l).length : Nat) : Int) > 1 by simp only [List.length_cons]; omega)]
   simp only [cond_true]
   have hd : d < 65536 := hl' d List.mem_cons_self
   have k3 : IntKind.wrap .i64 ((d : Int).tdiv 1024) = ((d / 1024 : Nat) : Int) := by rw [Int.tdiv_eq_ediv_of_nonneg (by omega), w64 (by omega) (by omega)]; omega
   by_cases q1 : c / 1024 = 54
   ·rw [show (((c / 1024 : Nat) : Int) == 54) = true by rw [beq_iff_eq]; omega, inb_true (show (0 : Int) ≤ 1 by omega) (show (1 : Int) < ((c :: d :: l).length : Nat) by simp only [List.length_cons]; omega)]
    simp only [cond_true, List.map_cons, List.getD_cons_succ, List.getD_cons_zero, k3]
    by_cases q2 : d / 1024 = 55
    ·rw [show (((d / 1024 : Nat) : Int) == 55) = true by rw [beq_iff_eq]; omega]
     simp only [List.length_cons] at hl hvo
     have e1 : IntKind.wrap .i64 (IntKind.wrap .i64 (65536 + IntKind.wrap .i64 ((c : Int).tmod 1024 * 1024)) + (d : Int).tmod 1024) = ((65536 + c % 1024 * 1024 + d % 1024 : Nat) : Int) := by
      rw [Int.tmod_eq_emod_of_nonneg (by omega), Int.tmod_eq_emod_of_nonneg (by omega), w64 (n := (c : Int) % 1024 * 1024) (by omega) (by omega), w64 (n := 65536 + _) (by omega) (by omega), w64 (by omega) (by omega)]; omega
     have okc : 65536 + c % 1024 * 1024 + d % 1024 < 55296 ∨ (57344 ≤ 65536 + c % 1024 * 1024 + d % 1024 ∧ 65536 + c % 1024 * 1024 + d % 1024 ≤ 1114111) := by omega
     have el := enc_len _ okc
     have s1 : subB ((c : Int) :: (d : Int) :: l.map fun r : Nat => (r : Int)).length (some 1) none = true := by simp [subB]; omega
     have s2 : subB ((d : Int) :: l.map fun r : Nat => (r : Int)).length (some 1) none = true := by simp [subB]; omega
     have i0 : inb 0 ((d : Int) :: l.map fun r : Nat => (r : Int)).length = true := inb_true (by omega) (by simp only [List.length_cons]; omega)
     simp only [F104_j31, F104_j32, s1, s2, i0, List.drop_succ_cons, List.drop_zero, List.getD_cons_zero, e1, cond_true]
     rw [runeW n (by omega) _ okc, Option.bind_some, decide_eq_true (by omega)]
     simp only [cond_true]
     rw [ih _ ⟨l, rfl, fun x hx => hl' x (List.mem_cons_of_mem _ hx), by omega, by simp only [List.length_append]; omega⟩ (by simp only [List.length_map, List.length_cons]; omega), nr_two ⟨q1, q2⟩, out_cons]
     simp only [back, List.append_assoc]
    ·rw [show (((d / 1024 : Nat) : Int) == 55) = false by rw [beq_eq_false_iff_ne]; omega]
     exact single (fun h => q2 h.2)
   ·rw [show (((c / 1024 : Nat) : Int) == 54) = false by rw [beq_eq_false_iff_ne]; omega]
    exact single (fun h => q1 h.1)
theorem textR (n : Nat) (hn : 600 < n) (t : Tx) (h2 : t.length % 2 = 0) (hl : t.length ≤ 252) : loopF (F104_l25 n) n (t, []) = some (out (nr (us t)), 0) := by
 have hul := us_len t
 refine (loopF_eq (F104_l25 n) (fun d => some (out (nr (us t)), 0)) (fun d => d.1.length % 2 = 0 ∧ d.1.length ≤ 252 ∧ d.2.length ≤ 126 ∧ (us t).map (fun r : Nat => (r : Int)) = d.2 ++ (us d.1).map fun r : Nat => (r : Int)) (fun d => d.1.length) ?_ n (t, []) ⟨h2, hl, by simp, by simp⟩ (by simp only; omega))
 rintro k ⟨t', m⟩ ⟨g2, gl, gm, gu⟩ ih
 simp only at g2 gl gm gu
 simp only [F104_l25]
 match t', g2, gl, gu, ih with
 | [], _, _, gu, ih =>
  have e : (!(([] : Tx) == [])) = false := rfl
  rw [e]
  simp only [cond_false]
  rw [show m = (us t).map (fun r : Nat => (r : Int)) by rw [gu]; simp [us]]
  exact unitsR n hn (us t) (us_lt t) (by omega)
 | [a], g2, _, _, _ => simp at g2
 | a :: b :: t', g2, gl, gu, ih =>
  have e : (!((a :: b :: t') == ([] : Tx))) = true := rfl
  have hml : m.length + ((us (a :: b :: t')).map fun r : Nat => (r : Int)).length ≤ 126 := by
   have := congrArg List.length gu
   rw [List.length_append, List.length_map] at this
   omega
  rw [us, List.map_cons, List.length_cons] at hml
  have ha := UInt8.toNat_lt a
  have hb := UInt8.toNat_lt b
  have sub : subB (a :: b :: t').length (some 2) none = true := by simp [subB]; omega
  have wv : IntKind.wrap .i64 (IntKind.wrap .i64 (((a.toNat : Nat) : Int)) + IntKind.wrap .i64 (256 * IntKind.wrap .i64 (((b.toNat : Nat) : Int)))) = ((a.toNat + 256 * b.toNat : Nat) : Int) := by
   rw [w64 (n := ((a.toNat : Nat) : Int)) (by omega) (by omega), w64 (n := ((b.toNat : Nat) : Int)) (by omega) (by omega), w64 (n := 256 * _) (by omega) (by omega), w64 (by omega) (by omega)]; omega
  rw [e, inb_true (show (0 : Int) ≤ 0 by omega) (show (0 : Int) < ((a :: b :: t').length : Nat) by simp only [List.length_cons]; omega), inb_true (show (0 : Int) ≤ 1 by omega) (show (1 : Int) < ((a :: b :: t').length : Nat) by simp only [List.length_cons]; omega), sub]
  simp only [cond_true, List.getD_cons_zero, List.getD_cons_succ, List.drop_succ_cons, List.drop_zero]
  rw [wv, decide_eq_true (by simp only [List.length_singleton]; omega)]
  simp only [cond_true]
  refine ih _ ⟨?_, ?_, ?_, ?_⟩ ?_
  ·simp only [List.length_cons] at g2 ⊢; omega
  ·simp only [List.length_cons] at gl ⊢; omega
  ·simp only [List.length_append, List.length_singleton]; omega
  ·simp only
   rw [gu, us, List.map_cons, List.append_assoc]; rfl
  ·simp only [List.length_cons]; omega
def narrowV (t : Tx) : Tx × Int := if t.length % 2 = 1 then ([], 4) else if 252 < t.length then ([], 2) else (out (nr (us t)), 0)
theorem narrow1 (n : Nat) (hn : 600 < n) (t : Tx) : F97 n t = some (narrowV t) := by
 unfold F97 narrowV
 rw [Int.tmod_eq_emod_of_nonneg (show (0 : Int) ≤ ((t.length : Nat) : Int) by omega)]
 by_cases h1 : t.length % 2 = 1
 ·rw [if_pos h1, show ((((t.length : Nat) : Int) % 2) != 0) = true by rw [bne_iff_ne]; omega]; rfl
 ·rw [if_neg h1, show ((((t.length : Nat) : Int) % 2) != 0) = false by rw [bne_eq_false_iff_eq]; omega]
  simp only [cond_false]
  by_cases h2 : 252 < t.length
  ·rw [if_pos h2, decide_eq_true (show ((t.length : Nat) : Int) > 252 by omega)]; rfl
  ·rw [if_neg h2, decide_eq_false (show ¬ ((t.length : Nat) : Int) > 252 by omega)]
   exact narrowP n hn t (by omega) (by omega)
theorem narrow2 (n : Nat) (hn : 600 < n) (t : Tx) : F104 n t = some (narrowV t) := by
 unfold F104 narrowV
 rw [Int.tmod_eq_emod_of_nonneg (show (0 : Int) ≤ ((t.length : Nat) : Int) by omega)]
 by_cases h1 : t.length % 2 = 1
 ·rw [if_pos h1, show ((((t.length : Nat) : Int) % 2) == 1) = true by rw [beq_iff_eq]; omega]; rfl
 ·rw [if_neg h1, show ((((t.length : Nat) : Int) % 2) == 1) = false by rw [beq_eq_false_iff_ne]; omega]
  simp only [cond_false]
  by_cases h2 : 252 < t.length
  ·rw [if_pos h2, decide_eq_true (show ((t.length : Nat) : Int) > 252 by omega)]; rfl
  ·rw [if_neg h2, decide_eq_false (show ¬ ((t.length : Nat) : Int) > 252 by omega)]
   exact textR n hn t (by omega) (by omega)
end Go.Proofs.YtghbnolfadnoaaaGreat.UtfG
namespace Go.Proofs.YtghbnolfadnoaaaGreat
open Go Go.RowKit
set_option linter.unusedVariables false
abbrev KT := Int × Int × Int × Int × Int × Int × Int × Int × Int × Int × Int × Int × Int × Int × Int × Int × Int × Int × List CFace × CTx
abbrev RT := Int × Int × Int × Int × Int × Int × Int × Int × Int × Int × Int × Int × Int × Int × Int × Int × Int × Int × Int × Int × Int × List CFace × CTx × Int × Int
abbrev YT := Int × Int × Int × Int × Int × Int × Int × Int × Int × Int × Int × Int × Int × Int × Int × Int × Int × Int × Int × Int × Int × List CFace × CTx × Int × Bool
theorem bandS (a b : Bool) : (bif a then some b else some false) = some (a && b) := by cases a <;> rfl
theorem betw (n : Nat) (x a b : Int) : F17 n x a b = some (decide (a ≤ x) && decide (x ≤ b)) := by
 unfold F17
 exact bandS _ _
theorem betw2 (n : Nat) (x a b : Int) : F90 n x a b = some (decide (a ≤ x) && decide (x ≤ b)) := by
 unfold F90
 exact bandS _ _
section
variable (n : Nat) (st tr ad m0 to du dc ds dp dm dv dq dr dk dn dz df cv cn ca cp : Int) (fs : List CFace) (se : CTx) (er : Int) (s : CTx)
theorem valids : ∃ v, F45 n st tr ad m0 to du dc ds dp dm dv dq dr dk dn dz df cv cn ca cp fs se er = some v ∧ F58 n st tr ad m0 to du dc ds dp dm dv dq dr dk dn dz df cv cn ca cp fs se er = some v ∧ (v = true → 1 ≤ st ∧ st ≤ 9 ∧ 0 ≤ tr ∧ tr ≤ 2) := by
 unfold F45 F58
 simp only [betw, betw2, Option.bind_some, bandS]
 refine ⟨_, rfl, rfl, fun h => ?_⟩
 simp only [Bool.and_eq_true, decide_eq_true_eq] at h
 omega
theorem check_eq (v : Bool) (h : F58 n st tr ad m0 to du dc ds dp dm dv dq dr dk dn dz df cv cn ca cp fs se er = some v) : F28 n st tr ad m0 to du dc ds dp dm dv dq dr dk dn dz df cv cn ca cp fs se er = some (bif !v then 1 else (bif decide (st ≥ 8) then 12 else 0)) := by
 unfold F28
 rw [h]
 cases v
 ·rfl
 ·simp only [Option.bind_some, Bool.not_true, cond_false]
  cases decide (st ≥ 8) <;> rfl
theorem tellT (k : KT) (h43 : F45 n st tr ad m0 to du dc ds dp dm dv dq dr dk dn dz df cv cn ca cp fs se er = some true) (h1 : 1 ≤ st) (h7 : st ≤ 7) (h44 : F46 n st tr ad m0 to du dc ds dp dm dv dq dr dk dn dz df cv cn ca cp fs se er s = some (st, tr, ad, k.1, k.2.1, k.2.2.1, k.2.2.2.1, k.2.2.2.2.1, k.2.2.2.2.2.1, k.2.2.2.2.2.2.1, k.2.2.2.2.2.2.2.1, k.2.2.2.2.2.2.2.2.1, k.2.2.2.2.2.2.2.2.2.1, k.2.2.2.2.2.2.2.2.2.2.1, k.2.2.2.2.2.2.2.2.2.2.2.1, k.2.2.2.2.2.2.2.2.2.2.2.2.1, k.2.2.2.2.2.2.2.2.2.2.2.2.2.1, k.2.2.2.2.2.2.2.2.2.2.2.2.2.2.1, k.2.2.2.2.2.2.2.2.2.2.2.2.2.2.2.1, k.2.2.2.2.2.2.2.2.2.2.2.2.2.2.2.2.1, k.2.2.2.2.2.2.2.2.2.2.2.2.2.2.2.2.2.1, k.2.2.2.2.2.2.2.2.2.2.2.2.2.2.2.2.2.2.1, k.2.2.2.2.2.2.2.2.2.2.2.2.2.2.2.2.2.2.2, er, true)) (hz : st = 5 → k.2.2.2.2.2.2.2.2.2.2.2.2.1 = dz) :
  ∃ r : RT, F14_j13 n 0 (st, tr, ad, m0, to, du, dc, ds, dp, dm, dv, dq, dr, dk, dn, dz, df, cv, cn, ca, cp, se, er, fs) (true, k) = some r ∧ F22 n st tr ad m0 to du dc ds dp dm dv dq dr dk dn dz df cv cn ca cp fs se er s 0 = some r ∧ r.2.2.2.2.2.2.2.2.2.2.2.2.2.2.2.2.2.2.2.2.2.1 = k.2.2.2.2.2.2.2.2.2.2.2.2.2.2.2.2.2.2.1 := by
 obtain ⟨k0, k1, k2, k3, k4, k5, k6, k7, k8, k9, k10, k11, k12, k13, k14, k15, k16, k17, k18, k19⟩ := k
 simp only at h44 hz ⊢
 unfold F22
 rw [h43]
 simp only [Option.bind_some, Bool.not_true, cond_false]
 rw [decide_eq_false (show ¬ st > 7 by omega), h44]
 simp only [Option.bind_some, cond_true, cond_false, BEq.rfl, F14_j13]
 by_cases h5 : st = 5
 ·subst h5
  have := hz rfl
  subst this
  by_cases h0 : k12 = 0
  ·rw [show (k12 == 0) = true by simpa using h0]
   exact ⟨_, rfl, rfl, rfl⟩
  ·rw [show (k12 == 0) = false by simpa using h0]
   exact ⟨_, rfl, rfl, rfl⟩
 ·rw [w64 (n := st + 1) (by omega) (by omega), show (st + 1 == 6) = false by rw [beq_eq_false_iff_ne]; omega, show (st == 5) = false by rw [beq_eq_false_iff_ne]; omega]
  exact ⟨_, rfl, rfl, rfl⟩
theorem tellF (code : Int) (y : YT) (h43 : F45 n st tr ad m0 to du dc ds dp dm dv dq dr dk dn dz df cv cn ca cp fs se er = some true) (h7 : st ≤ 7) (ht : 0 ≤ tr ∧ tr ≤ 2) (h44 : F46 n st tr ad m0 to du dc ds dp dm dv dq dr dk dn dz df cv cn ca cp fs se er s = some y) (hf : y.2.2.2.2.2.2.2.2.2.2.2.2.2.2.2.2.2.2.2.2.2.2.2.2 = false ∨ code ≠ 0) :
  ∃ r : RT, F14_j13 n code (st, tr, ad, m0, to, du, dc, ds, dp, dm, dv, dq, dr, dk, dn, dz, df, cv, cn, ca, cp, se, er, fs) (false, m0, to, du, dc, ds, dp, dm, dv, dq, dr, dk, dn, dz, df, cv, cn, ca, cp, fs, se) = some r ∧ F22 n st tr ad m0 to du dc ds dp dm dv dq dr dk dn dz df cv cn ca cp fs se er s code = some r ∧ r.2.2.2.2.2.2.2.2.2.2.2.2.2.2.2.2.2.2.2.2.2.1 = fs := by
 unfold F22
 rw [h43]
 simp only [Option.bind_some, Bool.not_true, cond_false]
 rw [decide_eq_false (show ¬ st > 7 by omega), h44]
 simp only [Option.bind_some, cond_false, F14_j13]
 rw [w64 (n := tr + 1) (by omega) (by omega)]
 by_cases h2 : tr < 2
 ·rw [decide_eq_true h2, show (tr + 1 == 3) = false by rw [beq_eq_false_iff_ne]; omega]
  simp only [cond_true, cond_false]
  by_cases hc : code = 0
  ·rw [show y.2.2.2.2.2.2.2.2.2.2.2.2.2.2.2.2.2.2.2.2.2.2.2.2 = false from hf.resolve_right (fun h => h hc)]
   exact ⟨_, rfl, rfl, rfl⟩
  ·rw [show (code == 0) = false by rw [beq_eq_false_iff_ne]; exact hc]
   cases y.2.2.2.2.2.2.2.2.2.2.2.2.2.2.2.2.2.2.2.2.2.2.2.2 <;> exact ⟨_, rfl, rfl, rfl⟩
 ·rw [decide_eq_false h2, show (tr + 1 == 3) = true by rw [beq_iff_eq]; omega]
  simp only [cond_true, cond_false]
  by_cases hc : code = 0
  ·rw [show y.2.2.2.2.2.2.2.2.2.2.2.2.2.2.2.2.2.2.2.2.2.2.2.2 = false from hf.resolve_right (fun h => h hc), show (code == 0) = true by rw [beq_iff_eq]; exact hc]
   exact ⟨_, rfl, rfl, rfl⟩
  ·rw [show (code == 0) = false by rw [beq_eq_false_iff_ne]; exact hc]
   cases y.2.2.2.2.2.2.2.2.2.2.2.2.2.2.2.2.2.2.2.2.2.2.2.2 <;> exact ⟨_, rfl, rfl, rfl⟩
def TellG (y : YT) : Prop := (F14 n st tr ad m0 to du dc ds dp dm dv dq dr dk dn dz df cv cn ca cp fs se er s 0 = F14_j13 n 0 (st, tr, ad, m0, to, du, dc, ds, dp, dm, dv, dq, dr, dk, dn, dz, df, cv, cn, ca, cp, se, er, fs) (false, m0, to, du, dc, ds, dp, dm, dv, dq, dr, dk, dn, dz, df, cv, cn, ca, cp, fs, se) ∧ y.2.2.2.2.2.2.2.2.2.2.2.2.2.2.2.2.2.2.2.2.2.2.2.2 = false) ∨ ∃ k : KT, F14 n st tr ad m0 to du dc ds dp dm dv dq dr dk dn dz df cv cn ca cp fs se er s 0 = F14_j13 n 0 (st, tr, ad, m0, to, du, dc, ds, dp, dm, dv, dq, dr, dk, dn, dz, df, cv, cn, ca, cp, se, er, fs) (true, k) ∧ y = (st, tr, ad, k.1, k.2.1, k.2.2.1, k.2.2.2.1, k.2.2.2.2.1, k.2.2.2.2.2.1, k.2.2.2.2.2.2.1, k.2.2.2.2.2.2.2.1, k.2.2.2.2.2.2.2.2.1, k.2.2.2.2.2.2.2.2.2.1, k.2.2.2.2.2.2.2.2.2.2.1, k.2.2.2.2.2.2.2.2.2.2.2.1, k.2.2.2.2.2.2.2.2.2.2.2.2.1, k.2.2.2.2.2.2.2.2.2.2.2.2.2.1, k.2.2.2.2.2.2.2.2.2.2.2.2.2.2.1, k.2.2.2.2.2.2.2.2.2.2.2.2.2.2.2.1, k.2.2.2.2.2.2.2.2.2.2.2.2.2.2.2.2.1, k.2.2.2.2.2.2.2.2.2.2.2.2.2.2.2.2.2.1, k.2.2.2.2.2.2.2.2.2.2.2.2.2.2.2.2.2.2.1, k.2.2.2.2.2.2.2.2.2.2.2.2.2.2.2.2.2.2.2, er, true) ∧ (st = 5 → k.2.2.2.2.2.2.2.2.2.2.2.2.1 = dz) ∧ SmF k.2.2.2.2.2.2.2.2.2.2.2.2.2.2.2.2.2.2.1
end
theorem u8c (x : UInt8) (c : Nat) (hc : c < 256) : (((x.toNat : Nat) : Int) != (c : Int)) = !(x == UInt8.ofNat c) := by
 by_cases h : x = UInt8.ofNat c
 ·subst h
  simp [UInt8.toNat_ofNat', Nat.mod_eq_of_lt hc]
 ·have : x.toNat ≠ c := fun e => h (by rw [← e]; simp)
  rw [show (x == UInt8.ofNat c) = false by simpa using h, Bool.not_false, bne_iff_ne]
  omega
theorem same18 (n : Nat) (st tr ad m0 to du dc ds dp dm dv dq dr dk dn dz df cv cn ca cp : Int) (fs : List CFace) (se : CTx) (er : Int) (hn : 10000000000000 < n) (hs : SmF fs) : F6 n st tr ad m0 to du dc ds dp dm dv dq dr dk dn dz df cv cn ca cp fs se er st tr ad m0 to du dc ds dp dm dv dq dr dk dn dz df cv cn ca cp fs se er = some true := by
 unfold F6
 obtain ⟨h1, h2⟩ := hs
 simp only [BEq.rfl, cond_true, Sh.beq_self]
 rw [sameC n _ _ _ _ _ (by omega) (by omega) (fun f hf => by
  obtain ⟨k1, k2⟩ := h2 f hf
  omega)]
 rfl
set_option linter.unusedSimpArgs false
theorem con4 (n : Nat) (hn : 10 < n) (m : Int) : F81 n [8, 16, 32, 64] m = some (decide (m = 8 ∨ m = 16 ∨ m = 32 ∨ m = 64)) := by
 unfold F81 F101
 have main := loopF_eq (F101_l2 n [8, 16, 32, 64] m) (fun x => some (if m = 8 ∧ x ≤ 0 then 0 else if m = 16 ∧ x ≤ 1 then 1 else if m = 32 ∧ x ≤ 2 then 2 else if m = 64 ∧ x ≤ 3 then 3 else -1)) (fun x => x = 0 ∨ x = 1 ∨ x = 2 ∨ x = 3 ∨ x = 4) (fun x => 4 - x.toNat) ?_ n 0 (.inl rfl) (by simp; omega)
 ·rw [main]
  simp only [Option.bind_some, Option.some.injEq]
  rw [Bool.eq_iff_iff, decide_eq_true_iff, decide_eq_true_iff]
  constructor
  ·intro h
   split at h
   ·omega
   ·split at h
    ·omega
    ·split at h
     ·omega
     ·split at h
      ·omega
      ·omega
  ·intro h
   split
   ·omega
   ·split
    ·omega
    ·split
     ·omega
     ·split
      ·omega
      ·omega
 rintro kk x hx ih
 rcases hx with rfl | rfl | rfl | rfl | rfl
 ·show (bif m == 8 then some 0 else kk 1) = _
  by_cases h : m = 8
  ·rw [show (m == 8) = true by simpa using h, if_pos ⟨h, by omega⟩]; rfl
  ·rw [show (m == 8) = false by simpa using h, if_neg (fun hh => h hh.1)]
   have := ih 1 (.inr (.inl rfl)) (by simp)
   simp only [cond_false]
   rw [this, if_neg (fun hh => h hh.1)]
   simp
 ·show (bif m == 16 then some 1 else kk 2) = _
  rw [if_neg (fun hh => by omega)]
  by_cases h : m = 16
  ·rw [show (m == 16) = true by simpa using h, if_pos ⟨h, by omega⟩]; rfl
  ·rw [show (m == 16) = false by simpa using h, if_neg (fun hh => h hh.1)]
   have := ih 2 (.inr (.inr (.inl rfl))) (by simp)
   simp only [cond_false]
   rw [this, if_neg (fun hh => by omega), if_neg (fun hh => h hh.1)]
   simp
 ·show (bif m == 32 then some 2 else kk 3) = _
  rw [if_neg (fun hh => by omega), if_neg (fun hh => by omega)]
  by_cases h : m = 32
  ·rw [show (m == 32) = true by simpa using h, if_pos ⟨h, by omega⟩]; rfl
  ·rw [show (m == 32) = false by simpa using h, if_neg (fun hh => h hh.1)]
   have := ih 3 (.inr (.inr (.inr (.inl rfl)))) (by simp)
   simp only [cond_false]
   rw [this, if_neg (fun hh => by omega), if_neg (fun hh => by omega), if_neg (fun hh => h hh.1)]
   simp
 ·show (bif m == 64 then some 3 else kk 4) = _
  rw [if_neg (fun hh => by omega), if_neg (fun hh => by omega), if_neg (fun hh => by omega)]
  by_cases h : m = 64
  ·rw [show (m == 64) = true by simpa using h, if_pos ⟨h, by omega⟩]; rfl
  ·rw [show (m == 64) = false by simpa using h, if_neg (fun hh => h hh.1)]
   have := ih 4 (.inr (.inr (.inr (.inr rfl)))) (by simp)
   simp only [cond_false]
   rw [this, if_neg (fun hh => by omega), if_neg (fun hh => by omega), if_neg (fun hh => by omega), if_neg (fun hh => h hh.1)]
 ·show (some (-1 : Int)) = _
  rw [if_neg (fun hh => by omega), if_neg (fun hh => by omega), if_neg (fun hh => by omega), if_neg (fun hh => by omega)]
theorem tell2 (n : Nat) (tr ad m0 to du dc ds dp dm dv dq dr dk dn dz df cv cn ca cp : Int) (fs : List CFace) (se : CTx) (er : Int) (s : CTx) (hs : SmF fs) (hc : F33 n 2 tr ad m0 to du dc ds dp dm dv dq dr dk dn dz df cv cn ca cp fs se er = some (2, tr, ad, m0, to, du, dc, ds, dp, dm, dv, dq, dr, dk, dn, dz, df, cv, cn, ca, cp, se, er, fs)) (hk : F28 n 2 tr ad m0 to du dc ds dp dm dv dq dr dk dn dz df cv cn ca cp fs se er = some 0) : ∃ y : YT, F46 n 2 tr ad m0 to du dc ds dp dm dv dq dr dk dn dz df cv cn ca cp fs se er s = some y ∧ TellG n 2 tr ad m0 to du dc ds dp dm dv dq dr dk dn dz df cv cn ca cp fs se er s y := by
 refine ⟨(2, tr, ad, m0, to, du, dc, ds, dp, dm, dv, dq, dr, dk, dn, dz, df, cv, cn, ca, cp, fs, se, er, s == ([] : CTx)), rfl, ?_⟩
 have e : F14 n 2 tr ad m0 to du dc ds dp dm dv dq dr dk dn dz df cv cn ca cp fs se er s 0 = F14_j13 n 0 (2, tr, ad, m0, to, du, dc, ds, dp, dm, dv, dq, dr, dk, dn, dz, df, cv, cn, ca, cp, se, er, fs) ((s == ([] : CTx)), m0, to, du, dc, ds, dp, dm, dv, dq, dr, dk, dn, dz, df, cv, cn, ca, cp, fs, se) := by
  unfold F14
  rw [hc]
  simp only [Option.bind_some]
  rw [hk]
  rfl
 unfold TellG
 rw [e]
 cases (s == ([] : CTx))
 ·exact .inl ⟨rfl, rfl⟩
 ·exact .inr ⟨(m0, to, du, dc, ds, dp, dm, dv, dq, dr, dk, dn, dz, df, cv, cn, ca, cp, fs, se), rfl, rfl, fun h5 => by omega, hs⟩
theorem tell7 (n : Nat) (tr ad m0 to du dc ds dp dm dv dq dr dk dn dz df cv cn ca cp : Int) (fs : List CFace) (se : CTx) (er : Int) (s : CTx) (hs : SmF fs) (hc : F33 n 7 tr ad m0 to du dc ds dp dm dv dq dr dk dn dz df cv cn ca cp fs se er = some (7, tr, ad, m0, to, du, dc, ds, dp, dm, dv, dq, dr, dk, dn, dz, df, cv, cn, ca, cp, se, er, fs)) (hk : F28 n 7 tr ad m0 to du dc ds dp dm dv dq dr dk dn dz df cv cn ca cp fs se er = some 0) : ∃ y : YT, F46 n 7 tr ad m0 to du dc ds dp dm dv dq dr dk dn dz df cv cn ca cp fs se er s = some y ∧ TellG n 7 tr ad m0 to du dc ds dp dm dv dq dr dk dn dz df cv cn ca cp fs se er s y := by
 refine ⟨(7, tr, ad, m0, to, du, dc, ds, dp, dm, dv, dq, dr, dk, dn, dz, df, cv, cn, ca, cp, fs, se, er, s == ([] : CTx)), rfl, ?_⟩
 have e : F14 n 7 tr ad m0 to du dc ds dp dm dv dq dr dk dn dz df cv cn ca cp fs se er s 0 = F14_j13 n 0 (7, tr, ad, m0, to, du, dc, ds, dp, dm, dv, dq, dr, dk, dn, dz, df, cv, cn, ca, cp, se, er, fs) ((s == ([] : CTx)), m0, to, du, dc, ds, dp, dm, dv, dq, dr, dk, dn, dz, df, cv, cn, ca, cp, fs, se) := by
  unfold F14
  rw [hc]
  simp only [Option.bind_some]
  rw [hk]
  rfl
 unfold TellG
 rw [e]
 cases (s == ([] : CTx))
 ·exact .inl ⟨rfl, rfl⟩
 ·exact .inr ⟨(m0, to, du, dc, ds, dp, dm, dv, dq, dr, dk, dn, dz, df, cv, cn, ca, cp, fs, se), rfl, rfl, fun h5 => by omega, hs⟩
theorem devSame (n : Nat) (hn : 200 < n) (s : CTx) : ∃ r, F68 n s = some r ∧ F82 n s = some r := by
 obtain ⟨mm, rfl⟩ : ∃ mm, n = mm + 200 := ⟨n - 200, by omega⟩
 by_cases hl : 18 ≤ s.length
 ·exact ⟨_, DevG.v20 s hl, DevG.v21 s hl⟩
 ·refine ⟨(0, 0, 0, 0, 0, 0, 0, 0, 0, 0, 0, 0, 3), ?_, ?_⟩
  ·unfold F68
   rw [decide_eq_true (show ((s.length : Nat) : Int) < 18 by omega)]; rfl
  ·unfold F82
   rw [decide_eq_true (show ((s.length : Nat) : Int) < 18 by omega)]; rfl
theorem tell3 (n : Nat) (hn : 200 < n) (tr ad m0 to du dc ds dp dm dv dq dr dk dn dz df cv cn ca cp : Int) (fs : List CFace) (se : CTx) (er : Int) (s : CTx) (hs : SmF fs) (hc : F33 n 3 tr ad m0 to du dc ds dp dm dv dq dr dk dn dz df cv cn ca cp fs se er = some (3, tr, ad, m0, to, du, dc, ds, dp, dm, dv, dq, dr, dk, dn, dz, df, cv, cn, ca, cp, se, er, fs)) (hk : F28 n 3 tr ad m0 to du dc ds dp dm dv dq dr dk dn dz df cv cn ca cp fs se er = some 0) : ∃ y : YT, F46 n 3 tr ad m0 to du dc ds dp dm dv dq dr dk dn dz df cv cn ca cp fs se er s = some y ∧ TellG n 3 tr ad m0 to du dc ds dp dm dv dq dr dk dn dz df cv cn ca cp fs se er s y := by
 obtain ⟨r, e1, e2⟩ := devSame n hn s
 by_cases h0 : r.2.2.2.2.2.2.2.2.2.2.2.2 = 0
 ·by_cases h4 : r.2.2.2.2.1 = m0
  ·have h4' : m0 = r.2.2.2.2.1 := h4.symm
   by_cases h1 : r.2.2.2.2.2.2.2.2.2.2.2.1 = 1
   ·refine ⟨(3, tr, ad, m0, to, r.1, r.2.1, r.2.2.1, r.2.2.2.1, r.2.2.2.2.1, r.2.2.2.2.2.1, r.2.2.2.2.2.2.1, r.2.2.2.2.2.2.2.1, r.2.2.2.2.2.2.2.2.1, r.2.2.2.2.2.2.2.2.2.1, r.2.2.2.2.2.2.2.2.2.2.1, r.2.2.2.2.2.2.2.2.2.2.2.1, cv, cn, ca, cp, fs, se, er, true), ?_, ?_⟩
    ·unfold F46 F46_j4
     simp only [show ((3 : Int) == 1) = false from rfl, show ((3 : Int) == 2) = false from rfl, show ((3 : Int) == 3) = true from rfl, show ((3 : Int) == 4) = false from rfl, show ((3 : Int) == 5) = false from rfl, show ((3 : Int) == 6) = false from rfl, show ((3 : Int) == 7) = false from rfl, cond_false, cond_true, e2, Option.bind_some, show (r.2.2.2.2.2.2.2.2.2.2.2.2 == 0) = true by simpa using h0, show (m0 == r.2.2.2.2.1) = true by simpa using h4', show (r.2.2.2.2.2.2.2.2.2.2.2.1 == 1) = true by simpa using h1]
     rfl
    ·have e : F14 n 3 tr ad m0 to du dc ds dp dm dv dq dr dk dn dz df cv cn ca cp fs se er s 0 = F14_j13 n 0 (3, tr, ad, m0, to, du, dc, ds, dp, dm, dv, dq, dr, dk, dn, dz, df, cv, cn, ca, cp, se, er, fs) (true, m0, to, r.1, r.2.1, r.2.2.1, r.2.2.2.1, r.2.2.2.2.1, r.2.2.2.2.2.1, r.2.2.2.2.2.2.1, r.2.2.2.2.2.2.2.1, r.2.2.2.2.2.2.2.2.1, r.2.2.2.2.2.2.2.2.2.1, r.2.2.2.2.2.2.2.2.2.2.1, r.2.2.2.2.2.2.2.2.2.2.2.1, cv, cn, ca, cp, fs, se) := by
      unfold F14
      rw [hc]
      simp only [Option.bind_some]
      rw [hk]
      simp only [Option.bind_some, bne_self_eq_false, cond_false, cond_true, show ((0 : Int) == 0) = true from rfl, show ((3 : Int) == 1) = false from rfl, show ((3 : Int) == 2) = false from rfl, show ((3 : Int) == 3) = true from rfl, show ((3 : Int) == 4) = false from rfl, show ((3 : Int) == 5) = false from rfl, show ((3 : Int) == 6) = false from rfl, e1, show (r.2.2.2.2.2.2.2.2.2.2.2.2 != 0) = false by simpa using h0, show (r.2.2.2.2.1 != m0) = false by simpa using h4, show (r.2.2.2.2.2.2.2.2.2.2.2.1 != 1) = false by simpa using h1]
     unfold TellG
     rw [e]
     exact .inr ⟨(m0, to, r.1, r.2.1, r.2.2.1, r.2.2.2.1, r.2.2.2.2.1, r.2.2.2.2.2.1, r.2.2.2.2.2.2.1, r.2.2.2.2.2.2.2.1, r.2.2.2.2.2.2.2.2.1, r.2.2.2.2.2.2.2.2.2.1, r.2.2.2.2.2.2.2.2.2.2.1, r.2.2.2.2.2.2.2.2.2.2.2.1, cv, cn, ca, cp, fs, se), rfl, rfl, fun h5 => by omega, hs⟩
   ·refine ⟨(3, tr, ad, m0, to, r.1, r.2.1, r.2.2.1, r.2.2.2.1, r.2.2.2.2.1, r.2.2.2.2.2.1, r.2.2.2.2.2.2.1, r.2.2.2.2.2.2.2.1, r.2.2.2.2.2.2.2.2.1, r.2.2.2.2.2.2.2.2.2.1, r.2.2.2.2.2.2.2.2.2.2.1, r.2.2.2.2.2.2.2.2.2.2.2.1, cv, cn, ca, cp, fs, se, er, false), ?_, ?_⟩
    ·unfold F46 F46_j4
     simp only [show ((3 : Int) == 1) = false from rfl, show ((3 : Int) == 2) = false from rfl, show ((3 : Int) == 3) = true from rfl, show ((3 : Int) == 4) = false from rfl, show ((3 : Int) == 5) = false from rfl, show ((3 : Int) == 6) = false from rfl, show ((3 : Int) == 7) = false from rfl, cond_false, cond_true, e2, Option.bind_some, show (r.2.2.2.2.2.2.2.2.2.2.2.2 == 0) = true by simpa using h0, show (m0 == r.2.2.2.2.1) = true by simpa using h4', show (r.2.2.2.2.2.2.2.2.2.2.2.1 == 1) = false by simpa using h1]
     rfl
    ·have e : F14 n 3 tr ad m0 to du dc ds dp dm dv dq dr dk dn dz df cv cn ca cp fs se er s 0 = F14_j13 n 0 (3, tr, ad, m0, to, du, dc, ds, dp, dm, dv, dq, dr, dk, dn, dz, df, cv, cn, ca, cp, se, er, fs) (false, m0, to, du, dc, ds, dp, dm, dv, dq, dr, dk, dn, dz, df, cv, cn, ca, cp, fs, se) := by
      unfold F14
      rw [hc]
      simp only [Option.bind_some]
      rw [hk]
      simp only [Option.bind_some, bne_self_eq_false, cond_false, cond_true, show ((0 : Int) == 0) = true from rfl, show ((3 : Int) == 1) = false from rfl, show ((3 : Int) == 2) = false from rfl, show ((3 : Int) == 3) = true from rfl, show ((3 : Int) == 4) = false from rfl, show ((3 : Int) == 5) = false from rfl, show ((3 : Int) == 6) = false from rfl, e1, show (r.2.2.2.2.2.2.2.2.2.2.2.2 != 0) = false by simpa using h0, show (r.2.2.2.2.1 != m0) = false by simpa using h4, show (r.2.2.2.2.2.2.2.2.2.2.2.1 != 1) = true by simpa using h1]
     unfold TellG
     rw [e]
     exact .inl ⟨rfl, rfl⟩
  ·have h4' : ¬ m0 = r.2.2.2.2.1 := fun h => h4 h.symm
   ·refine ⟨(3, tr, ad, m0, to, r.1, r.2.1, r.2.2.1, r.2.2.2.1, r.2.2.2.2.1, r.2.2.2.2.2.1, r.2.2.2.2.2.2.1, r.2.2.2.2.2.2.2.1, r.2.2.2.2.2.2.2.2.1, r.2.2.2.2.2.2.2.2.2.1, r.2.2.2.2.2.2.2.2.2.2.1, r.2.2.2.2.2.2.2.2.2.2.2.1, cv, cn, ca, cp, fs, se, er, false), ?_, ?_⟩
    ·unfold F46 F46_j4
     simp only [show ((3 : Int) == 1) = false from rfl, show ((3 : Int) == 2) = false from rfl, show ((3 : Int) == 3) = true from rfl, show ((3 : Int) == 4) = false from rfl, show ((3 : Int) == 5) = false from rfl, show ((3 : Int) == 6) = false from rfl, show ((3 : Int) == 7) = false from rfl, cond_false, cond_true, e2, Option.bind_some, show (r.2.2.2.2.2.2.2.2.2.2.2.2 == 0) = true by simpa using h0, show (m0 == r.2.2.2.2.1) = false by simpa using h4']
     rfl
    ·have e : F14 n 3 tr ad m0 to du dc ds dp dm dv dq dr dk dn dz df cv cn ca cp fs se er s 0 = F14_j13 n 0 (3, tr, ad, m0, to, du, dc, ds, dp, dm, dv, dq, dr, dk, dn, dz, df, cv, cn, ca, cp, se, er, fs) (false, m0, to, du, dc, ds, dp, dm, dv, dq, dr, dk, dn, dz, df, cv, cn, ca, cp, fs, se) := by
      unfold F14
      rw [hc]
      simp only [Option.bind_some]
      rw [hk]
      simp only [Option.bind_some, bne_self_eq_false, cond_false, cond_true, show ((0 : Int) == 0) = true from rfl, show ((3 : Int) == 1) = false from rfl, show ((3 : Int) == 2) = false from rfl, show ((3 : Int) == 3) = true from rfl, show ((3 : Int) == 4) = false from rfl, show ((3 : Int) == 5) = false from rfl, show ((3 : Int) == 6) = false from rfl, e1, show (r.2.2.2.2.2.2.2.2.2.2.2.2 != 0) = false by simpa using h0, show (r.2.2.2.2.1 != m0) = true by simpa using h4]
     unfold TellG
     rw [e]
     exact .inl ⟨rfl, rfl⟩
 ·refine ⟨(3, tr, ad, m0, to, r.1, r.2.1, r.2.2.1, r.2.2.2.1, r.2.2.2.2.1, r.2.2.2.2.2.1, r.2.2.2.2.2.2.1, r.2.2.2.2.2.2.2.1, r.2.2.2.2.2.2.2.2.1, r.2.2.2.2.2.2.2.2.2.1, r.2.2.2.2.2.2.2.2.2.2.1, r.2.2.2.2.2.2.2.2.2.2.2.1, cv, cn, ca, cp, fs, se, er, false), ?_, ?_⟩
  ·unfold F46 F46_j4
   simp only [show ((3 : Int) == 1) = false from rfl, show ((3 : Int) == 2) = false from rfl, show ((3 : Int) == 3) = true from rfl, show ((3 : Int) == 4) = false from rfl, show ((3 : Int) == 5) = false from rfl, show ((3 : Int) == 6) = false from rfl, show ((3 : Int) == 7) = false from rfl, cond_false, cond_true, e2, Option.bind_some, show (r.2.2.2.2.2.2.2.2.2.2.2.2 == 0) = false by simpa using h0]
   rfl
  ·have e : F14 n 3 tr ad m0 to du dc ds dp dm dv dq dr dk dn dz df cv cn ca cp fs se er s 0 = F14_j13 n 0 (3, tr, ad, m0, to, du, dc, ds, dp, dm, dv, dq, dr, dk, dn, dz, df, cv, cn, ca, cp, se, er, fs) (false, m0, to, du, dc, ds, dp, dm, dv, dq, dr, dk, dn, dz, df, cv, cn, ca, cp, fs, se) := by
    unfold F14
    rw [hc]
    simp only [Option.bind_some]
    rw [hk]
    simp only [Option.bind_some, bne_self_eq_false, cond_false, cond_true, show ((0 : Int) == 0) = true from rfl, show ((3 : Int) == 1) = false from rfl, show ((3 : Int) == 2) = false from rfl, show ((3 : Int) == 3) = true from rfl, show ((3 : Int) == 4) = false from rfl, show ((3 : Int) == 5) = false from rfl, show ((3 : Int) == 6) = false from rfl, e1, show (r.2.2.2.2.2.2.2.2.2.2.2.2 != 0) = true by simpa using h0]
   unfold TellG
   rw [e]
   exact .inl ⟨rfl, rfl⟩
set_option linter.unusedSimpArgs false
theorem cT {α : Type} (c : Bool) (a b : α) (h : c = true) : cond c a b = a := by cases h; rfl
theorem cF {α : Type} (c : Bool) (a b : α) (h : c = false) : cond c a b = b := by cases h; rfl
theorem bS {α β : Type} (x : Option α) (a : α) (f : α → Option β) (h : x = some a) : x.bind f = f a := by cases h; rfl
theorem textSame (n : Nat) (hn : 600 < n) (t : CTx) : ∃ r, F70 n t = some r ∧ F84 n t = some r := by
 have e : F70 n t = F84 n t := by
  unfold F70 F84
  simp only [UtfG.narrow1 n hn, UtfG.narrow2 n hn]
 rw [e]
 unfold F84
 by_cases h2 : t.length < 2
 ·rw [decide_eq_true (show ((t.length : Nat) : Int) < 2 by omega)]
  exact ⟨_, rfl, rfl⟩
 ·rw [decide_eq_false (show ¬ ((t.length : Nat) : Int) < 2 by omega), inb_true (by omega) (show (0 : Int) < t.length by omega), inb_true (by omega) (show (1 : Int) < t.length by omega), show subB t.length (some 2) none = true by simp [subB]; omega]
  simp only [cond_true, cond_false, UtfG.narrow2 n hn, Option.bind_some]
  cases ((IntKind.wrap .i64 ((((t.getD 0 0).toNat : Nat) : Int))) != ((t.length : Nat) : Int))
  ·cases ((((t.getD 1 0).toNat : Nat) : Int) != (3 : Int))
   ·exact ⟨_, rfl, rfl⟩
   ·exact ⟨_, rfl, rfl⟩
  ·exact ⟨_, rfl, rfl⟩
theorem tell6 (n : Nat) (hn : 600 < n) (tr ad m0 to du dc ds dp dm dv dq dr dk dn dz df cv cn ca cp : Int) (fs : List CFace) (se : CTx) (er : Int) (s : CTx) (hs : SmF fs) (hc : F33 n 6 tr ad m0 to du dc ds dp dm dv dq dr dk dn dz df cv cn ca cp fs se er = some (6, tr, ad, m0, to, du, dc, ds, dp, dm, dv, dq, dr, dk, dn, dz, df, cv, cn, ca, cp, se, er, fs)) (hk : F28 n 6 tr ad m0 to du dc ds dp dm dv dq dr dk dn dz df cv cn ca cp fs se er = some 0) : ∃ y : YT, F46 n 6 tr ad m0 to du dc ds dp dm dv dq dr dk dn dz df cv cn ca cp fs se er s = some y ∧ TellG n 6 tr ad m0 to du dc ds dp dm dv dq dr dk dn dz df cv cn ca cp fs se er s y := by
 have q0 : ((0 : Int) == 0) = true := rfl
 have q1 : ((6 : Int) == 1) = false := rfl
 have q2 : ((6 : Int) == 2) = false := rfl
 have q3 : ((6 : Int) == 3) = false := rfl
 have q4 : ((6 : Int) == 4) = false := rfl
 have q5 : ((6 : Int) == 5) = false := rfl
 have q6 : ((6 : Int) == 6) = true := rfl
 have q7 : ((6 : Int) == 7) = false := rfl
 obtain ⟨r, e1, e2⟩ := textSame n hn s
 refine ⟨(6, tr, ad, m0, to, du, dc, ds, dp, dm, dv, dq, dr, dk, dn, dz, df, cv, cn, ca, cp, fs, r.1, er, r.2 == 0), ?_, ?_⟩
 ·unfold F46 F46_j4
  simp only [q1, q2, q3, q4, q5, q6, q7, cond_false, e2, Option.bind_some]
 ·by_cases h0 : r.2 = 0
  ·have e : F14 n 6 tr ad m0 to du dc ds dp dm dv dq dr dk dn dz df cv cn ca cp fs se er s 0 = F14_j13 n 0 (6, tr, ad, m0, to, du, dc, ds, dp, dm, dv, dq, dr, dk, dn, dz, df, cv, cn, ca, cp, se, er, fs) (true, m0, to, du, dc, ds, dp, dm, dv, dq, dr, dk, dn, dz, df, cv, cn, ca, cp, fs, r.1) := by
    unfold F14
    rw [hc]
    simp only [Option.bind_some]
    rw [hk]
    rw [Option.bind_some, bne_self_eq_false, cF _ _ _ rfl, cT _ _ _ q0, cF _ _ _ q1, cF _ _ _ q3, cF _ _ _ q4, cF _ _ _ q5, cT _ _ _ q6, bS _ _ _ e1, cF _ _ _ (show (r.2 != 0) = false by simpa using h0)]
   unfold TellG
   rw [e, show (r.2 == 0) = true by simpa using h0]
   exact .inr ⟨(m0, to, du, dc, ds, dp, dm, dv, dq, dr, dk, dn, dz, df, cv, cn, ca, cp, fs, r.1), rfl, rfl, fun h5 => by omega, hs⟩
  ·have e : F14 n 6 tr ad m0 to du dc ds dp dm dv dq dr dk dn dz df cv cn ca cp fs se er s 0 = F14_j13 n 0 (6, tr, ad, m0, to, du, dc, ds, dp, dm, dv, dq, dr, dk, dn, dz, df, cv, cn, ca, cp, se, er, fs) (false, m0, to, du, dc, ds, dp, dm, dv, dq, dr, dk, dn, dz, df, cv, cn, ca, cp, fs, se) := by
    unfold F14
    rw [hc]
    simp only [Option.bind_some]
    rw [hk]
    rw [Option.bind_some, bne_self_eq_false, cF _ _ _ rfl, cT _ _ _ q0, cF _ _ _ q1, cF _ _ _ q3, cF _ _ _ q4, cF _ _ _ q5, cT _ _ _ q6, bS _ _ _ e1, cT _ _ _ (show (r.2 != 0) = true by simpa using h0)]
   unfold TellG
   rw [e, show (r.2 == 0) = false by simpa using h0]
   exact .inl ⟨rfl, rfl⟩
theorem tell5 (n : Nat) (hn : 2000 < n) (tr ad m0 to du dc ds dp dm dv dq dr dk dn dz df cv cn ca cp : Int) (fs : List CFace) (se : CTx) (er : Int) (s : CTx) (hs : SmF fs) (hc : F33 n 5 tr ad m0 to du dc ds dp dm dv dq dr dk dn dz df cv cn ca cp fs se er = some (5, tr, ad, m0, to, du, dc, ds, dp, dm, dv, dq, dr, dk, dn, dz, df, cv, cn, ca, cp, se, er, fs)) (hk : F28 n 5 tr ad m0 to du dc ds dp dm dv dq dr dk dn dz df cv cn ca cp fs se er = some 0) : ∃ y : YT, F46 n 5 tr ad m0 to du dc ds dp dm dv dq dr dk dn dz df cv cn ca cp fs se er s = some y ∧ TellG n 5 tr ad m0 to du dc ds dp dm dv dq dr dk dn dz df cv cn ca cp fs se er s y := by
 have q0 : ((0 : Int) == 0) = true := rfl
 have q1 : ((5 : Int) == 1) = false := rfl
 have q2 : ((5 : Int) == 2) = false := rfl
 have q3 : ((5 : Int) == 3) = false := rfl
 have q4 : ((5 : Int) == 4) = false := rfl
 have q5 : ((5 : Int) == 5) = true := rfl
 have q6 : ((5 : Int) == 6) = false := rfl
 have q7 : ((5 : Int) == 7) = false := rfl
 obtain ⟨b1, b2⟩ := rdP_small s
 have hS : SmF (rdP s).2.2.2.2.1 := ⟨by omega, fun f hf => by have := b2 f hf; omega⟩
 have e1 := readP n hn s
 have e2 := readR n hn s
 rw [rd_same] at e2
 generalize rdP s = q at e1 e2 hS
 by_cases h0 : q.2.2.2.2.2 = 0
 ·by_cases hl : ((s.length : Nat) : Int) = to
  ·refine ⟨(5, tr, ad, m0, to, du, dc, ds, dp, dm, dv, dq, dr, dk, dn, dz, df, q.1, q.2.1, q.2.2.1, q.2.2.2.1, q.2.2.2.2.1, se, er, true), ?_, ?_⟩
   ·unfold F46 F46_j4
    simp only [q1, q2, q3, q4, q5, q6, q7, cond_false, cond_true, e2, Option.bind_some, show (q.2.2.2.2.2 == 0) = true by simpa using h0, show (((s.length : Nat) : Int) == to) = true by simpa using hl]
   ·have e : F14 n 5 tr ad m0 to du dc ds dp dm dv dq dr dk dn dz df cv cn ca cp fs se er s 0 = F14_j13 n 0 (5, tr, ad, m0, to, du, dc, ds, dp, dm, dv, dq, dr, dk, dn, dz, df, cv, cn, ca, cp, se, er, fs) (true, m0, to, du, dc, ds, dp, dm, dv, dq, dr, dk, dn, dz, df, q.1, q.2.1, q.2.2.1, q.2.2.2.1, q.2.2.2.2.1, se) := by
     unfold F14
     rw [hc]
     simp only [Option.bind_some]
     rw [hk]
     rw [Option.bind_some, bne_self_eq_false, cF _ _ _ rfl, cT _ _ _ q0, cF _ _ _ q1, cF _ _ _ q3, cF _ _ _ q4, cT _ _ _ q5, bS _ _ _ e1, cF _ _ _ (show (q.2.2.2.2.2 != 0) = false by simpa using h0), cF _ _ _ (show (((s.length : Nat) : Int) != to) = false by simpa using hl)]
    unfold TellG
    rw [e]
    exact .inr ⟨(m0, to, du, dc, ds, dp, dm, dv, dq, dr, dk, dn, dz, df, q.1, q.2.1, q.2.2.1, q.2.2.2.1, q.2.2.2.2.1, se), rfl, rfl, fun h5 => rfl, hS⟩
  ·refine ⟨(5, tr, ad, m0, to, du, dc, ds, dp, dm, dv, dq, dr, dk, dn, dz, df, q.1, q.2.1, q.2.2.1, q.2.2.2.1, q.2.2.2.2.1, se, er, false), ?_, ?_⟩
   ·unfold F46 F46_j4
    simp only [q1, q2, q3, q4, q5, q6, q7, cond_false, cond_true, e2, Option.bind_some, show (q.2.2.2.2.2 == 0) = true by simpa using h0, show (((s.length : Nat) : Int) == to) = false by simpa using hl]
   ·have e : F14 n 5 tr ad m0 to du dc ds dp dm dv dq dr dk dn dz df cv cn ca cp fs se er s 0 = F14_j13 n 0 (5, tr, ad, m0, to, du, dc, ds, dp, dm, dv, dq, dr, dk, dn, dz, df, cv, cn, ca, cp, se, er, fs) (false, m0, to, du, dc, ds, dp, dm, dv, dq, dr, dk, dn, dz, df, cv, cn, ca, cp, fs, se) := by
     unfold F14
     rw [hc]
     simp only [Option.bind_some]
     rw [hk]
     rw [Option.bind_some, bne_self_eq_false, cF _ _ _ rfl, cT _ _ _ q0, cF _ _ _ q1, cF _ _ _ q3, cF _ _ _ q4, cT _ _ _ q5, bS _ _ _ e1, cF _ _ _ (show (q.2.2.2.2.2 != 0) = false by simpa using h0), cT _ _ _ (show (((s.length : Nat) : Int) != to) = true by simpa using hl)]
    unfold TellG
    rw [e]
    exact .inl ⟨rfl, rfl⟩
 ·refine ⟨(5, tr, ad, m0, to, du, dc, ds, dp, dm, dv, dq, dr, dk, dn, dz, df, q.1, q.2.1, q.2.2.1, q.2.2.2.1, q.2.2.2.2.1, se, er, false), ?_, ?_⟩
  ·unfold F46 F46_j4
   simp only [q1, q2, q3, q4, q5, q6, q7, cond_false, cond_true, e2, Option.bind_some, show (q.2.2.2.2.2 == 0) = false by simpa using h0]
  ·have e : F14 n 5 tr ad m0 to du dc ds dp dm dv dq dr dk dn dz df cv cn ca cp fs se er s 0 = F14_j13 n 0 (5, tr, ad, m0, to, du, dc, ds, dp, dm, dv, dq, dr, dk, dn, dz, df, cv, cn, ca, cp, se, er, fs) (false, m0, to, du, dc, ds, dp, dm, dv, dq, dr, dk, dn, dz, df, cv, cn, ca, cp, fs, se) := by
    unfold F14
    rw [hc]
    simp only [Option.bind_some]
    rw [hk]
    rw [Option.bind_some, bne_self_eq_false, cF _ _ _ rfl, cT _ _ _ q0, cF _ _ _ q1, cF _ _ _ q3, cF _ _ _ q4, cT _ _ _ q5, bS _ _ _ e1, cT _ _ _ (show (q.2.2.2.2.2 != 0) = true by simpa using h0)]
   unfold TellG
   rw [e]
   exact .inl ⟨rfl, rfl⟩
end Go.Proofs.YtghbnolfadnoaaaGreat
