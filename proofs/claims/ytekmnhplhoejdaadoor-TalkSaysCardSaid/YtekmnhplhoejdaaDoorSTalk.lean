/- Transfers and the levels of them, in plain Lean: the law TalkSays. -/
import Derived.Test.YtekmnhplhoejdaaDoorSCarryT
import Derived.Test.YtekmnhplhoejdaaDoorSBits
import Derived.Test.YtekmnhplhoejdaaDoorSStuff2
import Derived.Test.YtekmnhplhoejdaaDoorAm22
namespace Go.Proofs.YtekmnhplhoejdaaDoor
open Go Go.RowKit
open Ca (ps ps_len ps_get toldN toldN_succ usedT fatesOk par stepC carryT t60 t61 cloneC betC)
set_option linter.unusedVariables false

theorem stV_len (row : List UInt8) : (stV row).1.length ≤ 2 * row.length := by
  unfold stV
  split
  · simp
  · exact stF_len row 0
theorem turnV_len (row : List UInt8) (level : Int) : (turnV row level).1.length ≤ row.length := by
  unfold turnV
  split
  · simp
  · simp [strOf]
/-- both send the same -/
theorem sendS (n : Nat) (hn : 140737488355338 < n) (s : List UInt8) : ∃ v e, F64 n s = some (v, e) ∧ F68 n s = some (v, e) ∧ v.length ≤ 2000 := by
  unfold F64 F68
  by_cases h0 : s = []
  · subst h0; exact ⟨[], 3, rfl, rfl, by simp⟩
  · have hl : s.length ≠ 0 := fun e => h0 (List.length_eq_zero_iff.1 e)
    rw [show (s == ([] : List UInt8)) = false from beq_eq_false_iff_ne.2 h0, show (((s.length : Nat) : Int) == 0) = false from beq_eq_false_iff_ne.2 (by omega)]
    simp only [cond_false]
    by_cases h80 : s.length > 80
    · rw [decide_eq_true (show ((s.length : Nat) : Int) > 80 by omega)]; exact ⟨[], 2, rfl, rfl, by simp⟩
    · have hd := Bk.dig_len (Bk.tb s) (8 * s.length)
      rw [decide_eq_false (show ¬ ((s.length : Nat) : Int) > 80 by omega), bitsP n s (by omega) (by omega), Bk.bitsV n s (by omega) (by omega)]
      generalize Bk.dig (Bk.tb s) (8 * s.length) = d at hd ⊢
      have hc : ([48, 48, 48, 48, 48, 48, 48, 49] : List UInt8).length + d.length ≤ 9223372036854775807 := by simp only [List.length_cons, List.length_nil]; omega
      have hl2 : (([48, 48, 48, 48, 48, 48, 48, 49] : List UInt8) ++ d).length = 8 + d.length := by rw [List.length_append]; rfl
      simp only [cond_false, Option.bind_some]
      rw [decide_eq_true hc]
      generalize ([48, 48, 48, 48, 48, 48, 48, 49] : List UInt8) ++ d = r at hl2 ⊢
      have h1 := stV_len r
      have h2 := turnV_len (stV r).1 74
      simp only [cond_true]
      rw [stuffPV n hn r (by omega), stuffRV n hn r (by omega)]
      simp only [Option.bind_some]
      rw [turnPV n hn _ 74 (by omega), turnRV n hn _ 74 (by omega)]
      simp only [Option.bind_some]
      rw [decide_eq_true (show (turnV (stV r).1 74).1.length + ([48, 48, 74] : List UInt8).length ≤ 9223372036854775807 by simp only [List.length_cons, List.length_nil]; omega)]
      refine ⟨(turnV (stV r).1 74).1 ++ [48, 48, 74], 0, rfl, rfl, ?_⟩
      rw [List.length_append]
      simp only [List.length_cons, List.length_nil]
      omega
/-- a right packet's levels -/
theorem lev (n : Nat) (hn : 140737488355338 < n) (k a e f : Int) (d : List UInt8) (hE : pktErr k a e f d.length = 0) :
    ∃ L, F32 n k a e f d = some L ∧ F38 n k a e f d = some L ∧ L.length ≤ 2000 := by
  unfold F32 F38 F63 F69
  rw [decide_eq_true hE]
  simp only [cond_true, Option.bind_some]
  obtain ⟨v, e, h1, h2, h3⟩ := sendS n hn (pktTx k a e f d)
  rw [h1, h2]
  exact ⟨v, rfl, rfl, h3⟩
theorem pe_tok (a e : Int) (ha : 1 ≤ a ∧ a ≤ 127) (he : 1 ≤ e ∧ e ≤ 15) : pktErr 1 a e 0 ([] : List UInt8).length = 0 := by
  unfold pktErr
  rw [if_neg (by decide), if_neg (by rintro ⟨_, h⟩; exact h ⟨by omega, by omega, by omega, by omega⟩), if_neg (by rintro ⟨h, _⟩; exact absurd h (by decide)), if_neg (by simp), if_neg (by simp)]
theorem pe_dat (k : Int) (hk : k = 3 ∨ k = 11) (d : List UInt8) (hd : d.length ≤ 64) : pktErr k 0 0 0 d.length = 0 := by
  have h1 : knownK k = true ∧ tokK k = false ∧ datK k = true := by rcases hk with rfl | rfl <;> decide
  unfold pktErr
  rw [if_neg (by rw [h1.1]; decide), if_neg (by rw [h1.2.1]; rintro ⟨h, _⟩; exact absurd h (by decide)), if_neg (by rintro ⟨_, h | h⟩ <;> exact h rfl), if_neg (by
    rw [h1.2.2]
    rintro (⟨_, h⟩ | h | h | ⟨h, _⟩)
    · exact h rfl
    · omega
    · omega
    · exact absurd h (by decide)), if_neg (by omega)]
theorem pe_bare (k : Int) (hk : k = 2 ∨ k = 10 ∨ k = 14) : pktErr k 0 0 0 ([] : List UInt8).length = 0 := by
  rcases hk with rfl | rfl | rfl <;> decide
theorem piece_le {z : Nat} (h1 : 1 ≤ z) (t : List UInt8) (j : Nat) (h : j < (ps z t).length) : ((ps z t).getD j []).length ≤ z := by
  rw [ps_len h1 t.length t (Nat.le_refl _)] at h
  rw [ps_get h1 t.length t j (Nat.le_refl _) h, List.length_drop, List.length_take, Nat.succ_mul]
  omega
theorem strOf_byI : ∀ s : List UInt8, strOf (byI s) = s
  | [] => rfl
  | b :: s => by
    have h := strOf_byI s
    show UInt8.ofNat (((b.toNat : Nat) : Int)).toNat :: strOf (byI s) = b :: s
    rw [h, Int.toNat_natCast]; simp
theorem strOf_len (a : List Int) : (strOf a).length = a.length := by simp [strOf]
theorem byI_len (s : List UInt8) : (byI s).length = s.length := by simp [byI]
theorem respT (f : Int) (hf : 1 ≤ f ∧ f ≤ 5) (h2 : f ≠ 2) (n : Nat) : ∃ x : Int, F33 n f = some x ∧ ([0, 2, 0, 0, 10, 14] : List Int).getD f.toNat 0 = x ∧ (x = 0 ∨ x = 2 ∨ x = 10 ∨ x = 14) := by
  have : f = 1 ∨ f = 3 ∨ f = 4 ∨ f = 5 := by omega
  rcases this with rfl | rfl | rfl | rfl
  · exact ⟨2, rfl, rfl, by decide⟩
  · exact ⟨0, rfl, rfl, by decide⟩
  · exact ⟨10, rfl, rfl, by decide⟩
  · exact ⟨14, rfl, rfl, by decide⟩
/-- the loops, side by side -/
theorem loopT (n : Nat) (hn : 140737488355338 < n) (t : List UInt8) (ht : t.length ≤ 4096) (z : Nat) (h1 : 1 ≤ z) (h2 : z ≤ 64) (hl : (ps z t).length ≤ 200) (fs : List Int) (hf : fs.length ≤ 1000) (hok : fatesOk fs)
    (a e : Int) (ha : 1 ≤ a ∧ a ≤ 127) (he : 1 ≤ e ∧ e ≤ 15) (y : Int × List UInt8 × Int × Int × Int) (hy : usedT (ps z t).length fs y) :
    ∃ r r', loopF (F11_l91 n a e fs y) n (0, 0, 0, ps z t, [], true, []) = some r ∧ loopF (F12_l12 n a e fs y (0, ps z t)) n ([], 0, 0) = some r' ∧ r = r' := by
  have hm : 1 ≤ (ps z t).length := by rw [ps_len h1 t.length t (Nat.le_refl _)]; exact Nat.le_add_left 1 _
  obtain ⟨c0, c1, c2, c3⟩ := hy
  obtain ⟨u, hu⟩ : ∃ u : Nat, y.2.2.2.1 = (u : Int) := ⟨y.2.2.2.1.toNat, by omega⟩
  rw [hu] at c1 c3
  obtain ⟨w, hw⟩ : ∃ w, fs.take u = w := ⟨_, rfl⟩
  have hwl : w.length = u := by rw [← hw, List.length_take]; omega
  have hwg : ∀ k, k < u → w.getD k 0 = fs.getD k 0 := fun k h => by
    rw [← hw, List.getD_eq_getElem?_getD, List.getElem?_take_of_lt h, ← List.getD_eq_getElem?_getD]
  refine loopF_rel (F11_l91 n a e fs y) (F12_l12 n a e fs y (0, ps z t))
    (fun d d' => ∃ (k told got : Nat) (m5 : Bool) (m6 : List Int), d = ((k : Int), par told, par got, (ps z t).drop told, (ps z t).take got, m5, m6) ∧ d' = (strOf m6, (told : Int), (k : Int)) ∧ k ≤ u ∧ told ≤ got ∧ got ≤ told + 1 ∧ got ≤ (ps z t).length ∧ told = toldN fs k ∧ m6.length ≤ 6000 * k)
    (fun r r' => r = r') (fun d => fs.length - d.1.toNat) ?_ n n _ _ ⟨0, 0, 0, true, [], rfl, rfl, by omega, by omega, by omega, by omega, rfl, by simp⟩ (by simp; omega) (by simp; omega)
  rintro kk kk' d d' ⟨k, told, got, m5, m6, rfl, rfl, hk, g1, g2, g3, g4, g6⟩ ih
  simp only [F11_l91, F12_l12, Int.toNat_natCast, hu, hw, hwl]
  by_cases hku : k < u
  · have hfk := hok k (by omega)
    have hT : told < (ps z t).length := by rw [g4]; exact c3 k (by omega)
    have nx := toldN_succ fs k (by omega)
    have hgk := hwg k hku
    have wk : IntKind.wrap .i64 ((k : Int) + 1) = ((k + 1 : Nat) : Int) := by rw [w64 (by omega) (by omega)]; omega
    have wt : IntKind.wrap .i64 ((told : Int) + 1) = ((told + 1 : Nat) : Int) := by rw [w64 (by omega) (by omega)]; omega
    rw [decide_eq_true (show (k : Int) < (u : Int) by omega), inb_true (show (0 : Int) ≤ k by omega) (show (k : Int) < ((u : Nat) : Int) by omega)]
    simp only [cond_true, hgk]
    obtain ⟨f, hfd⟩ : ∃ f, fs.getD k 0 = f := ⟨_, rfl⟩
    rw [hfd] at hgk hfk nx
    simp only [hfd]
    have J : ∀ (m5 : Bool) (m6 : List Int), F11_j105 n kk fs y (k : Int) (par told) (par got) ((ps z t).drop told) ((ps z t).take got) (m5, m6) = kk (((k + 1 : Nat) : Int), par (if f = 1 then told + 1 else told), par (if f = 1 ∨ f = 3 then told + 1 else got), (ps z t).drop (if f = 1 then told + 1 else told), (ps z t).take (if f = 1 ∨ f = 3 then told + 1 else got), m5, m6) := fun m5 m6 => by
      unfold F11_j105
      simp only [hu, Int.toNat_natCast, hw, hgk]
      rw [stepC n (ps z t) hl told got g1 g2 hT g3 f hfk, wk]; rfl
    have J' : ∀ (v : List UInt8), F12_j14 n kk' fs y (told : Int) (k : Int) v = kk' (v, (((if f = 1 then told + 1 else told : Nat)) : Int), ((k + 1 : Nat) : Int)) := fun v => by
      unfold F12_j14
      simp only [hu, Int.toNat_natCast, hw, hgk]
      by_cases e1 : f = 1
      · rw [show (f == 1) = true by simpa using e1, if_pos e1, wk, wt]; rfl
      · rw [show (f == 1) = false by simpa using e1, if_neg e1, wk]; rfl
    have go : ∀ (m5 : Bool) (m6' : List Int), m6'.length ≤ 6000 * (k + 1) → ∃ r r', kk (((k + 1 : Nat) : Int), par (if f = 1 then told + 1 else told), par (if f = 1 ∨ f = 3 then told + 1 else got), (ps z t).drop (if f = 1 then told + 1 else told), (ps z t).take (if f = 1 ∨ f = 3 then told + 1 else got), m5, m6') = some r ∧ kk' (strOf m6', (((if f = 1 then told + 1 else told : Nat)) : Int), ((k + 1 : Nat) : Int)) = some r' ∧ r = r' := fun m5 m6' h => by
      refine ih _ _ ⟨k + 1, _, _, m5, m6', rfl, rfl, hku, ?_, ?_, ?_, ?_, h⟩ (by simp only [Int.toNat_natCast]; omega)
      · split <;> split <;> omega
      · split <;> split <;> omega
      · split <;> omega
      · rw [nx]; split <;> omega
    clear ih
    by_cases f2 : f = 2
    · rw [show (f != 2) = false by simp [f2], show (f == 2) = true by simp [f2]]
      simp only [cond_false, cond_true]
      rw [J, wk]
      have h := go m5 m6 (by omega)
      rw [if_neg (show ¬ f = 1 by omega)] at h ⊢
      exact h
    · rw [show (f != 2) = true by simp [f2], show (f == 2) = false by simp [f2], inb_true (by omega) (show (0 : Int) < ((((ps z t).drop told).length : Nat) : Int) by rw [List.length_drop]; omega)]
      simp only [cond_false, cond_true]
      have main : ∀ kd : Int, (kd = 3 ∨ kd = 11) → ∃ r r', F11_j106 n kk a e fs y (k : Int) (par told) (par got) ((ps z t).drop told) ((ps z t).take got) m5 m6 kd = some r ∧ F12_j13 n kk' a e fs y (0, ps z t) (strOf m6) (told : Int) (k : Int) kd = some r' ∧ r = r' := by
        intro kd hkd
        obtain ⟨LA, a1, a2, a3⟩ := lev n hn 1 a e 0 [] (pe_tok a e ha he)
        obtain ⟨LB, b1, b2, b3⟩ := lev n hn kd 0 0 0 ((ps z t).getD told []) (pe_dat kd hkd _ (Nat.le_trans (piece_le h1 t told hT) h2))
        obtain ⟨x, q1, q2, q3⟩ := respT f hfk f2 n
        have h0 : ((ps z t).drop told).getD 0 [] = (ps z t).getD told [] := by
          have hd : (ps z t).drop told = (ps z t).getD told [] :: (ps z t).drop (told + 1) := by
            rw [List.drop_eq_getElem_cons hT, List.getD_eq_getElem?_getD, List.getElem?_eq_getElem hT]; rfl
          rw [hd]; rfl
        have bl : ∀ s : List UInt8, (byI s).length = s.length := byI_len
        have sl := strOf_len m6
        unfold F11_j106 F12_j13
        rw [a1, a2]
        simp only [Option.bind_some]
        rw [show (bif m5 then F11_j110 n kk fs y (k : Int) (par told) (par got) ((ps z t).drop told) ((ps z t).take got) m6 kd LA false else F11_j110 n kk fs y (k : Int) (par told) (par got) ((ps z t).drop told) ((ps z t).take got) m6 kd LA m5) = F11_j110 n kk fs y (k : Int) (par told) (par got) ((ps z t).drop told) ((ps z t).take got) m6 kd LA false by cases m5 <;> rfl]
        unfold F11_j110
        simp only [h0]
        rw [b1, decide_eq_true (show m6.length + LA.length ≤ 140737488355328 by omega), inb_true (show (0 : Int) ≤ told by omega) (show (told : Int) < (((ps z t).length : Nat) : Int) by omega)]
        simp only [cond_true, cond_false, Option.bind_some, Int.toNat_natCast]
        rw [b2]
        simp only [Option.bind_some]
        unfold F11_j114
        simp only [hu, Int.toNat_natCast, hw, hgk]
        rw [q1, decide_eq_true (show (m6 ++ byI LA).length + LB.length ≤ 140737488355328 by rw [List.length_append, bl]; omega), decide_eq_true (show LA.length + LB.length ≤ 9223372036854775807 by omega), decide_eq_true (show (strOf m6).length + (LA ++ LB).length ≤ 9223372036854775807 by rw [List.length_append]; omega),
          inb_true (show (0 : Int) ≤ f by omega) (show f < ((([0, 2, 0, 0, 10, 14] : List Int).length : Nat) : Int) by show f < 6; omega)]
        simp only [cond_true, cond_false, Option.bind_some, q2]
        have es : strOf ((m6 ++ byI LA) ++ byI LB) = strOf m6 ++ (LA ++ LB) := by rw [strOf_app, strOf_app, strOf_byI, strOf_byI, List.append_assoc]
        have el : ((m6 ++ byI LA) ++ byI LB).length = m6.length + LA.length + LB.length := by rw [List.length_append, List.length_append, bl, bl]
        by_cases hx : x = 0
        · subst hx
          rw [show ((0 : Int) != 0) = false from rfl, show decide ((0 : Int) > 0) = false from rfl]
          simp only [cond_false]
          rw [J, J', ← es]
          exact go false _ (by rw [el]; omega)
        · obtain ⟨LC, d1, d2, d3⟩ := lev n hn x 0 0 0 [] (pe_bare x (q3.resolve_left hx))
          rw [show (x != 0) = true by simp [hx], decide_eq_true (show x > 0 by omega), d1, d2]
          simp only [cond_true, cond_false, Option.bind_some]
          unfold F11_j118
          rw [decide_eq_true (show ((m6 ++ byI LA) ++ byI LB).length + LC.length ≤ 140737488355328 by rw [el]; omega), decide_eq_true (show (strOf m6 ++ (LA ++ LB)).length + LC.length ≤ 9223372036854775807 by rw [List.length_append, List.length_append]; omega)]
          simp only [cond_true]
          rw [J, J', show strOf m6 ++ (LA ++ LB) ++ LC = strOf (((m6 ++ byI LA) ++ byI LB) ++ byI LC) by rw [strOf_app ((m6 ++ byI LA) ++ byI LB), es, strOf_byI]]
          exact go false _ (by rw [List.length_append, el, bl]; omega)
      rcases Nat.mod_two_eq_zero_or_one told with hp | hp
      · rw [show (par told == 1) = false by unfold par; rw [hp]; rfl, show ((told : Int).tmod 2 == 1) = false by rw [Int.tmod_eq_emod_of_nonneg (by omega), beq_eq_false_iff_ne]; omega]
        exact main 3 (.inl rfl)
      · rw [show (par told == 1) = true by unfold par; rw [hp]; rfl, show ((told : Int).tmod 2 == 1) = true by rw [Int.tmod_eq_emod_of_nonneg (by omega), beq_iff_eq]; omega]
        exact main 11 (.inr rfl)
  · obtain rfl : k = u := by omega
    rw [decide_eq_false (show ¬ ((k : Nat) : Int) < ((k : Nat) : Int) by omega)]
    exact ⟨_, _, rfl, rfl, rfl⟩
theorem talkN (n : Nat) (hn : 140737488355338 < n) (t : List UInt8) (a e size : Int) (fs : List Int) : F4 n t a e size fs = some true := by
  have key : ∃ r, F11 n t a e size fs = some r ∧ F12 n t a e size fs = some r := by
    obtain ⟨y, y1, y2, y3⟩ := carryT n (by omega) t size fs
    unfold F11 F12
    rw [betC, betC]
    simp only [Option.bind_some]
    by_cases ha : 1 ≤ a ∧ a ≤ 127
    · rw [decide_eq_true ha, decide_eq_false (show ¬ a < 1 by omega), decide_eq_false (show ¬ a > 127 by omega)]
      by_cases he : 1 ≤ e ∧ e ≤ 15
      · rw [decide_eq_true he, decide_eq_false (show ¬ e < 1 by omega), decide_eq_false (show ¬ e > 15 by omega)]
        unfold F11_j60
        simp only [cond_true, cond_false, Bool.not_true]
        rw [y1, y2]
        simp only [Option.bind_some]
        by_cases h0 : y.2.2.2.2 = 0
        · obtain ⟨z, rfl, h1, h2, ht, hl, hf, hok, hus⟩ := y3 h0
          have e1 : F29 n t (z : Int) = some (0, ps z t) := by
            unfold F29
            rw [decide_eq_false (show ¬ (z : Int) < 1 by omega), decide_eq_false (show ¬ (z : Int) > 64 by omega), decide_eq_false (show ¬ ((t.length : Nat) : Int) > 4096 by omega)]
            exact t60 n (by omega) t z (by omega) ht
          have e2 : F37 n t (z : Int) = some (0, ps z t) := t61 n (by omega) t z (by omega) (by omega) ht
          have e3 : F30 n (ps z t) = some (0, 0, 0, ps z t) := by
            unfold F30
            rw [decide_eq_false (show ¬ (((ps z t).length : Nat) : Int) > 200 by omega), cloneC n _ (by omega)]; rfl
          have hsub : subB fs.length none (some y.2.2.2.1) = true := by
            have := hus.1; have := hus.2.1
            simp [subB]; omega
          rw [show (y.2.2.2.2 != 0) = false by simp [h0], e1, e2, hsub]
          simp only [cond_false, cond_true, Option.bind_some]
          rw [e3]
          simp only [Option.bind_some]
          obtain ⟨r, r', k1, k2, rfl⟩ := loopT n hn t ht z h1 h2 hl fs hf hok a e ha he y hus
          exact ⟨r, k1, k2⟩
        · rw [show (y.2.2.2.2 != 0) = true by simp [h0]]
          exact ⟨_, rfl, rfl⟩
      · rw [decide_eq_false he]
        refine ⟨(0, [], 0, 0, [], 1), ?_, rfl⟩
        by_cases q : e < 1
        · rw [decide_eq_true q]; rfl
        · rw [decide_eq_false q, decide_eq_true (show e > 15 by omega)]; rfl
    · rw [decide_eq_false ha]
      refine ⟨(0, [], 0, 0, [], 1), ?_, rfl⟩
      by_cases q : a < 1
      · rw [decide_eq_true q]; rfl
      · rw [decide_eq_false q, decide_eq_true (show a > 127 by omega)]; rfl
  obtain ⟨r, e1, e2⟩ := key
  unfold F4
  rw [e1, e2]
  simp -implicitDefEqProofs only [Option.bind_some, Sh.beq_self, BEq.rfl, cond_true]
  by_cases q : ((fs.length : Nat) : Int) > 300
  · rw [decide_eq_true q]
    by_cases q2 : ((fs.length : Nat) : Int) ≤ 1000
    · rw [decide_eq_true q2]; rfl
    · rw [decide_eq_false q2]; rfl
  · rw [decide_eq_false q]; rfl
theorem talkSays_says (a0 : Sh.T .str) (g0 : Sh.good .str a0) (a1 : Sh.T (.int .i64)) (g1 : Sh.good (.int .i64) a1) (a2 : Sh.T (.int .i64)) (g2 : Sh.good (.int .i64) a2) (a3 : Sh.T (.int .i64)) (g3 : Sh.good (.int .i64) a3) (a4 : Sh.T (.sl (.int .i64))) (g4 : Sh.good (.sl (.int .i64)) a4) :
    ∃ n, F4 n a0 a1 a2 a3 a4 = some true := ⟨1125899906842624, talkN _ (by omega) a0 a1 a2 a3 a4⟩
end Go.Proofs.YtekmnhplhoejdaaDoor
