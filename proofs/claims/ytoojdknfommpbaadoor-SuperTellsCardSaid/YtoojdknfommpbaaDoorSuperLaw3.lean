/- The law SuperTells: the walk. -/
import Derived.Test.YtoojdknfommpbaaDoorSuperLaw2
namespace Go.Proofs.YtoojdknfommpbaaDoor
open Go.RowKit
set_option maxRecDepth 10000

/-- Six cells of a block. -/
def C6 (W : World) (b : Nat) (x0 x1 x2 x3 x4 x5 : Value) : Prop := W.cell? ⟨b, 0, none⟩ = some x0 ∧ W.cell? ⟨b, 1, none⟩ = some x1 ∧ W.cell? ⟨b, 2, none⟩ = some x2 ∧ W.cell? ⟨b, 3, none⟩ = some x3 ∧ W.cell? ⟨b, 4, none⟩ = some x4 ∧ W.cell? ⟨b, 5, none⟩ = some x5
/-- The law's boxes: both supers, and the two that were told. -/
structure TT (w : World) (x y X : Sup) (cx lx cy ly cp lp cq lq : Value) (k1 k2 : Nat) (W : World) : Prop where
  s2 : S2 w x y cx lx cy ly W
  bp : W.heap[k1]? = some (.cells #[.int .i64 X.gen, .int .i64 X.base, .int .i64 X.size, .int .i64 X.cgen, cp, lp] 41 (0, 0))
  bq : W.heap[k2]? = some (.cells #[.int .i64 X.gen, .int .i64 X.base, .int .i64 X.size, .int .i64 X.cgen, cq, lq] 41 (0, 0))
  ip : SupIn W X (SupV X cp lp)
  iq : SupIn W X (SupV X cq lq)
section
variable {w W W' : World} {x y X : Sup} {cx lx cy ly cp lp cq lq : Value} {k1 k2 : Nat}
theorem TT.below (h : TT w x y X cx lx cy ly cp lp cq lq k1 k2 W) (hb : Below W.heap.size W W') : TT w x y X cx lx cy ly cp lp cq lq k1 k2 W' :=
  ⟨h.s2.below hb, blk_keep h.bp hb, blk_keep h.bq hb, h.ip.below hb, h.iq.below hb⟩
theorem TT.bel (h : TT w x y X cx lx cy ly cp lp cq lq k1 k2 W) : Below w.heap.size w W := h.s2.bel
theorem TT.facts (h : TT w x y X cx lx cy ly cp lp cq lq k1 k2 W) : (C6 W w.heap.size (.int .i64 x.gen) (.int .i64 x.base) (.int .i64 x.size) (.int .i64 x.cgen) cx lx ∧ C6 W (w.heap.size + 1) (.int .i64 y.gen) (.int .i64 y.base) (.int .i64 y.size) (.int .i64 y.cgen) cy ly) ∧
    (C6 W k1 (.int .i64 X.gen) (.int .i64 X.base) (.int .i64 X.size) (.int .i64 X.cgen) cp lp ∧ C6 W k2 (.int .i64 X.gen) (.int .i64 X.base) (.int .i64 X.size) (.int .i64 X.cgen) cq lq) :=
  ⟨⟨cells6 h.s2.1, cells6 h.s2.2.1⟩, cells6 h.bp, cells6 h.bq⟩
theorem tt_new {w1 w2 : World} (h : S2 w x y cx lx cy ly w1) (i1 : SupIn w1 X (SupV X cp lp))
    (hb : Below (w1.alloc (.cells #[.int .i64 X.gen, .int .i64 X.base, .int .i64 X.size, .int .i64 X.cgen, cp, lp] 41)).heap.size (w1.alloc (.cells #[.int .i64 X.gen, .int .i64 X.base, .int .i64 X.size, .int .i64 X.cgen, cp, lp] 41)) w2)
    (i2 : SupIn w2 X (SupV X cq lq)) :
    TT w x y X cx lx cy ly cp lp cq lq w1.heap.size w2.heap.size (w2.alloc (.cells #[.int .i64 X.gen, .int .i64 X.base, .int .i64 X.size, .int .i64 X.cgen, cq, lq] 41)) := by
  have b1 := below_new w1 (.cells #[.int .i64 X.gen, .int .i64 X.base, .int .i64 X.size, .int .i64 X.cgen, cp, lp] 41)
  have b2 := below_new w2 (.cells #[.int .i64 X.gen, .int .i64 X.base, .int .i64 X.size, .int .i64 X.cgen, cq, lq] 41)
  refine ⟨((h.below b1).below hb).below b2, blk_keep (blk_after hb) b2, ?_, ((i1.below b1).below hb).below b2, i2.below b2⟩
  show (w2.heap.push _)[w2.heap.size]? = _; simp
end
theorem S2.facts {w W : World} {x y : Sup} {cx lx cy ly : Value} (h : S2 w x y cx lx cy ly W) : C6 W w.heap.size (.int .i64 x.gen) (.int .i64 x.base) (.int .i64 x.size) (.int .i64 x.cgen) cx lx ∧ C6 W (w.heap.size + 1) (.int .i64 y.gen) (.int .i64 y.base) (.int .i64 y.size) (.int .i64 y.cgen) cy ly :=
  ⟨cells6 h.1, cells6 h.2.1⟩

set_option maxHeartbeats 8000000 in
theorem superTells_walk (v : Value) (x : Sup) (u : Value) (y : Sup) (s : ByteArray) (w : World) (hx : SupIn w x v ∧ x.check.length ≤ maxLen ∧ x.log.length ≤ maxLen) (hy : SupIn w y u ∧ y.check.length ≤ maxLen ∧ y.log.length ≤ maxLen) (hs : s.size ≤ maxLen) :
    Calls Tryd.prog 7 #[v, u, .string s] w fun e w' => e = .returned (.bool true) ∧ Below w.heap.size w w' := by
  have hl : x.check.length ≤ maxLen ∧ x.log.length ≤ maxLen ∧ y.check.length ≤ maxLen ∧ y.log.length ≤ maxLen := ⟨hx.2.1, hx.2.2, hy.2.1, hy.2.2⟩
  replace hx := hx.1
  replace hy := hy.1
  unfold maxLen at hs hl
  have hx0 := hx
  have hy0 := hy
  obtain ⟨A, c, B, d, rfl, -⟩ := hx
  obtain ⟨A', c', B', d', rfl, -⟩ := hy
  obtain ⟨cx, hcx⟩ : ∃ cv, Value.slice A x.check.length c = cv := ⟨_, rfl⟩
  obtain ⟨lx, hlx⟩ : ∃ lv, Value.slice B x.log.length d = lv := ⟨_, rfl⟩
  obtain ⟨cy, hcy⟩ : ∃ cv, Value.slice A' y.check.length c' = cv := ⟨_, rfl⟩
  obtain ⟨ly, hly⟩ : ∃ lv, Value.slice B' y.log.length d' = lv := ⟨_, rfl⟩
  rw [hcx, hlx] at hx0 ⊢
  rw [hcy, hly] at hy0 ⊢
  clear hcx hlx hcy hly A B A' B' c d c' d'
  have HB0 := Lib.hid (S2.new w x y cx lx cy ly)
  have HF : Hid (∀ W, S2 w x y cx lx cy ly W → C6 W w.heap.size (.int .i64 x.gen) (.int .i64 x.base) (.int .i64 x.size) (.int .i64 x.cgen) cx lx ∧ C6 W (w.heap.size + 1) (.int .i64 y.gen) (.int .i64 y.base) (.int .i64 y.size) (.int .i64 y.cgen) cy ly) := Lib.hid fun W h => h.facts
  have FW : Hid (∀ W, S2 w x y cx lx cy ly W → Calls Tryd.prog 25 #[SupV x cx lx] W fun e w' => e = .returned (.bool (decide x.few)) ∧ S2 w x y cx lx cy ly w') := Lib.hid fun W h =>
    (sfew_any x _ W (hx0.below h.bel)).mono fun e w' ⟨he, hb⟩ => ⟨he, h.below hb⟩
  have FW2 : Hid (∀ W, S2 w x y cx lx cy ly W → Calls Tryd.prog 25 #[SupV y cy ly] W fun e w' => e = .returned (.bool (decide y.few)) ∧ S2 w x y cx lx cy ly w') := Lib.hid fun W h =>
    (sfew_any y _ W (hy0.below h.bel)).mono fun e w' ⟨he, hb⟩ => ⟨he, h.below hb⟩
  have AW : Hid (∀ W, S2 w x y cx lx cy ly W → Calls Tryd.prog 26 #[] W fun e w' => e = .returned (.bool true) ∧ S2 w x y cx lx cy ly w') := Lib.hid fun W h =>
    (awake07_any W).mono fun e w' ⟨he, hb⟩ => ⟨he, h.below hb⟩
  by_cases hf : x.few
  case neg =>
    rw [decide_eq_false hf] at FW
    clear hf hl
    obtain ⟨x0, x1, x2, x3, x4, x5⟩ := x
    obtain ⟨y0, y1, y2, y3, y4, y5⟩ := y
    unfold SupV at *
    simp only at *
    go_enter Tryd.func7, Tryd.ntmps7
    go_wp2_with (first
      | (go_at_call 25; (with_reducible refine (FW.out _ HB0.out).mono ?_); rintro e w1 ⟨rfl, h1⟩; have q1 := HF.out _ h1; unfold C6 at q1; obtain ⟨⟨q10, q11, q12, q13, q14, q15⟩, q16, q17, q18, q19, q1a, q1b⟩ := q1)
      | (go_at_call 26; (with_reducible refine (AW.out _ h1).mono ?_); rintro e w2 ⟨rfl, h2⟩))
    go_ret
    exact ⟨rfl, h2.bel⟩
  rw [decide_eq_true hf] at FW
  by_cases hg : y.few
  case neg =>
    rw [decide_eq_false hg] at FW2
    clear hf hg hl
    obtain ⟨x0, x1, x2, x3, x4, x5⟩ := x
    obtain ⟨y0, y1, y2, y3, y4, y5⟩ := y
    unfold SupV at *
    simp only at *
    go_enter Tryd.func7, Tryd.ntmps7
    go_wp2_with (first
      | (go_at_call 25; (with_reducible refine (FW2.out _ h1).mono ?_); rintro e w2 ⟨rfl, h2⟩; have q2 := HF.out _ h2; unfold C6 at q2; obtain ⟨⟨q20, q21, q22, q23, q24, q25⟩, q26, q27, q28, q29, q2a, q2b⟩ := q2)
      | (go_at_call 25; (with_reducible refine (FW.out _ HB0.out).mono ?_); rintro e w1 ⟨rfl, h1⟩; have q1 := HF.out _ h1; unfold C6 at q1; obtain ⟨⟨q10, q11, q12, q13, q14, q15⟩, q16, q17, q18, q19, q1a, q1b⟩ := q1)
      | (go_at_call 26; (with_reducible refine (AW.out _ h2).mono ?_); rintro e w3 ⟨rfl, h3⟩))
    go_ret
    exact ⟨rfl, h3.bel⟩
  rw [decide_eq_true hg] at FW2
  by_cases h6 : 300 < s.size
  · have h6I : 300 < (s.size : Int) := by omega
    clear h6 hf hg hl
    obtain ⟨x0, x1, x2, x3, x4, x5⟩ := x
    obtain ⟨y0, y1, y2, y3, y4, y5⟩ := y
    unfold SupV at *
    simp only at *
    go_enter Tryd.func7, Tryd.ntmps7
    go_wp2_with (first
      | (go_at_call 25; (with_reducible refine (FW2.out _ h1).mono ?_); rintro e w2 ⟨rfl, h2⟩; have q2 := HF.out _ h2; unfold C6 at q2; obtain ⟨⟨q20, q21, q22, q23, q24, q25⟩, q26, q27, q28, q29, q2a, q2b⟩ := q2)
      | (go_at_call 25; (with_reducible refine (FW.out _ HB0.out).mono ?_); rintro e w1 ⟨rfl, h1⟩; have q1 := HF.out _ h1; unfold C6 at q1; obtain ⟨⟨q10, q11, q12, q13, q14, q15⟩, q16, q17, q18, q19, q1a, q1b⟩ := q1)
      | (go_at_call 26; (with_reducible refine (AW.out _ h2).mono ?_); rintro e w3 ⟨rfl, h3⟩))
    go_ret
    exact ⟨rfl, h3.bel⟩
  unfold Sup.few at hf hg
  obtain ⟨l, rfl⟩ : ∃ l0, s = mkS l0 := ⟨bl s, (mkS_bl s).symm⟩
  have h6I : ((mkS l).size : Int) ≤ 300 := by omega
  obtain ⟨X, hX⟩ : ∃ Y, decX l = Y := ⟨_, rfl⟩
  have hXl := decX_le l
  rw [hX] at hXl
  obtain ⟨SS, hSS⟩ : ∃ b, mkS (encS x) = b := ⟨_, rfl⟩
  obtain ⟨EE, hEE⟩ : ∃ b, encE x = b := ⟨_, rfl⟩
  obtain ⟨G, hG⟩ : ∃ b, decE l = b := ⟨_, rfl⟩
  obtain ⟨fb, hfb⟩ : ∃ b, decide x.fit = b := ⟨_, rfl⟩
  obtain ⟨sb, hsb⟩ : ∃ b, decide (sameS x y) = b := ⟨_, rfl⟩
  obtain ⟨sl, hsl⟩ : ∃ b, slotN x.gen = b := ⟨_, rfl⟩
  have E1 : Hid (∀ W, S2 w x y cx lx cy ly W → Calls Tryd.prog 27 #[SupV x cx lx] W fun e w' => e = .returned (.tuple #[.string SS, .int .i64 EE]) ∧ S2 w x y cx lx cy ly w') := Lib.hid fun W h =>
    (enc_in x _ W (hx0.below h.bel) (by omega)).mono fun e w' ⟨he, hb⟩ => ⟨by rw [he, hSS, hEE], h.below hb⟩
  have E2 : Hid (∀ W, S2 w x y cx lx cy ly W → Calls Tryd.prog 28 #[SupV x cx lx] W fun e w' => e = .returned (.tuple #[.string SS, .int .i64 EE]) ∧ S2 w x y cx lx cy ly w') := Lib.hid fun W h =>
    (encr_in x _ W (hx0.below h.bel) (by omega)).mono fun e w' ⟨he, hb⟩ => ⟨by rw [he, hSS, hEE], h.below hb⟩
  have D1 : Hid (∀ W, S2 w x y cx lx cy ly W → Calls Tryd.prog 29 #[.string (mkS l)] W fun e w' => ∃ A c B d, e = .returned (.tuple #[.agg #[.int .i64 X.gen, .int .i64 X.base, .int .i64 X.size, .int .i64 X.cgen, .slice A X.check.length c, .slice B X.log.length d], .int .i64 G]) ∧
    SupIn w' X (SupV X (.slice A X.check.length c) (.slice B X.log.length d)) ∧ S2 w x y cx lx cy ly w') := Lib.hid fun W h =>
    (sdec_any l W).mono fun e w' hp => by
      obtain ⟨A, c, B, d, he, hs, hb⟩ := dec_ex hp hX
      rw [hG] at he
      exact ⟨A, c, B, d, he, hs, h.below hb⟩
  have D2 : Hid (∀ W, Calls Tryd.prog 30 #[.string (mkS l)] W fun e w' => ∃ A c B d, e = .returned (.tuple #[.agg #[.int .i64 X.gen, .int .i64 X.base, .int .i64 X.size, .int .i64 X.cgen, .slice A X.check.length c, .slice B X.log.length d], .int .i64 G]) ∧
    SupIn w' X (SupV X (.slice A X.check.length c) (.slice B X.log.length d)) ∧ Below W.heap.size W w') := Lib.hid fun W =>
    (dec_any l W).mono fun e w' hp => by
      obtain ⟨A, c, B, d, he, hs, hb⟩ := dec_ex hp hX
      rw [hG] at he
      exact ⟨A, c, B, d, he, hs, hb⟩
  have hrefl : (decide (sameS X X)) = true := decide_eq_true (sameS_iff.2 rfl)
  have MP : Hid (∀ cp lp cq lq k1 k2 W, TT w x y X cx lx cy ly cp lp cq lq k1 k2 W → Calls Tryd.prog 31 #[SupV X cp lp, SupV X cq lq] W fun e w' => e = .returned (.bool true) ∧ TT w x y X cx lx cy ly cp lp cq lq k1 k2 w') := Lib.hid fun cp lp cq lq k1 k2 W h =>
    (ssame_ref X X _ _ W h.ip h.iq (by omega)).mono fun e w' ⟨he, hb⟩ => ⟨by rw [he, hrefl], h.below hb⟩
  have F1 : Hid (∀ cp lp cq lq k1 k2 W, TT w x y X cx lx cy ly cp lp cq lq k1 k2 W → Calls Tryd.prog 32 #[SupV x cx lx] W fun e w' => e = .returned (.bool fb) ∧ TT w x y X cx lx cy ly cp lp cq lq k1 k2 w') := Lib.hid fun cp lp cq lq k1 k2 W h =>
    (fit_in x _ W (hx0.below h.bel) (by omega)).mono fun e w' ⟨he, hb⟩ => ⟨by rw [he, hfb], h.below hb⟩
  have F2 : Hid (∀ cp lp cq lq k1 k2 W, TT w x y X cx lx cy ly cp lp cq lq k1 k2 W → Calls Tryd.prog 33 #[SupV x cx lx] W fun e w' => e = .returned (.bool fb) ∧ TT w x y X cx lx cy ly cp lp cq lq k1 k2 w') := Lib.hid fun cp lp cq lq k1 k2 W h =>
    (fitr_in x _ W (hx0.below h.bel) (by omega)).mono fun e w' ⟨he, hb⟩ => ⟨by rw [he, hfb], h.below hb⟩
  have L1 : Hid (∀ W, Calls Tryd.prog 34 #[.int .i64 x.gen] W fun e w' => e = .returned (.int .i64 sl) ∧ W = w') := Lib.hid fun W =>
    (slot_any x.gen W).mono fun e w' ⟨he, hb⟩ => ⟨by rw [he, hsl], hb⟩
  have L2 : Hid (∀ W, Calls Tryd.prog 35 #[.int .i64 x.gen] W fun e w' => e = .returned (.int .i64 sl) ∧ W = w') := Lib.hid fun W =>
    (slot_ref x.gen W).mono fun e w' ⟨he, hb⟩ => ⟨by rw [he, hsl], hb⟩
  have M1 : Hid (∀ cp lp cq lq k1 k2 W, TT w x y X cx lx cy ly cp lp cq lq k1 k2 W → Calls Tryd.prog 36 #[SupV x cx lx, SupV y cy ly] W fun e w' => e = .returned (.bool sb) ∧ TT w x y X cx lx cy ly cp lp cq lq k1 k2 w') := Lib.hid fun cp lp cq lq k1 k2 W h =>
    (ssame_any x y _ _ W (hx0.below h.bel) (hy0.below h.bel) (by omega)).mono fun e w' ⟨he, hb⟩ => ⟨by rw [he, hsb], h.below hb⟩
  have M2 : Hid (∀ cp lp cq lq k1 k2 W, TT w x y X cx lx cy ly cp lp cq lq k1 k2 W → Calls Tryd.prog 31 #[SupV x cx lx, SupV y cy ly] W fun e w' => e = .returned (.bool sb) ∧ TT w x y X cx lx cy ly cp lp cq lq k1 k2 w') := Lib.hid fun cp lp cq lq k1 k2 W h =>
    (ssame_ref x y _ _ W (hx0.below h.bel) (hy0.below h.bel) (by omega)).mono fun e w' ⟨he, hb⟩ => ⟨by rw [he, hsb], h.below hb⟩
  have AT : Hid (∀ cp lp cq lq k1 k2 W, TT w x y X cx lx cy ly cp lp cq lq k1 k2 W → Calls Tryd.prog 26 #[] W fun e w' => e = .returned (.bool true) ∧ TT w x y X cx lx cy ly cp lp cq lq k1 k2 w') := Lib.hid fun cp lp cq lq k1 k2 W h =>
    (awake07_any W).mono fun e w' ⟨he, hb⟩ => ⟨he, h.below hb⟩
  have TF : Hid (∀ cp lp cq lq k1 k2 W, TT w x y X cx lx cy ly cp lp cq lq k1 k2 W → (C6 W w.heap.size (.int .i64 x.gen) (.int .i64 x.base) (.int .i64 x.size) (.int .i64 x.cgen) cx lx ∧ C6 W (w.heap.size + 1) (.int .i64 y.gen) (.int .i64 y.base) (.int .i64 y.size) (.int .i64 y.cgen) cy ly) ∧ (C6 W k1 (.int .i64 X.gen) (.int .i64 X.base) (.int .i64 X.size) (.int .i64 X.cgen) cp lp ∧ C6 W k2 (.int .i64 X.gen) (.int .i64 X.base) (.int .i64 X.size) (.int .i64 X.cgen) cq lq)) := Lib.hid fun cp lp cq lq k1 k2 W h => h.facts
  have TD : Hid (∀ cp lp cq lq k1 k2 W, TT w x y X cx lx cy ly cp lp cq lq k1 k2 W → TT w x y X cx lx cy ly cp lp cq lq k1 k2 W.drew) := Lib.hid fun cp lp cq lq k1 k2 W h => h.below (below_drewS W)
  obtain ⟨n1, hn1⟩ : ∃ n, X.check.length = n := ⟨_, rfl⟩
  obtain ⟨n2, hn2⟩ : ∃ n, X.log.length = n := ⟨_, rfl⟩
  rw [hn1, hn2] at D1 D2
  clear hX hXl hSS hEE hG hfb hsb hsl hrefl hn1 hn2 hf hg hl h6
  generalize mkS l = T at *
  have hTT := str_eq (show SS = SS from rfl)
  obtain ⟨z0, z1, z2, z3, z4, z5⟩ := X
  obtain ⟨x0, x1, x2, x3, x4, x5⟩ := x
  obtain ⟨y0, y1, y2, y3, y4, y5⟩ := y
  unfold SupV at *
  simp only at *
  go_enter Tryd.func7, Tryd.ntmps7
  go_wp2_with (first
    | (go_at_call 25; (with_reducible refine (FW2.out _ h1).mono ?_); rintro e w2 ⟨rfl, h2⟩; have q2 := HF.out _ h2; unfold C6 at q2; obtain ⟨⟨q20, q21, q22, q23, q24, q25⟩, q26, q27, q28, q29, q2a, q2b⟩ := q2)
    | (go_at_call 25; (with_reducible refine (FW.out _ HB0.out).mono ?_); rintro e w1 ⟨rfl, h1⟩; have q1 := HF.out _ h1; unfold C6 at q1; obtain ⟨⟨q10, q11, q12, q13, q14, q15⟩, q16, q17, q18, q19, q1a, q1b⟩ := q1)
    | (go_at_call 27; (with_reducible refine (E1.out _ h2).mono ?_); rintro e w3 ⟨rfl, h3⟩; have q3 := HF.out _ h3; unfold C6 at q3; obtain ⟨⟨q30, q31, q32, q33, q34, q35⟩, _⟩ := q3)
    | (go_at_call 28; (with_reducible refine (E2.out _ h3).mono ?_); rintro e w4 ⟨rfl, h4⟩)
    | (go_at_call 29; (with_reducible refine (D1.out _ h4).mono ?_); rintro e w5 ⟨A5, c5, B5, d5, rfl, s5, h5⟩; have H5 := Lib.hid (And.intro h5 s5); clear h5 s5)
    | (go_at_call 30; (with_reducible refine (D2.out _).mono ?_); rintro e w6 ⟨A6, c6, B6, d6, rfl, s6, h6⟩; have H6 := Lib.hid (tt_new H5.out.1 H5.out.2 h6 s6); clear s6 h6))
  have hbr := TD.out _ _ _ _ _ _ _ H6.out
  have hx := TF.out _ _ _ _ _ _ _ hbr
  unfold C6 at hx
  go_region_held3 (fun W' : World => ((W'.cell? ⟨w.heap.size, 0, none⟩ = some (.int .i64 x0) ∧ W'.cell? ⟨w.heap.size, 1, none⟩ = some (.int .i64 x1) ∧ W'.cell? ⟨w.heap.size, 2, none⟩ = some (.int .i64 x2) ∧ W'.cell? ⟨w.heap.size, 3, none⟩ = some (.int .i64 x3) ∧ W'.cell? ⟨w.heap.size, 4, none⟩ = some cx ∧ W'.cell? ⟨w.heap.size, 5, none⟩ = some lx) ∧ (W'.cell? ⟨w.heap.size + 1, 0, none⟩ = some (.int .i64 y0) ∧ W'.cell? ⟨w.heap.size + 1, 1, none⟩ = some (.int .i64 y1) ∧ W'.cell? ⟨w.heap.size + 1, 2, none⟩ = some (.int .i64 y2) ∧ W'.cell? ⟨w.heap.size + 1, 3, none⟩ = some (.int .i64 y3) ∧ W'.cell? ⟨w.heap.size + 1, 4, none⟩ = some cy ∧ W'.cell? ⟨w.heap.size + 1, 5, none⟩ = some ly)) ∧ ((W'.cell? ⟨w5.heap.size, 0, none⟩ = some (.int .i64 z0) ∧ W'.cell? ⟨w5.heap.size, 1, none⟩ = some (.int .i64 z1) ∧ W'.cell? ⟨w5.heap.size, 2, none⟩ = some (.int .i64 z2) ∧ W'.cell? ⟨w5.heap.size, 3, none⟩ = some (.int .i64 z3) ∧ W'.cell? ⟨w5.heap.size, 4, none⟩ = some (.slice A5 n1 c5) ∧ W'.cell? ⟨w5.heap.size, 5, none⟩ = some (.slice B5 n2 d5)) ∧ (W'.cell? ⟨w6.heap.size, 0, none⟩ = some (.int .i64 z0) ∧ W'.cell? ⟨w6.heap.size, 1, none⟩ = some (.int .i64 z1) ∧ W'.cell? ⟨w6.heap.size, 2, none⟩ = some (.int .i64 z2) ∧ W'.cell? ⟨w6.heap.size, 3, none⟩ = some (.int .i64 z3) ∧ W'.cell? ⟨w6.heap.size, 4, none⟩ = some (.slice A6 n1 c6) ∧ W'.cell? ⟨w6.heap.size, 5, none⟩ = some (.slice B6 n2 d6))))
    (first | exact hx | exact y7 | exact y8 | exact y9 | exact ya | exact yb | exact yc)
    (first
      | (go_at_call 31; (with_reducible refine (M2.out _ _ _ _ _ _ _ ha).mono ?_); rintro e wb ⟨rfl, hb'⟩; have yb := TF.out _ _ _ _ _ _ _ hb'; unfold C6 at yb)
      | (go_at_call 31; (with_reducible refine (MP.out _ _ _ _ _ _ _ hbr).mono ?_); rintro e w7 ⟨rfl, h7⟩; have y7 := TF.out _ _ _ _ _ _ _ h7; unfold C6 at y7)
      | (go_at_call 32; (with_reducible refine (F1.out _ _ _ _ _ _ _ h7).mono ?_); rintro e w8 ⟨rfl, h8⟩; have y8 := TF.out _ _ _ _ _ _ _ h8; unfold C6 at y8)
      | (go_at_call 33; (with_reducible refine (F2.out _ _ _ _ _ _ _ h8).mono ?_); rintro e w9 ⟨rfl, h9⟩; have y9 := TF.out _ _ _ _ _ _ _ h9; unfold C6 at y9)
      | (go_at_call 34; (with_reducible refine (L1.out _).mono ?_); rintro e wx ⟨rfl, rfl⟩)
      | (go_at_call 35; (with_reducible refine (L2.out _).mono ?_); rintro e wx ⟨rfl, rfl⟩)
      | (go_at_call 36; (with_reducible refine (M1.out _ _ _ _ _ _ _ h9).mono ?_); rintro e wa ⟨rfl, ha⟩; have ya := TF.out _ _ _ _ _ _ _ ha; unfold C6 at ya)
      | (go_at_call 26; (with_reducible refine (AT.out _ _ _ _ _ _ _ hb').mono ?_); rintro e wc ⟨rfl, hc⟩; have yc := TF.out _ _ _ _ _ _ _ hc; unfold C6 at yc))
  all_goals go_wp2
  all_goals go_ret
  all_goals exact ⟨rfl, hc.bel⟩
end Go.Proofs.YtoojdknfommpbaaDoor
