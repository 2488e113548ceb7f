/- The law SuperBack: the walk. -/
import Derived.Test.YtoojdknfommpbaaDoorSuperLaw1
namespace Go.Proofs.YtoojdknfommpbaaDoor
open Go.RowKit
set_option maxRecDepth 10000

theorem fit_in (x : Sup) (v : Value) (w : World) (h : SupIn w x v) (hl : x.check.length ≤ 140737488351232 ∧ x.log.length ≤ 140737488351232) :
    Calls Tryd.prog 32 #[v] w fun e w' => e = .returned (.bool (decide x.fit)) ∧ Below w.heap.size w w' := by
  obtain ⟨A, c, B, d, rfl, h1, h2⟩ := h
  exact sfit_any x A B c d w h1 h2 hl.1 hl.2
theorem fitr_in (x : Sup) (v : Value) (w : World) (h : SupIn w x v) (hl : x.check.length ≤ 140737488351232 ∧ x.log.length ≤ 140737488351232) :
    Calls Tryd.prog 33 #[v] w fun e w' => e = .returned (.bool (decide x.fit)) ∧ Below w.heap.size w w' := by
  obtain ⟨A, c, B, d, rfl, h1, h2⟩ := h
  exact sfit_ref x A B c d w h1 h2 hl.1 hl.2
theorem encr_in (x : Sup) (v : Value) (w : World) (h : SupIn w x v) (hl : x.check.length ≤ 140737488351232 ∧ x.log.length ≤ 140737488351232) :
    Calls Tryd.prog 28 #[v] w fun e w' => e = .returned (.tuple #[.string (mkS (encS x)), .int .i64 (encE x)]) ∧ Below w.heap.size w w' := by
  obtain ⟨A, c, B, d, rfl, h1, h2⟩ := h
  exact enc_ref x A B c d w h1 h2 hl.1 hl.2
theorem dec_ex {w w' : World} {l : List UInt8} {e : Ending} {X : Sup} (h : DecPost w l e w') (hX : decX l = X) : ∃ A c B d, e = .returned (.tuple #[.agg #[.int .i64 X.gen, .int .i64 X.base, .int .i64 X.size, .int .i64 X.cgen, .slice A X.check.length c, .slice B X.log.length d], .int .i64 (decE l)]) ∧
    SupIn w' X (.agg #[.int .i64 X.gen, .int .i64 X.base, .int .i64 X.size, .int .i64 X.cgen, .slice A X.check.length c, .slice B X.log.length d]) ∧ Below w.heap.size w w' := by
  obtain ⟨v, he, ho, hb⟩ := h
  rw [hX] at ho
  have h2 := ho.toIn
  obtain ⟨A, c, B, d, rfl, _⟩ := ho
  exact ⟨A, c, B, d, he, h2, hb⟩
theorem dec_enc {l : List UInt8} (h : decOk l) : encS (decX l) = l ∧ encE (decX l) = 0 ∧ decE l = 0 := by
  have hf : (decX l).fit := by unfold decX; rw [if_pos h]; exact h.2.2.1
  refine ⟨?_, by unfold encE; rw [if_pos hf], by unfold decE; rw [if_pos h]⟩
  unfold encS; rw [if_pos hf]; unfold decX; rw [if_pos h]; exact dec_is h
theorem supB_length {x : Sup} (h : x.fit) : (supB x).length = 128 := sealB_length _ _ (encB_length h)

section
variable (x : Sup) (A B : Option Addr) (c d : Nat) (w : World) (hx : SupIn w x (SupV x (.slice A x.check.length c) (.slice B x.log.length d)))
/-- What the law's box holds goes on. -/
theorem SX.sup {x : Sup} {cv lv : Value} {w W : World} (hx : SupIn w x (SupV x cv lv)) (h : SX w x cv lv W) : SupIn W x (SupV x cv lv) := hx.below h.bel
end
theorem SX.facts {x : Sup} {cv lv : Value} {w W : World} (h : SX w x cv lv W) : W.cell? ⟨w.heap.size, 0, none⟩ = some (.int .i64 x.gen) ∧ W.cell? ⟨w.heap.size, 1, none⟩ = some (.int .i64 x.base) ∧ W.cell? ⟨w.heap.size, 2, none⟩ = some (.int .i64 x.size) ∧ W.cell? ⟨w.heap.size, 3, none⟩ = some (.int .i64 x.cgen) ∧ W.cell? ⟨w.heap.size, 4, none⟩ = some cv ∧ W.cell? ⟨w.heap.size, 5, none⟩ = some lv := cells6 h.1

set_option maxHeartbeats 8000000 in
theorem superBack_walk (v : Value) (x : Sup) (s : ByteArray) (w : World) (hx : SupIn w x v ∧ x.check.length ≤ maxLen ∧ x.log.length ≤ maxLen) (hs : s.size ≤ maxLen) :
    Calls Tryd.prog 9 #[v, .string s] w fun e w' => e = .returned (.bool true) ∧ Below w.heap.size w w' := by
  unfold maxLen at hs
  replace hx := hx.1
  have hx0 := hx
  obtain ⟨A, c, B, d, rfl, _⟩ := hx
  obtain ⟨cv, hcv⟩ : ∃ cv, Value.slice A x.check.length c = cv := ⟨_, rfl⟩
  obtain ⟨lv, hlv⟩ : ∃ lv, Value.slice B x.log.length d = lv := ⟨_, rfl⟩
  rw [hcv, hlv] at hx0 ⊢
  have HB0 := Lib.hid (SX.new w x cv lv)
  have HF : Hid (∀ W, SX w x cv lv W → W.cell? ⟨w.heap.size, 0, none⟩ = some (.int .i64 x.gen) ∧ W.cell? ⟨w.heap.size, 1, none⟩ = some (.int .i64 x.base) ∧ W.cell? ⟨w.heap.size, 2, none⟩ = some (.int .i64 x.size) ∧ W.cell? ⟨w.heap.size, 3, none⟩ = some (.int .i64 x.cgen) ∧ W.cell? ⟨w.heap.size, 4, none⟩ = some cv ∧ W.cell? ⟨w.heap.size, 5, none⟩ = some lv) := Lib.hid fun W h => h.facts
  have FW : Hid (∀ W, SX w x cv lv W → Calls Tryd.prog 25 #[SupV x cv lv] W fun e w' => e = .returned (.bool (decide x.few)) ∧ SX w x cv lv w') := Lib.hid fun W h =>
    (sfew_any x _ W (h.sup hx0)).mono fun e w' ⟨he, hb⟩ => ⟨he, h.below hb⟩
  have AW : Hid (∀ W, SX w x cv lv W → Calls Tryd.prog 26 #[] W fun e w' => e = .returned (.bool true) ∧ SX w x cv lv w') := Lib.hid fun W h =>
    (awake07_any W).mono fun e w' ⟨he, hb⟩ => ⟨he, h.below hb⟩
  by_cases hf : x.few
  case neg =>
    rw [decide_eq_false hf] at FW
    clear hf
    obtain ⟨x0, x1, x2, x3, x4, x5⟩ := x
    unfold SupV at *
    simp only at *
    clear hcv hlv
    go_enter Tryd.func9, Tryd.ntmps9
    go_wp2_with (first
      | (go_at_call 25; (with_reducible refine (FW.out _ HB0.out).mono ?_); rintro e w1 ⟨rfl, h1⟩)
      | (go_at_call 26; (with_reducible refine (AW.out _ h1).mono ?_); rintro e w2 ⟨rfl, h2⟩))
    go_ret
    exact ⟨rfl, h2.bel⟩
  have hfl := hf
  rw [decide_eq_true hf] at FW
  by_cases h6 : 300 < s.size
  · have h6I : 300 < (s.size : Int) := by omega
    clear h6 hf
    obtain ⟨x0, x1, x2, x3, x4, x5⟩ := x
    unfold SupV at *
    simp only at *
    clear hcv hlv
    go_enter Tryd.func9, Tryd.ntmps9
    go_wp2_with (first
      | (go_at_call 25; (with_reducible refine (FW.out _ HB0.out).mono ?_); rintro e w1 ⟨rfl, h1⟩)
      | (go_at_call 26; (with_reducible refine (AW.out _ h1).mono ?_); rintro e w2 ⟨rfl, h2⟩))
    go_ret
    exact ⟨rfl, h2.bel⟩
  unfold Sup.few at hfl
  obtain ⟨l, rfl⟩ : ∃ l0, s = mkS l0 := ⟨bl s, (mkS_bl s).symm⟩
  have h6I : ((mkS l).size : Int) ≤ 300 := by omega
  have hrefl : (decide (sameS x x)) = true := decide_eq_true (sameS_iff.2 rfl)
  have SM : Hid (∀ (W : World) u, SX w x cv lv W ∧ SupIn W x u → Calls Tryd.prog 36 #[SupV x cv lv, u] W fun e w' => e = .returned (.bool true) ∧ SX w x cv lv w') := Lib.hid fun W u h =>
    (ssame_any x x _ u W (h.1.sup hx0) h.2 (by omega)).mono fun e w' ⟨he, hb⟩ => ⟨by rw [he, hrefl], h.1.below hb⟩
  obtain ⟨Y, hY⟩ : ∃ Y, decX l = Y := ⟨_, rfl⟩
  have hYl := decX_le l
  rw [hY] at hYl
  have DS : Hid (∀ W, SX w x cv lv W → Calls Tryd.prog 29 #[.string (mkS l)] W fun e w' => ∃ A c B d, e = .returned (.tuple #[.agg #[.int .i64 Y.gen, .int .i64 Y.base, .int .i64 Y.size, .int .i64 Y.cgen, .slice A Y.check.length c, .slice B Y.log.length d], .int .i64 (decE l)]) ∧
    SupIn w' Y (.agg #[.int .i64 Y.gen, .int .i64 Y.base, .int .i64 Y.size, .int .i64 Y.cgen, .slice A Y.check.length c, .slice B Y.log.length d]) ∧ SX w x cv lv w') := Lib.hid fun W h =>
    (sdec_any l W).mono fun e w' hp => by
      obtain ⟨A, c, B, d, he, hs, hb⟩ := dec_ex hp hY
      exact ⟨A, c, B, d, he, hs, h.below hb⟩
  have EY : Hid (∀ (W : World) u, SX w x cv lv W ∧ SupIn W Y u → Calls Tryd.prog 27 #[u] W fun e w' => e = .returned (.tuple #[.string (mkS (encS Y)), .int .i64 (encE Y)]) ∧ SX w x cv lv w') := Lib.hid fun W u h =>
    (enc_in Y u W h.2 (by omega)).mono fun e w' ⟨he, hb⟩ => ⟨he, h.1.below hb⟩
  have FX : Hid (∀ W, SX w x cv lv W → Calls Tryd.prog 32 #[SupV x cv lv] W fun e w' => e = .returned (.bool (decide x.fit)) ∧ SX w x cv lv w') := Lib.hid fun W h =>
    (fit_in x _ W (h.sup hx0) (by omega)).mono fun e w' ⟨he, hb⟩ => ⟨he, h.below hb⟩
  have EX : Hid (∀ W, SX w x cv lv W → Calls Tryd.prog 27 #[SupV x cv lv] W fun e w' => e = .returned (.tuple #[.string (mkS (encS x)), .int .i64 (encE x)]) ∧ SX w x cv lv w') := Lib.hid fun W h =>
    (enc_in x _ W (h.sup hx0) (by omega)).mono fun e w' ⟨he, hb⟩ => ⟨he, h.below hb⟩
  have hBS : decOk l → mkS (encS Y) = mkS l ∧ encE Y = 0 ∧ decE l = 0 := fun h => by
    obtain ⟨k1, k2, k3⟩ := dec_enc h
    rw [hY] at k1 k2
    exact ⟨by rw [k1], k2, k3⟩
  have hBad : ¬ decOk l → decE l = 12 := fun h => by unfold decE; rw [if_neg h]
  by_cases hft : x.fit
  · obtain ⟨AS, hAS⟩ : ∃ AS, mkS (supB x) = AS := ⟨_, rfl⟩
    have hzI : (AS.size : Int) = 128 := by rw [← hAS, mkS_size, supB_length hft]; rfl
    have e1 : encS x = supB x ∧ encE x = 0 := by unfold encS encE; rw [if_pos hft, if_pos hft]; exact ⟨rfl, rfl⟩
    obtain ⟨da, xa⟩ := decX_sup hft
    rw [e1.1, e1.2, hAS] at EX
    rw [decide_eq_true hft] at FX
    have DX : Hid (∀ W, SX w x cv lv W → Calls Tryd.prog 29 #[.string AS] W fun e w' => ∃ A c B d, e = .returned (.tuple #[.agg #[.int .i64 x.gen, .int .i64 x.base, .int .i64 x.size, .int .i64 x.cgen, .slice A x.check.length c, .slice B x.log.length d], .int .i64 0]) ∧
      SupIn w' x (.agg #[.int .i64 x.gen, .int .i64 x.base, .int .i64 x.size, .int .i64 x.cgen, .slice A x.check.length c, .slice B x.log.length d]) ∧ SX w x cv lv w') := Lib.hid fun W h => by
      rw [← hAS]
      exact (sdec_any _ W).mono fun e w' hp => by
        obtain ⟨A, c, B, d, he, hs, hb⟩ := dec_ex hp xa
        rw [(dec_enc da).2.2] at he
        exact ⟨A, c, B, d, he, hs, h.below hb⟩
    clear e1 da xa hAS hrefl
    obtain ⟨n1, hn1⟩ : ∃ n, x.check.length = n := ⟨_, rfl⟩
    obtain ⟨n2, hn2⟩ : ∃ n, x.log.length = n := ⟨_, rfl⟩
    obtain ⟨n3, hn3⟩ : ∃ n, Y.check.length = n := ⟨_, rfl⟩
    obtain ⟨n4, hn4⟩ : ∃ n, Y.log.length = n := ⟨_, rfl⟩
    rw [hn1, hn2] at DX
    rw [hn3, hn4] at DS
    by_cases hok : decOk l
    · obtain ⟨b1, b2, b3⟩ := hBS hok
      rw [b1, b2] at EY
      rw [b3] at DS
      clear b1 b2 b3 hBS hBad hok hn1 hn2 hn3 hn4 hY hYl hft hfl hf h6 hcv hlv
      generalize mkS l = SS at *
      have hSS := str_eq (show SS = SS from rfl)
      obtain ⟨x0, x1, x2, x3, x4, x5⟩ := x
      obtain ⟨y0, y1, y2, y3, y4, y5⟩ := Y
      unfold SupV at *
      simp only at *
      go_enter Tryd.func9, Tryd.ntmps9
      go_wp2_with (first
        | (go_at_call 25; (with_reducible refine (FW.out _ HB0.out).mono ?_); rintro e w1 ⟨rfl, h1⟩; have q1 := HF.out _ h1; obtain ⟨q10, q11, q12, q13, q14, q15⟩ := q1)
        | (go_at_call 27; (with_reducible refine (EX.out _ h1).mono ?_); rintro e w2 ⟨rfl, h2⟩)
        | (go_at_call 29; (with_reducible refine (DX.out _ h2).mono ?_); rintro e w3 ⟨A3, c3, B3, d3, rfl, s3, h3⟩; have H3 := Lib.hid (fun o => And.intro (h3.below (below_new w3 o)) (s3.below (below_new w3 o))); have q30 := fun o => (HF.out _ (H3.out o).1).1; have q31 := fun o => (HF.out _ (H3.out o).1).2.1; have q32 := fun o => (HF.out _ (H3.out o).1).2.2.1; have q33 := fun o => (HF.out _ (H3.out o).1).2.2.2.1; have q34 := fun o => (HF.out _ (H3.out o).1).2.2.2.2.1; have q35 := fun o => (HF.out _ (H3.out o).1).2.2.2.2.2; clear s3)
        | (go_at_call 36; (with_reducible refine (SM.out _ _ (H3.out _)).mono ?_); rintro e w4 ⟨rfl, h4⟩)
        | (go_at_call 29; (with_reducible refine (DS.out _ h4).mono ?_); rintro e w5 ⟨A5, c5, B5, d5, rfl, s5, h5⟩; have H5 := Lib.hid (fun o => And.intro (h5.below (below_new w5 o)) (s5.below (below_new w5 o))); clear s5)
        | (go_at_call 27; (with_reducible refine (EY.out _ _ (H5.out _)).mono ?_); rintro e w6 ⟨rfl, h6⟩; have q6 := HF.out _ h6; obtain ⟨q60, q61, q62, q63, q64, q65⟩ := q6)
        | (go_at_call 32; (with_reducible refine (FX.out _ h6).mono ?_); rintro e w7 ⟨rfl, h7⟩)
        | (go_at_call 26; (with_reducible refine (AW.out _ h7).mono ?_); rintro e w8 ⟨rfl, h8⟩))
      go_ret
      exact ⟨rfl, h8.bel⟩
    · have b3 := hBad hok
      rw [b3] at DS
      obtain ⟨BS, hb1⟩ : ∃ b, mkS (encS Y) = b := ⟨_, rfl⟩
      obtain ⟨HE, hb2⟩ : ∃ b, encE Y = b := ⟨_, rfl⟩
      rw [hb1, hb2] at EY
      clear b3 hb1 hb2 hBS hBad hok hn1 hn2 hn3 hn4 hY hYl hft hfl hf h6 hcv hlv
      generalize mkS l = SS at *
      obtain ⟨x0, x1, x2, x3, x4, x5⟩ := x
      obtain ⟨y0, y1, y2, y3, y4, y5⟩ := Y
      unfold SupV at *
      simp only at *
      go_enter Tryd.func9, Tryd.ntmps9
      go_wp2_with (first
        | (go_at_call 25; (with_reducible refine (FW.out _ HB0.out).mono ?_); rintro e w1 ⟨rfl, h1⟩; have q1 := HF.out _ h1; obtain ⟨q10, q11, q12, q13, q14, q15⟩ := q1)
        | (go_at_call 27; (with_reducible refine (EX.out _ h1).mono ?_); rintro e w2 ⟨rfl, h2⟩)
        | (go_at_call 29; (with_reducible refine (DX.out _ h2).mono ?_); rintro e w3 ⟨A3, c3, B3, d3, rfl, s3, h3⟩; have H3 := Lib.hid (fun o => And.intro (h3.below (below_new w3 o)) (s3.below (below_new w3 o))); have q30 := fun o => (HF.out _ (H3.out o).1).1; have q31 := fun o => (HF.out _ (H3.out o).1).2.1; have q32 := fun o => (HF.out _ (H3.out o).1).2.2.1; have q33 := fun o => (HF.out _ (H3.out o).1).2.2.2.1; have q34 := fun o => (HF.out _ (H3.out o).1).2.2.2.2.1; have q35 := fun o => (HF.out _ (H3.out o).1).2.2.2.2.2; clear s3)
        | (go_at_call 36; (with_reducible refine (SM.out _ _ (H3.out _)).mono ?_); rintro e w4 ⟨rfl, h4⟩)
        | (go_at_call 29; (with_reducible refine (DS.out _ h4).mono ?_); rintro e w5 ⟨A5, c5, B5, d5, rfl, s5, h5⟩; have H5 := Lib.hid (fun o => And.intro (h5.below (below_new w5 o)) (s5.below (below_new w5 o))); clear s5)
        | (go_at_call 27; (with_reducible refine (EY.out _ _ (H5.out _)).mono ?_); rintro e w6 ⟨rfl, h6⟩; have q6 := HF.out _ h6; obtain ⟨q60, q61, q62, q63, q64, q65⟩ := q6)
        | (go_at_call 32; (with_reducible refine (FX.out _ h6).mono ?_); rintro e w7 ⟨rfl, h7⟩)
        | (go_at_call 26; (with_reducible refine (AW.out _ h7).mono ?_); rintro e w8 ⟨rfl, h8⟩))
      go_ret
      exact ⟨rfl, h8.bel⟩
  · have e1 : mkS (encS x) = ⟨#[]⟩ ∧ encE x = 1 := by unfold encS encE; rw [if_neg hft, if_neg hft]; exact ⟨rfl, rfl⟩
    rw [e1.1, e1.2] at EX
    rw [decide_eq_false hft] at FX
    clear e1 hrefl SM
    obtain ⟨n3, hn3⟩ : ∃ n, Y.check.length = n := ⟨_, rfl⟩
    obtain ⟨n4, hn4⟩ : ∃ n, Y.log.length = n := ⟨_, rfl⟩
    rw [hn3, hn4] at DS
    by_cases hok : decOk l
    · obtain ⟨b1, b2, b3⟩ := hBS hok
      rw [b1, b2] at EY
      rw [b3] at DS
      clear b1 b2 b3 hBS hBad hok hn3 hn4 hY hYl hft hfl hf h6 hcv hlv
      generalize mkS l = SS at *
      have hSS := str_eq (show SS = SS from rfl)
      obtain ⟨x0, x1, x2, x3, x4, x5⟩ := x
      obtain ⟨y0, y1, y2, y3, y4, y5⟩ := Y
      unfold SupV at *
      simp only at *
      go_enter Tryd.func9, Tryd.ntmps9
      go_wp2_with (first
        | (go_at_call 25; (with_reducible refine (FW.out _ HB0.out).mono ?_); rintro e w1 ⟨rfl, h1⟩; have q1 := HF.out _ h1; obtain ⟨q10, q11, q12, q13, q14, q15⟩ := q1)
        | (go_at_call 27; (with_reducible refine (EX.out _ h1).mono ?_); rintro e w2 ⟨rfl, h2⟩)
        | (go_at_call 29; (with_reducible refine (DS.out _ h2).mono ?_); rintro e w5 ⟨A5, c5, B5, d5, rfl, s5, h5⟩; have H5 := Lib.hid (fun o => And.intro (h5.below (below_new w5 o)) (s5.below (below_new w5 o))); clear s5)
        | (go_at_call 27; (with_reducible refine (EY.out _ _ (H5.out _)).mono ?_); rintro e w6 ⟨rfl, h6⟩; have q6 := HF.out _ h6; obtain ⟨q60, q61, q62, q63, q64, q65⟩ := q6)
        | (go_at_call 32; (with_reducible refine (FX.out _ h6).mono ?_); rintro e w7 ⟨rfl, h7⟩)
        | (go_at_call 26; (with_reducible refine (AW.out _ h7).mono ?_); rintro e w8 ⟨rfl, h8⟩))
      go_ret
      exact ⟨rfl, h8.bel⟩
    · have b3 := hBad hok
      rw [b3] at DS
      obtain ⟨BS, hb1⟩ : ∃ b, mkS (encS Y) = b := ⟨_, rfl⟩
      obtain ⟨HE, hb2⟩ : ∃ b, encE Y = b := ⟨_, rfl⟩
      rw [hb1, hb2] at EY
      clear b3 hb1 hb2 hBS hBad hok hn3 hn4 hY hYl hft hfl hf h6 hcv hlv
      generalize mkS l = SS at *
      obtain ⟨x0, x1, x2, x3, x4, x5⟩ := x
      obtain ⟨y0, y1, y2, y3, y4, y5⟩ := Y
      unfold SupV at *
      simp only at *
      go_enter Tryd.func9, Tryd.ntmps9
      go_wp2_with (first
        | (go_at_call 25; (with_reducible refine (FW.out _ HB0.out).mono ?_); rintro e w1 ⟨rfl, h1⟩; have q1 := HF.out _ h1; obtain ⟨q10, q11, q12, q13, q14, q15⟩ := q1)
        | (go_at_call 27; (with_reducible refine (EX.out _ h1).mono ?_); rintro e w2 ⟨rfl, h2⟩)
        | (go_at_call 29; (with_reducible refine (DS.out _ h2).mono ?_); rintro e w5 ⟨A5, c5, B5, d5, rfl, s5, h5⟩; have H5 := Lib.hid (fun o => And.intro (h5.below (below_new w5 o)) (s5.below (below_new w5 o))); clear s5)
        | (go_at_call 27; (with_reducible refine (EY.out _ _ (H5.out _)).mono ?_); rintro e w6 ⟨rfl, h6⟩; have q6 := HF.out _ h6; obtain ⟨q60, q61, q62, q63, q64, q65⟩ := q6)
        | (go_at_call 32; (with_reducible refine (FX.out _ h6).mono ?_); rintro e w7 ⟨rfl, h7⟩)
        | (go_at_call 26; (with_reducible refine (AW.out _ h7).mono ?_); rintro e w8 ⟨rfl, h8⟩))
      go_ret
      exact ⟨rfl, h8.bel⟩
end Go.Proofs.YtoojdknfommpbaaDoor
