/- The walk of draymanref07.Encode. -/
import Derived.Test.YtoojdknfommpbaaDoorSuperFitRef2
namespace Go.Proofs.YtoojdknfommpbaaDoor
open Go.RowKit
set_option maxRecDepth 10000

set_option maxHeartbeats 2000000 in
theorem enc_ref (x : Sup) (A B : Option Addr) (c d : Nat) (w : World) (h1 : Sl (Value.int .i64) w (.slice A x.check.length c) x.check) (h2 : Sl (Value.int .i64) w (.slice B x.log.length d) x.log) (hl1 : x.check.length ≤ 140737488351232) (hl2 : x.log.length ≤ 140737488351232) :
    Calls Tryd.prog 28 #[SupV x (.slice A x.check.length c) (.slice B x.log.length d)] w fun e w' => e = .returned (.tuple #[.string (mkS (encS x)), .int .i64 (encE x)]) ∧ Below w.heap.size w w' := by
  have FT : Hid (∀ W, SX w x (.slice A x.check.length c) (.slice B x.log.length d) W → Calls Tryd.prog 33 #[SupV x (.slice A x.check.length c) (.slice B x.log.length d)] W fun e w' => e = .returned (.bool (decide x.fit)) ∧ SX w x (.slice A x.check.length c) (.slice B x.log.length d) w') := Lib.hid fun W h =>
    (sfit_ref x A B c d W (h1.below h.2) (h2.below h.2) hl1 hl2).mono fun e w' ⟨he, hb⟩ => ⟨he, h.below hb⟩
  have HB0 := Lib.hid (SX.new w x (.slice A x.check.length c) (.slice B x.log.length d))
  by_cases hf : x.fit
  case neg =>
    rw [decide_eq_false hf] at FT
    have HE : Hid (encS x = [] ∧ encE x = 1) := Lib.hid (by unfold encS encE; rw [if_neg hf, if_neg hf]; exact ⟨rfl, rfl⟩)
    rw [HE.out.1, HE.out.2]
    obtain ⟨gen, base, size, cgen, chk, lg⟩ := x
    unfold SupV at *
    simp only at *
    clear h1 h2 hl1 hl2 hf
    go_enter Tryd.func28, Tryd.ntmps28
    go_wp2_with (go_at_call 33; (with_reducible refine (FT.out _ HB0.out).mono ?_); rintro e w1 ⟨rfl, hx1⟩)
    go_ret2
    exact ⟨rfl, hx1.2⟩
  rw [decide_eq_true hf] at FT
  have HE : Hid (encS x = supB x ∧ encE x = 0) := Lib.hid (by unfold encS encE; rw [if_pos hf, if_pos hf]; exact ⟨rfl, rfl⟩)
  rw [HE.out.1, HE.out.2]
  have hl := fit_lengths hf
  have IN : Hid (∀ W : World, Calls Tryd.prog 70 #[.slice (some ⟨W.heap.size, 0, none⟩) 4 4] (W.alloc (.cells #[.int .i64 x.gen, .int .i64 x.base, .int .i64 x.size, .int .i64 x.cgen] 3)).drew fun e w' => e = .returned (.string (mkS (intsB [x.gen, x.base, x.size, x.cgen]))) ∧ Below W.heap.size W w') := Lib.hid fun W =>
    (intsRef_any _ [x.gen, x.base, x.size, x.cgen] _ ((sl_lit (Value.int .i64) W [x.gen, x.base, x.size, x.cgen] _ 3 4 rfl rfl).below (below_drewS _)) (by simp) (fit_nums hf)).mono fun e w' ⟨he, hb⟩ => ⟨he, below_next (below_new W _).drew hb⟩
  have OC : Hid (∀ W, Below w.heap.size w W → Calls Tryd.prog 72 #[.slice A x.check.length c] W fun e w' => e = .returned (.string (mkS (octs x.check))) ∧ Below W.heap.size W w') := Lib.hid fun W h =>
    octRef_any _ x.check W (h1.below h) (by omega) (fit_segs hf).1
  have OL : Hid (∀ W, Below w.heap.size w W → Calls Tryd.prog 72 #[.slice B x.log.length d] W fun e w' => e = .returned (.string (mkS (octs x.log))) ∧ Below W.heap.size W w') := Lib.hid fun W h =>
    octRef_any _ x.log W (h2.below h) (by omega) (fit_segs hf).2
  have TC : Hid (∀ W, Calls Tryd.prog 71 #[.string (mkS (octs x.check))] W fun e w' => e = .returned (.string (mkS (textB (octs x.check)))) ∧ Below W.heap.size W w') := Lib.hid fun W => textRef_any _ W (by rw [octs_length]; omega)
  have TL : Hid (∀ W, Calls Tryd.prog 71 #[.string (mkS (octs x.log))] W fun e w' => e = .returned (.string (mkS (textB (octs x.log)))) ∧ Below W.heap.size W w') := Lib.hid fun W => textRef_any _ W (by rw [octs_length]; omega)
  have hle := encB_length hf
  have hq : intsB [x.gen, x.base, x.size, x.cgen] ++ textB (octs x.check) ++ textB (octs x.log) = encB x := by rw [enc_ints]; rfl
  have hqn : (intsB [x.gen, x.base, x.size, x.cgen] ++ textB (octs x.check)).length ≤ 104 := by
    have := congrArg List.length hq
    rw [List.length_append] at this; omega
  have ad1 := fun P W => add_at (show mkS (intsB [x.gen, x.base, x.size, x.cgen]) ++ mkS (textB (octs x.check)) = mkS (intsB [x.gen, x.base, x.size, x.cgen] ++ textB (octs x.check)) from mkS_append _ _) (by rw [mkS_size]; omega) P W
  have ad2 := fun P W => add_at (show mkS (intsB [x.gen, x.base, x.size, x.cgen] ++ textB (octs x.check)) ++ mkS (textB (octs x.log)) = mkS (encB x) by rw [mkS_append, hq]) (by rw [mkS_size]; omega) P W
  have SE : Hid (∀ W, Calls Tryd.prog 14 #[.agg #[.int .i64 x.gen, .int .i64 0, .int .i64 1], .string (mkS (encB x))] W fun e w' => e = .returned (.tuple #[.string (mkS (supB x)), .int .i64 0]) ∧ Below W.heap.size W w') := Lib.hid fun W =>
    (seal_ref (stampB x) (mkS (encB x)) W (by rw [mkS_size]; omega)).mono fun e w' ⟨he, hb⟩ => by
      obtain ⟨k1, k2⟩ := seal_ok (stamp_fit hf) hle
      exact ⟨by rw [he, bl_mkS, k1, k2]; rfl, hb⟩
  have DR : Hid (∀ W, SX w x (.slice A x.check.length c) (.slice B x.log.length d) W → SX w x (.slice A x.check.length c) (.slice B x.log.length d) W.drew) := Lib.hid fun W h => h.below (below_drewS W)
  have FA : Hid (∀ W, SX w x (.slice A x.check.length c) (.slice B x.log.length d) W → W.cell? ⟨w.heap.size, 0, none⟩ = some (.int .i64 x.gen) ∧ W.cell? ⟨w.heap.size, 1, none⟩ = some (.int .i64 x.base) ∧ W.cell? ⟨w.heap.size, 2, none⟩ = some (.int .i64 x.size) ∧ W.cell? ⟨w.heap.size, 3, none⟩ = some (.int .i64 x.cgen) ∧ W.cell? ⟨w.heap.size, 4, none⟩ = some (.slice A x.check.length c) ∧ W.cell? ⟨w.heap.size, 5, none⟩ = some (.slice B x.log.length d)) := Lib.hid fun W h => cells6 h.1
  clear hle hq hqn h1 h2 hl1 hl2 hf hl
  generalize mkS (intsB [x.gen, x.base, x.size, x.cgen]) = S1 at *
  generalize mkS (intsB [x.gen, x.base, x.size, x.cgen] ++ textB (octs x.check)) = S2 at *
  generalize mkS (textB (octs x.check)) = S3 at *
  generalize mkS (textB (octs x.log)) = S4 at *
  generalize mkS (octs x.check) = S5 at *
  generalize mkS (octs x.log) = S6 at *
  generalize mkS (encB x) = S7 at *
  generalize x.check.length = n at *
  generalize x.log.length = m at *
  obtain ⟨S8, hS8⟩ : ∃ S8, mkS (supB x) = S8 := ⟨_, rfl⟩
  rw [hS8] at SE ⊢
  clear hS8 HE
  obtain ⟨gen, base, size, cgen, chk, lg⟩ := x
  unfold SupV at *
  simp only at *
  go_enter Tryd.func28, Tryd.ntmps28
  go_wp2_with (go_at_call 33; (with_reducible refine (FT.out _ HB0.out).mono ?_); rintro e w1 ⟨rfl, hx1⟩)
  have HX2 := Lib.hid hx1
  have hx := FA.out _ (DR.out _ hx1)
  clear hx1
  go_region_held3 (fun W' : World => W'.cell? ⟨w.heap.size, 0, none⟩ = some (.int .i64 gen) ∧ W'.cell? ⟨w.heap.size, 1, none⟩ = some (.int .i64 base) ∧ W'.cell? ⟨w.heap.size, 2, none⟩ = some (.int .i64 size) ∧ W'.cell? ⟨w.heap.size, 3, none⟩ = some (.int .i64 cgen) ∧ W'.cell? ⟨w.heap.size, 4, none⟩ = some (.slice A n c) ∧ W'.cell? ⟨w.heap.size, 5, none⟩ = some (.slice B m d))
    (first | exact hx | exact q2 | exact q3 | exact q4 | exact q5 | exact q6 | exact q7 | exact FA.out _ (DR.out _ (HX2.out.below (below_new _ _))) | exact FA.out _ (HX2.out.below ((Below.refl _ _).drew.alloc (Nat.le_refl _) _)))
    (first
    | (go_at_call 70; (with_reducible refine (IN.out _).mono ?_); rintro e w2 ⟨rfl, hb2⟩; have X2 := Lib.hid (HX2.out.below hb2); have q2 := FA.out _ X2.out; clear hb2)
    | (go_at_call 72; (with_reducible refine (OC.out _ X2.out.bel).mono ?_); rintro e w3 ⟨rfl, hb3⟩; have X3 := Lib.hid (X2.out.below hb3); have q3 := FA.out _ X3.out; clear hb3)
    | (go_at_call 71; (with_reducible refine (TC.out _).mono ?_); rintro e w4 ⟨rfl, hb4⟩; have X4 := Lib.hid (X3.out.below hb4); have q4 := FA.out _ X4.out; clear hb4)
    | (go_at_call 72; (with_reducible refine (OL.out _ X4.out.bel).mono ?_); rintro e w5 ⟨rfl, hb5⟩; have X5 := Lib.hid (X4.out.below hb5); have q5 := FA.out _ X5.out; clear hb5)
    | (go_at_call 71; (with_reducible refine (TL.out _).mono ?_); rintro e w6 ⟨rfl, hb6⟩; have X6 := Lib.hid (X5.out.below hb6); have q6 := FA.out _ X6.out; clear hb6)
    | (go_at_call 14; (with_reducible refine (SE.out _).mono ?_); rintro e w7 ⟨rfl, hb7⟩; have X7 := Lib.hid (X6.out.below hb7); have q7 := FA.out _ X7.out; clear hb7))
  go_wp2
  go_ret2
  exact ⟨rfl, X7.out.2⟩
end Go.Proofs.YtoojdknfommpbaaDoor
