/- The walk of draymanref06.Open. -/
import Derived.Test.YtoojdknfommpbaaDoorStampOpen
namespace Go.Proofs.YtoojdknfommpbaaDoor
open Go.RowKit
set_option maxRecDepth 10000

theorem OS.facts {w W : World} (h : OS w W) : (W.cell? ⟨w.heap.size, 0, none⟩ = some (.int .i64 0) ∧ W.cell? ⟨w.heap.size, 1, none⟩ = some (.int .i64 0) ∧ W.cell? ⟨w.heap.size, 2, none⟩ = some (.int .i64 0)) ∧
    (W.frozen? ⟨w.heap.size, 0, none⟩ = false ∧ W.frozen? ⟨w.heap.size, 1, none⟩ = false ∧ W.frozen? ⟨w.heap.size, 2, none⟩ = false) := ⟨cells3 h.1, free3 h.1⟩
theorem openRef_short (l : List UInt8) (w : World) (h128 : ¬ l.length = 128) :
    Calls Tryd.prog 21 #[.string (mkS l)] w fun e w' => e = .returned (.tuple #[Stp.zero.val, .string (mkS []), .int .i64 12]) ∧ Below w.heap.size w w' := by
  obtain ⟨S0, hS0⟩ : ∃ S0, mkS l = S0 := ⟨_, rfl⟩
  have hz : S0.size = l.length := by rw [← hS0, mkS_size]
  rw [hS0]; clear hS0
  have hb0 := Lib.hid (below_new w (.cells #[.int .i64 0, .int .i64 0, .int .i64 0] 23))
  have h1 : (((S0.size : Int)) != 128) = true := by simp; omega
  clear hz h128
  go_enter Tryd.func21, Tryd.ntmps21
  go_wp2
  go_returns
  exact ⟨rfl, hb0.out⟩
theorem sealE_body {l : List UInt8} (h : l.length = 128) (hn : lenOf l ≤ 104) : sealE (stOf l) (bodyOf l) = if (stOf l).fit then 0 else 1 := by
  unfold sealE
  rw [if_pos (show (bodyOf l).length ≤ 104 by rw [bodyOf_length h hn]; exact hn)]
theorem sealS_body {l : List UInt8} (h : l.length = 128) (hn : lenOf l ≤ 104) (hf : (stOf l).fit) : sealS (stOf l) (bodyOf l) = sealB (stOf l) (bodyOf l) := by
  unfold sealS; rw [sealE_body h hn, if_pos hf]; rfl
set_option maxHeartbeats 4000000 in
theorem open_ref (l : List UInt8) (w : World) : Calls Tryd.prog 21 #[.string (mkS l)] w (OpenPost w l) := by
  by_cases h128 : l.length = 128
  case neg => exact (openRef_short l w h128).mono fun e w' ⟨he, hb⟩ => openPost_bad (fun h => h128 h.1) he hb
  obtain ⟨S0, hS0⟩ : ∃ S0, mkS l = S0 := ⟨_, rfl⟩
  have HS0 := Lib.hid hS0
  have hz : S0.size = 128 := by rw [← hS0, mkS_size]; exact h128
  rw [hS0]; clear hS0
  have h1 : (S0.size : Int) = 128 := by omega
  have mid : ∀ (a b : Nat), a ≤ b → b ≤ 128 → ∀ W : World, (Instr.slice 9 (.string S0) (some (.int .i64 (a : Int))) (some (.int .i64 (b : Int))) none).run Tryd.prog W = .ok (.string (mkS ((l.take b).drop a))) W := fun a b hab hb W => by
    rw [run_slice_string W 9 S0 .i64 .i64 (a : Int) (b : Int) Tryd.underlying9 (by omega) (by omega) (by omega), ← HS0.out, mkS_extract]; rfl
  have f6 : ∀ W : World, (Instr.slice 9 (.string S0) none (some (.int .i64 6)) none).run Tryd.prog W = .ok (.string (mkS (l.take 6))) W := fun W => by
    rw [run_slice_string_h W 9 S0 Tryd.underlying9 .i64 6 (by omega) (by omega), ← HS0.out, mkS_extract]; rfl
  have f68 : ∀ W : World, (Instr.slice 9 (.string S0) (some (.int .i64 6)) (some (.int .i64 8)) none).run Tryd.prog W = .ok (.string (mkS ((l.take 8).drop 6))) W := mid 6 8 (by omega) (by omega)
  have f810 : ∀ W : World, (Instr.slice 9 (.string S0) (some (.int .i64 8)) (some (.int .i64 10)) none).run Tryd.prog W = .ok (.string (mkS ((l.take 10).drop 8))) W := mid 8 10 (by omega) (by omega)
  have f1012 : ∀ W : World, (Instr.slice 9 (.string S0) (some (.int .i64 10)) (some (.int .i64 12)) none).run Tryd.prog W = .ok (.string (mkS ((l.take 12).drop 10))) W := mid 10 12 (by omega) (by omega)
  have len : ∀ (a b : Nat), a ≤ b → b ≤ 128 → ((l.take b).drop a).length = b - a := fun a b _ hb => len_mid h128 a b hb
  have hl6 : (l.take 6).length = 6 := by rw [List.length_take, h128]; rfl
  obtain ⟨x, hx⟩ : ∃ x, rdT (l.take 6) = x := ⟨_, rfl⟩
  obtain ⟨y, hy⟩ : ∃ y, rdT ((l.take 8).drop 6) = y := ⟨_, rfl⟩
  obtain ⟨z, hzz⟩ : ∃ z, rdT ((l.take 10).drop 8) = z := ⟨_, rfl⟩
  obtain ⟨n, hn⟩ : ∃ n, lenOf l = n := ⟨_, rfl⟩
  have hn' : rdT ((l.take 12).drop 10) = n := hn
  have hst : stOf l = ⟨x, y, z⟩ := by unfold stOf; rw [hx, hy, hzz]
  have CG : ∀ (m : List UInt8) (k : Nat), m.length ≤ 6 → rdT m = k → Hid (∀ W, OS w W → Calls Tryd.prog 66 #[.string (mkS m)] W fun e w' => e = .returned (.int .i64 (k : Int)) ∧ OS w w' ∧ Below W.heap.size W w') := fun m k hm hk => Lib.hid fun W hW =>
    (told_any (mkS m) W (by rw [mkS_size]; exact hm)).mono fun e w' ⟨he, hb⟩ => ⟨by rw [he, bl_mkS, hk], hW.below hb, hb⟩
  have G1 := CG _ _ (by omega) hx
  have G2 := CG _ _ (by rw [len 6 8 (by omega) (by omega)]; omega) hy
  have G3 := CG _ _ (by rw [len 8 10 (by omega) (by omega)]; omega) hzz
  have G4 := CG _ _ (by rw [len 10 12 (by omega) (by omega)]; omega) hn'
  have hnlt : n < 65536 := by
    have := rdT_lt ((l.take 12).drop 10)
    rw [len 10 12 (by omega) (by omega), hn'] at this; exact this
  have hnI : (n : Int) < 65536 := by omega
  have HMid := Lib.hid mid
  clear CG hx hy hzz hn' hl6 mid len
  generalize mkS (l.take 6) = P6 at *
  generalize mkS ((l.take 8).drop 6) = P8 at *
  generalize mkS ((l.take 10).drop 8) = P10 at *
  generalize mkS ((l.take 12).drop 10) = P12 at *
  have HSt := Lib.hid hst
  have HN := Lib.hid hn
  have H128 := Lib.hid h128
  have o0 : OS w (w.alloc (.cells #[.int .i64 0, .int .i64 0, .int .i64 0] 23)) := ⟨by show (w.heap.push _)[w.heap.size]? = _; simp, below_new _ _⟩
  have O1 := Lib.hid o0
  by_cases hn104 : n ≤ 104
  case neg =>
    have hn2 : 104 < (n : Int) := by omega
    have HNo : Hid (¬ OpenOk l) := Lib.hid fun h => hn104 (by rw [← HN.out]; exact h.2.1)
    clear hst hn h128 o0 hz hn104
    go_enter Tryd.func21, Tryd.ntmps21
    go_wp2_with ((go_at_call 66; (with_reducible refine (G4.out _ O1.out).mono ?_); rintro e w0 ⟨rfl, o00, _⟩; have O2 := Lib.hid o00; have k4 := cells3 O2.out.1; have k5 := free3 O2.out.1; obtain ⟨r0, r1, r2⟩ := k4; obtain ⟨e0, e1, e2⟩ := k5))
    generalize hW9 : (((w0.setCell _ _).setCell _ _).setCell _ _) = W9
    have q9 := after3 O2.out.1 (.int .i64 0) (.int .i64 0) (.int .i64 0)
    have b9 := below_set3 O2.out.2 (Nat.le_refl w.heap.size) (.int .i64 0) (.int .i64 0) (.int .i64 0)
    rw [hW9] at q9 b9
    obtain ⟨g0, g1, g2⟩ := cells3 q9
    (try simp only [Exit.inBlock, Exit.then])
    refine bodyPost_ret (by simp [results, Tryd.results21, go_sem, g0, g1, g2]; try rfl) rfl ?_
    exact openPost_bad HNo.out rfl b9
  have hn2 : (n : Int) ≤ 104 := by omega
  have hdn : decide (104 < (n : Int)) = false := decide_eq_false (by omega)
  have hw : IntKind.i64.wrap (16 + (n : Int)) = 16 + (n : Int) := by rw [IntKind.wrap_i64]; omega
  have fb : ∀ W : World, (Instr.slice 9 (.string S0) (some (.int .i64 16)) (some (.int .i64 (16 + (n : Int)))) none).run Tryd.prog W = .ok (.string (mkS (bodyOf l))) W := fun W => by
    have := HMid.out 16 (16 + n) (by omega) (by omega) W
    rw [show ((16 + n : Nat) : Int) = 16 + (n : Int) by omega] at this
    unfold bodyOf; rw [HN.out]; exact this
  have hbl : (bodyOf l).length = n := by rw [bodyOf_length h128 (by rw [hn]; exact hn104), hn]
  have CS := fun W => seal_ref (stOf l) (mkS (bodyOf l)) W (by rw [mkS_size, hbl]; omega)
  rw [bl_mkS, hst] at CS
  unfold Stp.val at CS
  simp only at CS
  obtain ⟨BD, hBD⟩ : ∃ BD, mkS (bodyOf l) = BD := ⟨_, rfl⟩
  have HBd := Lib.hid hBD
  rw [hBD] at fb CS
  have hE := sealE_body h128 (by rw [hn]; exact hn104)
  rw [hst] at hE
  obtain ⟨SS, hSS⟩ : ∃ SS, mkS (sealS ⟨x, y, z⟩ (bodyOf l)) = SS := ⟨_, rfl⟩
  rw [hSS, hE] at CS
  have hok : OpenOk l ↔ (Stp.fit ⟨x, y, z⟩ ∧ SS = S0) := by
    constructor
    · intro h
      have hf : Stp.fit ⟨x, y, z⟩ := by rw [← hst]; exact h.2.2.1
      refine ⟨hf, ?_⟩
      rw [← hSS, ← HS0.out]
      have := sealS_body h128 (by rw [hn]; exact hn104) (by rw [hst]; exact hf)
      rw [hst] at this
      rw [this, ← hst, h.2.2.2]
    · rintro ⟨hf, he⟩
      refine ⟨h128, by rw [hn]; exact hn104, by rw [hst]; exact hf, ?_⟩
      have := sealS_body h128 (by rw [hn]; exact hn104) (by rw [hst]; exact hf)
      rw [hst] at this ⊢
      rw [← this]
      rw [← hSS, ← HS0.out] at he
      have h2 := congrArg bl he
      rw [bl_mkS, bl_mkS] at h2; exact h2
  have HOk := Lib.hid hok
  clear hok hSS hE hBD hbl hst hn h128 o0 hz hn104
  go_enter Tryd.func21, Tryd.ntmps21
  go_wp2_with ((go_at_call 66; (with_reducible refine (G4.out _ O1.out).mono ?_); rintro e w0 ⟨rfl, o00, _⟩; have O2 := Lib.hid o00; have k4 := cells3 O2.out.1; have k5 := free3 O2.out.1; obtain ⟨r0, r1, r2⟩ := k4; obtain ⟨e0, e1, e2⟩ := k5))
  have o1 : OS w w0.drew := ⟨O2.out.1, O2.out.2.drew⟩
  clear G4 f1012 O1 O2 r0 r1 r2 e0 e1 e2
  generalize w0 = W0 at *
  go_cut [6] from 9 to 50 (fun v W => ∃ b : Nat, v = .pointer (some ⟨b, 0, none⟩) ∧ Hid (OB w b x y z W))
  case first =>
    go_region_with (first
      | (go_at_call 66; (with_reducible refine (G1.out _ (by first | (with_reducible assumption) | (exact OS.below (by with_reducible assumption) (below_new _ _)))).mono ?_); rintro e w1 ⟨rfl, o2, h2⟩; (first | (have z1 := Lib.hid (blk_after_drew h2); clear h2) | (clear h2) | (clear h3) | (clear h4)))
      | (go_at_call 66; (with_reducible refine (G2.out _ (by first | (with_reducible assumption) | (exact OS.below (by with_reducible assumption) (below_new _ _)))).mono ?_); rintro e w2 ⟨rfl, o3, h3⟩; (first | (have z2 := Lib.hid (blk_keep z1.out h3); clear h3) | (have z2 := Lib.hid (blk_after h3); clear h3) | (clear h2) | (clear h3) | (clear h4)))
      | (go_at_call 66; (with_reducible refine (G3.out _ (by first | (with_reducible assumption) | (exact OS.below (by with_reducible assumption) (below_new _ _)))).mono ?_); rintro e w3 ⟨rfl, o4, h4⟩; (first | (have z3 := blk_keep z2.out h4; have g := cells3 z3; have g' := free3 z3; obtain ⟨g0, g1, g2⟩ := g; obtain ⟨e0, e1, e2⟩ := g'; have Z3 := Lib.hid z3; clear z3 h4) | (have z3 := blk_after h4; have g := cells3 z3; have g' := free3 z3; obtain ⟨g0, g1, g2⟩ := g; obtain ⟨e0, e1, e2⟩ := g'; have Z3 := Lib.hid z3; clear z3 h4) | (clear h2) | (clear h3) | (clear h4))))
    all_goals
      go_wp2_with fail
      go_meet
      case rel => first
        | exact ⟨_, rfl, Lib.hid ⟨after3 Z3.out _ _ _, o4.set o3.lt _ _ _⟩⟩
        | exact ⟨_, rfl, Lib.hid ⟨after3 Z3.out _ _ _, o4.set o2.lt _ _ _⟩⟩
        | exact ⟨_, rfl, Lib.hid ⟨after3 Z3.out _ _ _, o4.set o1.lt _ _ _⟩⟩
        | exact ⟨_, rfl, Lib.hid ⟨by show (w3.heap.push _)[w3.heap.size]? = _; simp, o4.below (below_new _ _)⟩⟩
  case rest =>
    obtain ⟨b, rfl, HOB⟩ := hcut
    have HOBd : Hid (OB w b x y z wc.drew) := Lib.hid ⟨HOB.out.1, HOB.out.2.1, HOB.out.2.2.drew⟩
    have k0 := HOBd.out.facts
    obtain ⟨⟨a0, a1, a2⟩, ⟨r0, r1, r2⟩, ⟨e0, e1, e2⟩⟩ := k0
    obtain ⟨⟨c0, c1, c2⟩, _⟩ := HOB.out.facts
    clear G1 G2 G3 f6 f68 f810 o1
    by_cases hfit : Stp.fit ⟨x, y, z⟩
    case neg =>
      have HNo : Hid (¬ OpenOk l) := Lib.hid fun h => hfit (HOk.out.1 h).1
      rw [if_neg hfit] at CS
      have HCS := Lib.hid CS
      clear hfit CS
      go_wp2_with fail
      go_region_held3 (fun W : World => W.cell? ⟨b, 0, none⟩ = some (.int .i64 (x : Int)) ∧ W.cell? ⟨b, 1, none⟩ = some (.int .i64 (y : Int)) ∧ W.cell? ⟨b, 2, none⟩ = some (.int .i64 (z : Int))) (first | (with_reducible assumption) | (with_reducible exact ⟨a0, a1, a2⟩)) (first | (go_at_call 14; (with_reducible refine (HCS.out _).mono ?_); rintro e w7 ⟨rfl, h7⟩; have hS7 := cells3 (HOBd.out.below h7).1))
      have HO7 := Lib.hid (HOBd.out.below h7).os
      have k7 := HO7.out.facts
      obtain ⟨⟨r0, r1, r2⟩, ⟨e0, e1, e2⟩⟩ := k7
      go_wp2
      generalize hW9 : (((w7.setCell _ _).setCell _ _).setCell _ _) = W9
      have q9 := after3 HO7.out.1 (.int .i64 0) (.int .i64 0) (.int .i64 0)
      have b9 := below_set3 HO7.out.2 (Nat.le_refl w.heap.size) (.int .i64 0) (.int .i64 0) (.int .i64 0)
      rw [hW9] at q9 b9
      obtain ⟨g0, g1, g2⟩ := cells3 q9
      (try simp only [Exit.inBlock, Exit.then])
      refine bodyPost_ret (by simp [results, Tryd.results21, go_sem, g0, g1, g2]; try rfl) rfl ?_
      exact openPost_bad HNo.out rfl b9
    rw [if_pos hfit] at CS
    have HCS := Lib.hid CS
    clear CS
    by_cases hcmp : SS = S0
    · have HOk2 := Lib.hid (HOk.out.2 ⟨hfit, hcmp⟩)
      have hc1 := str_eq hcmp
      clear hfit hcmp
      go_wp2_with fail
      go_region_held3 (fun W : World => W.cell? ⟨b, 0, none⟩ = some (.int .i64 (x : Int)) ∧ W.cell? ⟨b, 1, none⟩ = some (.int .i64 (y : Int)) ∧ W.cell? ⟨b, 2, none⟩ = some (.int .i64 (z : Int))) (first | (with_reducible assumption) | (with_reducible exact ⟨a0, a1, a2⟩)) (first | (go_at_call 14; (with_reducible refine (HCS.out _).mono ?_); rintro e w7 ⟨rfl, h7⟩; have hS7 := cells3 (HOBd.out.below h7).1))
      have HO7' := Lib.hid (HOBd.out.below h7)
      have k7 := HO7'.out.facts
      obtain ⟨⟨a0, a1, a2⟩, ⟨r0, r1, r2⟩, ⟨e0, e1, e2⟩⟩ := k7
      go_wp2
      go_region
      go_wp2
      generalize hW9 : (((w7.setCell _ _).setCell _ _).setCell _ _).drew = W9
      have q9 : W9.heap[w.heap.size]? = some (.cells #[.int .i64 (x : Int), .int .i64 (y : Int), .int .i64 (z : Int)] 23 (0, 0)) := by rw [← hW9]; exact after3 HO7'.out.2.1 _ _ _
      have b9 : Below w.heap.size w W9 := by rw [← hW9]; exact (below_set3 HO7'.out.2.2 (Nat.le_refl _) _ _ _).drew
      obtain ⟨g0, g1, g2⟩ := cells3 q9
      (try simp only [Exit.inBlock, Exit.then])
      refine bodyPost_ret (by simp [results, Tryd.results21, go_sem, g0, g1, g2]; try rfl) rfl ?_
      exact openPost_ok HOk2.out (by rw [HSt.out, HBd.out]; rfl) b9
    · have HNo : Hid (¬ OpenOk l) := Lib.hid fun h => hcmp (HOk.out.1 h).2
      have hc1 := str_ne hcmp
      clear hfit hcmp
      go_wp2_with fail
      go_region_held3 (fun W : World => W.cell? ⟨b, 0, none⟩ = some (.int .i64 (x : Int)) ∧ W.cell? ⟨b, 1, none⟩ = some (.int .i64 (y : Int)) ∧ W.cell? ⟨b, 2, none⟩ = some (.int .i64 (z : Int))) (first | (with_reducible assumption) | (with_reducible exact ⟨a0, a1, a2⟩)) (first | (go_at_call 14; (with_reducible refine (HCS.out _).mono ?_); rintro e w7 ⟨rfl, h7⟩; have hS7 := cells3 (HOBd.out.below h7).1))
      have HO7 := Lib.hid (HOBd.out.below h7).os
      have k7 := HO7.out.facts
      obtain ⟨⟨r0, r1, r2⟩, ⟨e0, e1, e2⟩⟩ := k7
      go_wp2
      generalize hW9 : (((w7.setCell _ _).setCell _ _).setCell _ _) = W9
      have q9 := after3 HO7.out.1 (.int .i64 0) (.int .i64 0) (.int .i64 0)
      have b9 := below_set3 HO7.out.2 (Nat.le_refl w.heap.size) (.int .i64 0) (.int .i64 0) (.int .i64 0)
      rw [hW9] at q9 b9
      obtain ⟨g0, g1, g2⟩ := cells3 q9
      (try simp only [Exit.inBlock, Exit.then])
      refine bodyPost_ret (by simp [results, Tryd.results21, go_sem, g0, g1, g2]; try rfl) rfl ?_
      exact openPost_bad HNo.out rfl b9
end Go.Proofs.YtoojdknfommpbaaDoor
