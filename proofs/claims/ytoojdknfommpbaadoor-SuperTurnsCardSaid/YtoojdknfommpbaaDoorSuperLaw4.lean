/- The law SuperTurns: the walk. -/
import Derived.Test.YtoojdknfommpbaaDoorSuperTurn0
namespace Go.Proofs.YtoojdknfommpbaaDoor
open Go.RowKit
set_option maxRecDepth 10000

set_option maxHeartbeats 20000000 in
theorem superTurns_walk (v : Value) (x : Sup) (u : Value) (y : Sup) (s : Value) (z : Sup) (m : Value) (t : Int × Int × Int × Int) (w : World) (hx : SupIn w x v ∧ x.check.length ≤ maxLen ∧ x.log.length ≤ maxLen) (hy : SupIn w y u ∧ y.check.length ≤ maxLen ∧ y.log.length ≤ maxLen) (hz : SupIn w z s ∧ z.check.length ≤ maxLen ∧ z.log.length ≤ maxLen)
    (ht : m = .agg #[.int .i64 t.1, .int .i64 t.2.1, .int .i64 t.2.2.1, .int .i64 t.2.2.2]) :
    Calls Tryd.prog 10 #[v, u, s, m] w fun e w' => e = .returned (.bool true) ∧ Below w.heap.size w w' := by
  subst ht
  obtain ⟨t0, t1, t2, t3⟩ := t
  simp only
  replace hx := hx.1
  replace hy := hy.1
  replace hz := hz.1
  have hx0 := hx
  have hy0 := hy
  have hz0 := hz
  obtain ⟨A, c, B, d, rfl, -⟩ := hx
  obtain ⟨A', c', B', d', rfl, -⟩ := hy
  obtain ⟨A'', c'', B'', d'', rfl, -⟩ := hz
  obtain ⟨cx, hcx⟩ : ∃ cv, Value.slice A x.check.length c = cv := ⟨_, rfl⟩
  obtain ⟨lx, hlx⟩ : ∃ lv, Value.slice B x.log.length d = lv := ⟨_, rfl⟩
  obtain ⟨cy, hcy⟩ : ∃ cv, Value.slice A' y.check.length c' = cv := ⟨_, rfl⟩
  obtain ⟨ly, hly⟩ : ∃ lv, Value.slice B' y.log.length d' = lv := ⟨_, rfl⟩
  obtain ⟨cz, hcz⟩ : ∃ cv, Value.slice A'' z.check.length c'' = cv := ⟨_, rfl⟩
  obtain ⟨lz, hlz⟩ : ∃ lv, Value.slice B'' z.log.length d'' = lv := ⟨_, rfl⟩
  rw [hcx, hlx] at hx0 ⊢
  rw [hcy, hly] at hy0 ⊢
  rw [hcz, hlz] at hz0 ⊢
  clear hcx hlx hcy hly hcz hlz A B A' B' A'' B'' c d c' d' c'' d''
  have HB0 := Lib.hid (S4.new w x y z cx lx cy ly cz lz t0 t1 t2 t3)
  have Gx : Hid (∀ W, S4 w x y z cx lx cy ly cz lz t0 t1 t2 t3 W → W.cell? ⟨w.heap.size, 0, none⟩ = some (.int .i64 x.gen) ∧ W.cell? ⟨w.heap.size, 1, none⟩ = some (.int .i64 x.base) ∧ W.cell? ⟨w.heap.size, 2, none⟩ = some (.int .i64 x.size) ∧ W.cell? ⟨w.heap.size, 3, none⟩ = some (.int .i64 x.cgen) ∧ W.cell? ⟨w.heap.size, 4, none⟩ = some cx ∧ W.cell? ⟨w.heap.size, 5, none⟩ = some lx) := Lib.hid fun W h => h.fx
  have Wx : Hid (∀ W, S4 w x y z cx lx cy ly cz lz t0 t1 t2 t3 W → Calls Tryd.prog 25 #[SupV x cx lx] W fun e w' => e = .returned (.bool (decide x.few)) ∧ S4 w x y z cx lx cy ly cz lz t0 t1 t2 t3 w') := Lib.hid fun W h =>
    (sfew_any x _ W (hx0.below h.bel)).mono fun e w' ⟨he, hb⟩ => ⟨he, h.below hb⟩
  have Gy : Hid (∀ W, S4 w x y z cx lx cy ly cz lz t0 t1 t2 t3 W → W.cell? ⟨w.heap.size + 1, 0, none⟩ = some (.int .i64 y.gen) ∧ W.cell? ⟨w.heap.size + 1, 1, none⟩ = some (.int .i64 y.base) ∧ W.cell? ⟨w.heap.size + 1, 2, none⟩ = some (.int .i64 y.size) ∧ W.cell? ⟨w.heap.size + 1, 3, none⟩ = some (.int .i64 y.cgen) ∧ W.cell? ⟨w.heap.size + 1, 4, none⟩ = some cy ∧ W.cell? ⟨w.heap.size + 1, 5, none⟩ = some ly) := Lib.hid fun W h => h.fy
  have Wy : Hid (∀ W, S4 w x y z cx lx cy ly cz lz t0 t1 t2 t3 W → Calls Tryd.prog 25 #[SupV y cy ly] W fun e w' => e = .returned (.bool (decide y.few)) ∧ S4 w x y z cx lx cy ly cz lz t0 t1 t2 t3 w') := Lib.hid fun W h =>
    (sfew_any y _ W (hy0.below h.bel)).mono fun e w' ⟨he, hb⟩ => ⟨he, h.below hb⟩
  have Gz : Hid (∀ W, S4 w x y z cx lx cy ly cz lz t0 t1 t2 t3 W → W.cell? ⟨w.heap.size + 1 + 1, 0, none⟩ = some (.int .i64 z.gen) ∧ W.cell? ⟨w.heap.size + 1 + 1, 1, none⟩ = some (.int .i64 z.base) ∧ W.cell? ⟨w.heap.size + 1 + 1, 2, none⟩ = some (.int .i64 z.size) ∧ W.cell? ⟨w.heap.size + 1 + 1, 3, none⟩ = some (.int .i64 z.cgen) ∧ W.cell? ⟨w.heap.size + 1 + 1, 4, none⟩ = some cz ∧ W.cell? ⟨w.heap.size + 1 + 1, 5, none⟩ = some lz) := Lib.hid fun W h => h.fz
  have Wz : Hid (∀ W, S4 w x y z cx lx cy ly cz lz t0 t1 t2 t3 W → Calls Tryd.prog 25 #[SupV z cz lz] W fun e w' => e = .returned (.bool (decide z.few)) ∧ S4 w x y z cx lx cy ly cz lz t0 t1 t2 t3 w') := Lib.hid fun W h =>
    (sfew_any z _ W (hz0.below h.bel)).mono fun e w' ⟨he, hb⟩ => ⟨he, h.below hb⟩
  have AW : Hid (∀ W, S4 w x y z cx lx cy ly cz lz t0 t1 t2 t3 W → Calls Tryd.prog 26 #[] W fun e w' => e = .returned (.bool true) ∧ Below w.heap.size w w') := Lib.hid fun W h =>
    (awake07_any W).mono fun e w' ⟨he, hb⟩ => ⟨he, (h.below hb).bel⟩
  by_cases hfx : x.few
  case neg =>
    rw [decide_eq_false hfx] at Wx
    clear hfx
    obtain ⟨x0, x1, x2, x3, x4, x5⟩ := x
    obtain ⟨y0, y1, y2, y3, y4, y5⟩ := y
    obtain ⟨z0, z1, z2, z3, z4, z5⟩ := z
    unfold SupV at *
    simp only at *
    go_enter Tryd.func10, Tryd.ntmps10
    go_wp2_with (first
      | (go_at_call 25; (with_reducible refine (Wx.out _ HB0.out).mono ?_); rintro e w1 ⟨rfl, h1⟩; have g1 := Gy.out _ h1; obtain ⟨a0, a1, a2, a3, a4, a5⟩ := g1)
      | (go_at_call 26; (with_reducible refine (AW.out _ h1).mono ?_); rintro e w9 ⟨rfl, h9⟩))
    go_ret
    exact ⟨rfl, h9⟩
  rw [decide_eq_true hfx] at Wx
  by_cases hfy : y.few
  case neg =>
    rw [decide_eq_false hfy] at Wy
    clear hfx hfy
    obtain ⟨x0, x1, x2, x3, x4, x5⟩ := x
    obtain ⟨y0, y1, y2, y3, y4, y5⟩ := y
    obtain ⟨z0, z1, z2, z3, z4, z5⟩ := z
    unfold SupV at *
    simp only at *
    go_enter Tryd.func10, Tryd.ntmps10
    go_wp2_with (first
      | (go_at_call 25; (with_reducible refine (Wy.out _ h1).mono ?_); rintro e w2 ⟨rfl, h2⟩; have g2 := Gz.out _ h2; obtain ⟨b0, b1, b2, b3, b4, b5⟩ := g2)
      | (go_at_call 25; (with_reducible refine (Wx.out _ HB0.out).mono ?_); rintro e w1 ⟨rfl, h1⟩; have g1 := Gy.out _ h1; obtain ⟨a0, a1, a2, a3, a4, a5⟩ := g1)
      | (go_at_call 26; (with_reducible refine (AW.out _ h2).mono ?_); rintro e w9 ⟨rfl, h9⟩))
    go_ret
    exact ⟨rfl, h9⟩
  rw [decide_eq_true hfy] at Wy
  by_cases hfz : z.few
  case neg =>
    rw [decide_eq_false hfz] at Wz
    clear hfx hfy hfz
    obtain ⟨x0, x1, x2, x3, x4, x5⟩ := x
    obtain ⟨y0, y1, y2, y3, y4, y5⟩ := y
    obtain ⟨z0, z1, z2, z3, z4, z5⟩ := z
    unfold SupV at *
    simp only at *
    go_enter Tryd.func10, Tryd.ntmps10
    go_wp2_with (first
      | (go_at_call 25; (with_reducible refine (Wz.out _ h2).mono ?_); rintro e w3 ⟨rfl, h3⟩; have g3 := Gx.out _ h3; obtain ⟨c0, c1, c2, c3, c4, c5⟩ := g3)
      | (go_at_call 25; (with_reducible refine (Wy.out _ h1).mono ?_); rintro e w2 ⟨rfl, h2⟩; have g2 := Gz.out _ h2; obtain ⟨b0, b1, b2, b3, b4, b5⟩ := g2)
      | (go_at_call 25; (with_reducible refine (Wx.out _ HB0.out).mono ?_); rintro e w1 ⟨rfl, h1⟩; have g1 := Gy.out _ h1; obtain ⟨a0, a1, a2, a3, a4, a5⟩ := g1)
      | (go_at_call 26; (with_reducible refine (AW.out _ h3).mono ?_); rintro e w9 ⟨rfl, h9⟩))
    go_ret
    exact ⟨rfl, h9⟩
  rw [decide_eq_true hfz] at Wz
  unfold Sup.few at hfx hfy hfz
  have Ex : Hid (∀ W, S4 w x y z cx lx cy ly cz lz t0 t1 t2 t3 W → Calls Tryd.prog 27 #[SupV x cx lx] W fun e w' => e = .returned (.tuple #[.string (mkS (encS x)), .int .i64 (encE x)]) ∧ S4 w x y z cx lx cy ly cz lz t0 t1 t2 t3 w') := Lib.hid fun W h =>
    (enc_in x _ W (hx0.below h.bel) (by omega)).mono fun e w' ⟨he, hb⟩ => ⟨he, h.below hb⟩
  have Ey : Hid (∀ W, S4 w x y z cx lx cy ly cz lz t0 t1 t2 t3 W → Calls Tryd.prog 27 #[SupV y cy ly] W fun e w' => e = .returned (.tuple #[.string (mkS (encS y)), .int .i64 (encE y)]) ∧ S4 w x y z cx lx cy ly cz lz t0 t1 t2 t3 w') := Lib.hid fun W h =>
    (enc_in y _ W (hy0.below h.bel) (by omega)).mono fun e w' ⟨he, hb⟩ => ⟨he, h.below hb⟩
  have Ez : Hid (∀ W, S4 w x y z cx lx cy ly cz lz t0 t1 t2 t3 W → Calls Tryd.prog 27 #[SupV z cz lz] W fun e w' => e = .returned (.tuple #[.string (mkS (encS z)), .int .i64 (encE z)]) ∧ S4 w x y z cx lx cy ly cz lz t0 t1 t2 t3 w') := Lib.hid fun W h =>
    (enc_in z _ W (hz0.below h.bel) (by omega)).mono fun e w' ⟨he, hb⟩ => ⟨he, h.below hb⟩
  by_cases hqx : x.fit
  case neg =>
    have e1 : mkS (encS x) = ⟨#[]⟩ ∧ encE x = 1 := by unfold encS encE; rw [if_neg hqx, if_neg hqx]; exact ⟨rfl, rfl⟩
    rw [e1.1, e1.2] at Ex
    generalize mkS (encS y) = Sy at *
    generalize encE y = Ny at *
    generalize mkS (encS z) = Sz at *
    generalize encE z = Nz at *
    clear e1 hfx hfy hfz hqx
    obtain ⟨x0, x1, x2, x3, x4, x5⟩ := x
    obtain ⟨y0, y1, y2, y3, y4, y5⟩ := y
    obtain ⟨z0, z1, z2, z3, z4, z5⟩ := z
    unfold SupV at *
    simp only at *
    go_enter Tryd.func10, Tryd.ntmps10
    go_wp2_with (first
      | (go_at_call 25; (with_reducible refine (Wz.out _ h2).mono ?_); rintro e w3 ⟨rfl, h3⟩; have g3 := Gx.out _ h3; obtain ⟨c0, c1, c2, c3, c4, c5⟩ := g3)
      | (go_at_call 25; (with_reducible refine (Wy.out _ h1).mono ?_); rintro e w2 ⟨rfl, h2⟩; have g2 := Gz.out _ h2; obtain ⟨b0, b1, b2, b3, b4, b5⟩ := g2)
      | (go_at_call 25; (with_reducible refine (Wx.out _ HB0.out).mono ?_); rintro e w1 ⟨rfl, h1⟩; have g1 := Gy.out _ h1; obtain ⟨a0, a1, a2, a3, a4, a5⟩ := g1)
      | (go_at_call 27; (with_reducible refine (Ez.out _ h5).mono ?_); rintro e w6 ⟨rfl, h6⟩; have f0 := (Gx.out _ h6).1; have f1 := (Gy.out _ h6).1; have f2 := (Gz.out _ h6).1)
      | (go_at_call 27; (with_reducible refine (Ey.out _ h4).mono ?_); rintro e w5 ⟨rfl, h5⟩; have g5 := Gz.out _ h5; obtain ⟨e0, e1, e2, e3, e4, e5⟩ := g5)
      | (go_at_call 27; (with_reducible refine (Ex.out _ h3).mono ?_); rintro e w4 ⟨rfl, h4⟩; have g4 := Gy.out _ h4; obtain ⟨d0, d1, d2, d3, d4, d5⟩ := g4)
      | (go_at_call 26; (with_reducible refine (AW.out _ h6).mono ?_); rintro e w9 ⟨rfl, h9⟩))
    go_ret
    exact ⟨rfl, h9⟩
  have ex : encS x = supB x ∧ encE x = 0 := by unfold encS encE; rw [if_pos hqx, if_pos hqx]; exact ⟨rfl, rfl⟩
  rw [ex.1, ex.2] at Ex
  clear ex
  obtain ⟨Sx, hSx⟩ : ∃ b, mkS (supB x) = b := ⟨_, rfl⟩
  rw [hSx] at Ex
  by_cases hqy : y.fit
  case neg =>
    have e1 : mkS (encS y) = ⟨#[]⟩ ∧ encE y = 1 := by unfold encS encE; rw [if_neg hqy, if_neg hqy]; exact ⟨rfl, rfl⟩
    rw [e1.1, e1.2] at Ey
    generalize mkS (encS z) = Sz at *
    generalize encE z = Nz at *
    clear e1 hfx hfy hfz hqx hqy
    obtain ⟨x0, x1, x2, x3, x4, x5⟩ := x
    obtain ⟨y0, y1, y2, y3, y4, y5⟩ := y
    obtain ⟨z0, z1, z2, z3, z4, z5⟩ := z
    unfold SupV at *
    simp only at *
    go_enter Tryd.func10, Tryd.ntmps10
    go_wp2_with (first
      | (go_at_call 25; (with_reducible refine (Wz.out _ h2).mono ?_); rintro e w3 ⟨rfl, h3⟩; have g3 := Gx.out _ h3; obtain ⟨c0, c1, c2, c3, c4, c5⟩ := g3)
      | (go_at_call 25; (with_reducible refine (Wy.out _ h1).mono ?_); rintro e w2 ⟨rfl, h2⟩; have g2 := Gz.out _ h2; obtain ⟨b0, b1, b2, b3, b4, b5⟩ := g2)
      | (go_at_call 25; (with_reducible refine (Wx.out _ HB0.out).mono ?_); rintro e w1 ⟨rfl, h1⟩; have g1 := Gy.out _ h1; obtain ⟨a0, a1, a2, a3, a4, a5⟩ := g1)
      | (go_at_call 27; (with_reducible refine (Ez.out _ h5).mono ?_); rintro e w6 ⟨rfl, h6⟩; have f0 := (Gx.out _ h6).1; have f1 := (Gy.out _ h6).1; have f2 := (Gz.out _ h6).1)
      | (go_at_call 27; (with_reducible refine (Ey.out _ h4).mono ?_); rintro e w5 ⟨rfl, h5⟩; have g5 := Gz.out _ h5; obtain ⟨e0, e1, e2, e3, e4, e5⟩ := g5)
      | (go_at_call 27; (with_reducible refine (Ex.out _ h3).mono ?_); rintro e w4 ⟨rfl, h4⟩; have g4 := Gy.out _ h4; obtain ⟨d0, d1, d2, d3, d4, d5⟩ := g4)
      | (go_at_call 26; (with_reducible refine (AW.out _ h6).mono ?_); rintro e w9 ⟨rfl, h9⟩))
    go_ret
    exact ⟨rfl, h9⟩
  have ey : encS y = supB y ∧ encE y = 0 := by unfold encS encE; rw [if_pos hqy, if_pos hqy]; exact ⟨rfl, rfl⟩
  rw [ey.1, ey.2] at Ey
  clear ey
  obtain ⟨Sy, hSy⟩ : ∃ b, mkS (supB y) = b := ⟨_, rfl⟩
  rw [hSy] at Ey
  by_cases hqz : z.fit
  case neg =>
    have e1 : mkS (encS z) = ⟨#[]⟩ ∧ encE z = 1 := by unfold encS encE; rw [if_neg hqz, if_neg hqz]; exact ⟨rfl, rfl⟩
    rw [e1.1, e1.2] at Ez
    clear e1 hfx hfy hfz hqx hqy hqz
    obtain ⟨x0, x1, x2, x3, x4, x5⟩ := x
    obtain ⟨y0, y1, y2, y3, y4, y5⟩ := y
    obtain ⟨z0, z1, z2, z3, z4, z5⟩ := z
    unfold SupV at *
    simp only at *
    go_enter Tryd.func10, Tryd.ntmps10
    go_wp2_with (first
      | (go_at_call 25; (with_reducible refine (Wz.out _ h2).mono ?_); rintro e w3 ⟨rfl, h3⟩; have g3 := Gx.out _ h3; obtain ⟨c0, c1, c2, c3, c4, c5⟩ := g3)
      | (go_at_call 25; (with_reducible refine (Wy.out _ h1).mono ?_); rintro e w2 ⟨rfl, h2⟩; have g2 := Gz.out _ h2; obtain ⟨b0, b1, b2, b3, b4, b5⟩ := g2)
      | (go_at_call 25; (with_reducible refine (Wx.out _ HB0.out).mono ?_); rintro e w1 ⟨rfl, h1⟩; have g1 := Gy.out _ h1; obtain ⟨a0, a1, a2, a3, a4, a5⟩ := g1)
      | (go_at_call 27; (with_reducible refine (Ez.out _ h5).mono ?_); rintro e w6 ⟨rfl, h6⟩; have f0 := (Gx.out _ h6).1; have f1 := (Gy.out _ h6).1; have f2 := (Gz.out _ h6).1)
      | (go_at_call 27; (with_reducible refine (Ey.out _ h4).mono ?_); rintro e w5 ⟨rfl, h5⟩; have g5 := Gz.out _ h5; obtain ⟨e0, e1, e2, e3, e4, e5⟩ := g5)
      | (go_at_call 27; (with_reducible refine (Ex.out _ h3).mono ?_); rintro e w4 ⟨rfl, h4⟩; have g4 := Gy.out _ h4; obtain ⟨d0, d1, d2, d3, d4, d5⟩ := g4)
      | (go_at_call 26; (with_reducible refine (AW.out _ h6).mono ?_); rintro e w9 ⟨rfl, h9⟩))
    go_ret
    exact ⟨rfl, h9⟩
  have ez : encS z = supB z ∧ encE z = 0 := by unfold encS encE; rw [if_pos hqz, if_pos hqz]; exact ⟨rfl, rfl⟩
  rw [ez.1, ez.2] at Ez
  clear ez
  obtain ⟨Sz, hSz⟩ : ∃ b, mkS (supB z) = b := ⟨_, rfl⟩
  rw [hSz] at Ez
  by_cases hg1 : y.gen ≤ x.gen
  · clear hfx hfy hfz hqx hqy hqz hSx hSy hSz
    obtain ⟨x0, x1, x2, x3, x4, x5⟩ := x
    obtain ⟨y0, y1, y2, y3, y4, y5⟩ := y
    obtain ⟨z0, z1, z2, z3, z4, z5⟩ := z
    unfold SupV at *
    simp only at *
    go_enter Tryd.func10, Tryd.ntmps10
    go_wp2_with (first
      | (go_at_call 25; (with_reducible refine (Wz.out _ h2).mono ?_); rintro e w3 ⟨rfl, h3⟩; have g3 := Gx.out _ h3; obtain ⟨c0, c1, c2, c3, c4, c5⟩ := g3)
      | (go_at_call 25; (with_reducible refine (Wy.out _ h1).mono ?_); rintro e w2 ⟨rfl, h2⟩; have g2 := Gz.out _ h2; obtain ⟨b0, b1, b2, b3, b4, b5⟩ := g2)
      | (go_at_call 25; (with_reducible refine (Wx.out _ HB0.out).mono ?_); rintro e w1 ⟨rfl, h1⟩; have g1 := Gy.out _ h1; obtain ⟨a0, a1, a2, a3, a4, a5⟩ := g1)
      | (go_at_call 27; (with_reducible refine (Ez.out _ h5).mono ?_); rintro e w6 ⟨rfl, h6⟩; have f0 := (Gx.out _ h6).1; have f1 := (Gy.out _ h6).1; have f2 := (Gz.out _ h6).1)
      | (go_at_call 27; (with_reducible refine (Ey.out _ h4).mono ?_); rintro e w5 ⟨rfl, h5⟩; have g5 := Gz.out _ h5; obtain ⟨e0, e1, e2, e3, e4, e5⟩ := g5)
      | (go_at_call 27; (with_reducible refine (Ex.out _ h3).mono ?_); rintro e w4 ⟨rfl, h4⟩; have g4 := Gy.out _ h4; obtain ⟨d0, d1, d2, d3, d4, d5⟩ := g4)
      | (go_at_call 26; (with_reducible refine (AW.out _ h6).mono ?_); rintro e w9 ⟨rfl, h9⟩))
    go_ret
    exact ⟨rfl, h9⟩
  have hg1' : x.gen < y.gen := by omega
  by_cases hg2 : x.gen ≤ z.gen
  · clear hfx hfy hfz hqx hqy hqz hSx hSy hSz hg1
    obtain ⟨x0, x1, x2, x3, x4, x5⟩ := x
    obtain ⟨y0, y1, y2, y3, y4, y5⟩ := y
    obtain ⟨z0, z1, z2, z3, z4, z5⟩ := z
    unfold SupV at *
    simp only at *
    go_enter Tryd.func10, Tryd.ntmps10
    go_wp2_with (first
      | (go_at_call 25; (with_reducible refine (Wz.out _ h2).mono ?_); rintro e w3 ⟨rfl, h3⟩; have g3 := Gx.out _ h3; obtain ⟨c0, c1, c2, c3, c4, c5⟩ := g3)
      | (go_at_call 25; (with_reducible refine (Wy.out _ h1).mono ?_); rintro e w2 ⟨rfl, h2⟩; have g2 := Gz.out _ h2; obtain ⟨b0, b1, b2, b3, b4, b5⟩ := g2)
      | (go_at_call 25; (with_reducible refine (Wx.out _ HB0.out).mono ?_); rintro e w1 ⟨rfl, h1⟩; have g1 := Gy.out _ h1; obtain ⟨a0, a1, a2, a3, a4, a5⟩ := g1)
      | (go_at_call 27; (with_reducible refine (Ez.out _ h5).mono ?_); rintro e w6 ⟨rfl, h6⟩; have f0 := (Gx.out _ h6).1; have f1 := (Gy.out _ h6).1; have f2 := (Gz.out _ h6).1)
      | (go_at_call 27; (with_reducible refine (Ey.out _ h4).mono ?_); rintro e w5 ⟨rfl, h5⟩; have g5 := Gz.out _ h5; obtain ⟨e0, e1, e2, e3, e4, e5⟩ := g5)
      | (go_at_call 27; (with_reducible refine (Ex.out _ h3).mono ?_); rintro e w4 ⟨rfl, h4⟩; have g4 := Gy.out _ h4; obtain ⟨d0, d1, d2, d3, d4, d5⟩ := g4)
      | (go_at_call 26; (with_reducible refine (AW.out _ h6).mono ?_); rintro e w9 ⟨rfl, h9⟩))
    go_ret
    exact ⟨rfl, h9⟩
  have hg2' : z.gen < x.gen := by omega
  have lnz : (supB z).length = 128 := supB_length hqz
  have lny : (supB y).length = 128 := supB_length hqy
  have hlist := turn_list hqx hqy hqz hg1' hg2' t0 t1 t2 t3
  obtain ⟨hbX, hbN, hbE⟩ := best_new hqx hqy hg1'
  obtain ⟨B1, hB1⟩ : ∃ b, tornL (zer 128) (supB z) t0 = b := ⟨_, rfl⟩
  have l1 : B1.length = 128 := by rw [← hB1]; exact tornL_length _ _ _ (zer_length _) lnz
  rw [hB1] at hlist
  obtain ⟨B2, hB2⟩ : ∃ b, tornL B1 (zer 128) t1 = b := ⟨_, rfl⟩
  have l2 : B2.length = 128 := by rw [← hB2]; exact tornL_length _ _ _ l1 (zer_length _)
  rw [hB2] at hlist
  obtain ⟨B3, hB3⟩ : ∃ b, tornL B2 (zer 128) t2 = b := ⟨_, rfl⟩
  obtain ⟨B4, hB4⟩ : ∃ b, tornL (supB z) (zer 128) t2 = b := ⟨_, rfl⟩
  obtain ⟨B5, hB5⟩ : ∃ b, tornL (zer 128) (supB y) t3 = b := ⟨_, rfl⟩
  rw [hB3, hB4, hB5] at hlist
  have BL : Hid (∀ W, S4 w x y z cx lx cy ly cz lz t0 t1 t2 t3 W → Calls Tryd.prog 23 #[] W fun e w' => e = .returned (.string blankS) ∧ S4 w x y z cx lx cy ly cz lz t0 t1 t2 t3 w') := Lib.hid fun W h =>
    (blank_any W).mono fun e w' ⟨he, hb⟩ => ⟨he, h.below hb⟩
  have TR : ∀ (o f : List UInt8) (m : Int), o.length = 128 → f.length = 128 → Hid (∀ W, S4 w x y z cx lx cy ly cz lz t0 t1 t2 t3 W → Calls Tryd.prog 24 #[.string (mkS o), .string (mkS f), .int .i64 m] W fun e w' => e = .returned (.string (mkS (tornL o f m))) ∧ S4 w x y z cx lx cy ly cz lz t0 t1 t2 t3 w') := fun o f m h1 h2 => Lib.hid fun W h =>
    (torn_any o f m W h1 h2).mono fun e w' ⟨he, hb⟩ => ⟨he, h.below hb⟩
  have T1 : Hid (∀ W, S4 w x y z cx lx cy ly cz lz t0 t1 t2 t3 W → Calls Tryd.prog 24 #[.string blankS, .string Sz, .int .i64 t0] W fun e w' => e = .returned (.string (mkS B1)) ∧ S4 w x y z cx lx cy ly cz lz t0 t1 t2 t3 w') := by
    rw [← hSz, ← hB1]; exact TR (zer 128) (supB z) t0 (zer_length _) lnz
  have T2 : Hid (∀ W, S4 w x y z cx lx cy ly cz lz t0 t1 t2 t3 W → Calls Tryd.prog 24 #[.string (mkS B1), .string blankS, .int .i64 t1] W fun e w' => e = .returned (.string (mkS B2)) ∧ S4 w x y z cx lx cy ly cz lz t0 t1 t2 t3 w') := by
    rw [← hB2]; exact TR B1 (zer 128) t1 l1 (zer_length _)
  have T3 : Hid (∀ W, S4 w x y z cx lx cy ly cz lz t0 t1 t2 t3 W → Calls Tryd.prog 24 #[.string (mkS B2), .string blankS, .int .i64 t2] W fun e w' => e = .returned (.string (mkS B3)) ∧ S4 w x y z cx lx cy ly cz lz t0 t1 t2 t3 w') := by
    rw [← hB3]; exact TR B2 (zer 128) t2 l2 (zer_length _)
  have T4 : Hid (∀ W, S4 w x y z cx lx cy ly cz lz t0 t1 t2 t3 W → Calls Tryd.prog 24 #[.string Sz, .string blankS, .int .i64 t2] W fun e w' => e = .returned (.string (mkS B4)) ∧ S4 w x y z cx lx cy ly cz lz t0 t1 t2 t3 w') := by
    rw [← hSz, ← hB4]; exact TR (supB z) (zer 128) t2 lnz (zer_length _)
  have T5 : Hid (∀ W, S4 w x y z cx lx cy ly cz lz t0 t1 t2 t3 W → Calls Tryd.prog 24 #[.string blankS, .string Sy, .int .i64 t3] W fun e w' => e = .returned (.string (mkS B5)) ∧ S4 w x y z cx lx cy ly cz lz t0 t1 t2 t3 w') := by
    rw [← hSy, ← hB5]; exact TR (zer 128) (supB y) t3 (zer_length _) lny
  have GT : Hid (∀ W, S4 w x y z cx lx cy ly cz lz t0 t1 t2 t3 W → W.cell? ⟨w.heap.size + 1 + 1 + 1, 0, none⟩ = some (.int .i64 t0) ∧ W.cell? ⟨w.heap.size + 1 + 1 + 1, 1, none⟩ = some (.int .i64 t1) ∧ W.cell? ⟨w.heap.size + 1 + 1 + 1, 2, none⟩ = some (.int .i64 t2) ∧ W.cell? ⟨w.heap.size + 1 + 1 + 1, 3, none⟩ = some (.int .i64 t3)) := Lib.hid fun W h => h.ft
  have SD : Hid (∀ W, S4 w x y z cx lx cy ly cz lz t0 t1 t2 t3 W → S4 w x y z cx lx cy ly cz lz t0 t1 t2 t3 W.drew) := Lib.hid fun W h => h.below (below_drewS W)
  have SA : Hid (∀ W o, S4 w x y z cx lx cy ly cz lz t0 t1 t2 t3 W → S4 w x y z cx lx cy ly cz lz t0 t1 t2 t3 (W.alloc o)) := Lib.hid fun W o h => h.below (below_new W o)
  have HBs : Hid (∀ k, k < 6 → (∀ a W, LL w x y z cx lx cy ly cz lz t0 t1 t2 t3 [Sz, mkS B2, mkS B3, mkS B4, blankS, mkS B5] a W → Calls Tryd.prog 37 #[.string Sx, .string ([Sz, mkS B2, mkS B3, mkS B4, blankS, mkS B5].getD k ByteArray.empty)] W fun e w' => ∃ A c B d N, e = .returned (.tuple #[.agg #[.int .i64 x.gen, .int .i64 x.base, .int .i64 x.size, .int .i64 x.cgen, .slice A x.check.length c, .slice B x.log.length d], .int .i64 N, .int .i64 0]) ∧
      SupIn w' x (.agg #[.int .i64 x.gen, .int .i64 x.base, .int .i64 x.size, .int .i64 x.cgen, .slice A x.check.length c, .slice B x.log.length d]) ∧ LL w x y z cx lx cy ly cz lz t0 t1 t2 t3 [Sz, mkS B2, mkS B3, mkS B4, blankS, mkS B5] a w') ∨
      (k = 5 ∧ ∀ a W, LL w x y z cx lx cy ly cz lz t0 t1 t2 t3 [Sz, mkS B2, mkS B3, mkS B4, blankS, mkS B5] a W → Calls Tryd.prog 37 #[.string Sx, .string ([Sz, mkS B2, mkS B3, mkS B4, blankS, mkS B5].getD k ByteArray.empty)] W fun e w' => ∃ A c B d N, e = .returned (.tuple #[.agg #[.int .i64 y.gen, .int .i64 y.base, .int .i64 y.size, .int .i64 y.cgen, .slice A y.check.length c, .slice B y.log.length d], .int .i64 N, .int .i64 0]) ∧
      SupIn w' y (.agg #[.int .i64 y.gen, .int .i64 y.base, .int .i64 y.size, .int .i64 y.cgen, .slice A y.check.length c, .slice B y.log.length d]) ∧ LL w x y z cx lx cy ly cz lz t0 t1 t2 t3 [Sz, mkS B2, mkS B3, mkS B4, blankS, mkS B5] a w')) := Lib.hid fun k hk => by
    obtain ⟨e, he, hc⟩ := hlist k hk
    have hmap : [Sz, mkS B2, mkS B3, mkS B4, blankS, mkS B5] = [supB z, B2, B3, B4, zer 128, B5].map mkS := by rw [← hSz]; rfl
    have hget : [Sz, mkS B2, mkS B3, mkS B4, blankS, mkS B5].getD k ByteArray.empty = mkS e := by
      rw [hmap, List.getD_eq_getElem?_getD, List.getElem?_map, he]; rfl
    rw [hget, ← hSx]
    rcases hc with ⟨h1, h2⟩ | ⟨h0, h1, h2⟩
    · refine .inl fun a W h => (sbest_any _ _ W).mono fun e' w' hp => ?_
      obtain ⟨A, c, B, d, he', hs, hb⟩ := best_ex hp h1
      rw [h2] at he'
      exact ⟨A, c, B, d, _, he', hs, h.below hb⟩
    · refine .inr ⟨h0, fun a W h => (sbest_any _ _ W).mono fun e' w' hp => ?_⟩
      obtain ⟨A, c, B, d, he', hs, hb⟩ := best_ex hp h1
      rw [h2] at he'
      exact ⟨A, c, B, d, _, he', hs, h.below hb⟩
  have BT : Hid (∀ a W, LL w x y z cx lx cy ly cz lz t0 t1 t2 t3 [Sz, mkS B2, mkS B3, mkS B4, blankS, mkS B5] a W → Calls Tryd.prog 37 #[.string Sx, .string Sy] W fun e w' => ∃ A c B d, e = .returned (.tuple #[.agg #[.int .i64 y.gen, .int .i64 y.base, .int .i64 y.size, .int .i64 y.cgen, .slice A y.check.length c, .slice B y.log.length d], .int .i64 1, .int .i64 0]) ∧
      SupIn w' y (.agg #[.int .i64 y.gen, .int .i64 y.base, .int .i64 y.size, .int .i64 y.cgen, .slice A y.check.length c, .slice B y.log.length d]) ∧ LL w x y z cx lx cy ly cz lz t0 t1 t2 t3 [Sz, mkS B2, mkS B3, mkS B4, blankS, mkS B5] a w') := Lib.hid fun a W h => by
    rw [← hSx, ← hSy]
    exact (sbest_any _ _ W).mono fun e' w' hp => by
      obtain ⟨A, c, B, d, he', hs, hb⟩ := best_ex hp hbX
      rw [hbN, hbE] at he'
      exact ⟨A, c, B, d, he', hs, h.below hb⟩
  have hrx : decide (sameS x x) = true := decide_eq_true (sameS_iff.2 rfl)
  have hry : decide (sameS y y) = true := decide_eq_true (sameS_iff.2 rfl)
  have hne : decide (sameS y x) = false := decide_eq_false fun h => by have := h.1; omega
  have Mxx : Hid (∀ a W u, LL w x y z cx lx cy ly cz lz t0 t1 t2 t3 [Sz, mkS B2, mkS B3, mkS B4, blankS, mkS B5] a W ∧ SupIn W x u → Calls Tryd.prog 36 #[u, SupV x cx lx] W fun e w' => e = .returned (.bool true) ∧ LL w x y z cx lx cy ly cz lz t0 t1 t2 t3 [Sz, mkS B2, mkS B3, mkS B4, blankS, mkS B5] a w' ∧ Below W.heap.size W w') := Lib.hid fun a W u h =>
    (ssame_any x x u _ W h.2 (hx0.below h.1.bel) (by omega)).mono fun e w' ⟨he, hb⟩ => ⟨by rw [he, hrx], h.1.below hb, hb⟩
  have Myx : Hid (∀ a W u, LL w x y z cx lx cy ly cz lz t0 t1 t2 t3 [Sz, mkS B2, mkS B3, mkS B4, blankS, mkS B5] a W ∧ SupIn W y u → Calls Tryd.prog 36 #[u, SupV x cx lx] W fun e w' => e = .returned (.bool false) ∧ LL w x y z cx lx cy ly cz lz t0 t1 t2 t3 [Sz, mkS B2, mkS B3, mkS B4, blankS, mkS B5] a w' ∧ Below W.heap.size W w') := Lib.hid fun a W u h =>
    (ssame_any y x u _ W h.2 (hx0.below h.1.bel) (by omega)).mono fun e w' ⟨he, hb⟩ => ⟨by rw [he, hne], h.1.below hb, hb⟩
  have Myy : Hid (∀ a W u, LL w x y z cx lx cy ly cz lz t0 t1 t2 t3 [Sz, mkS B2, mkS B3, mkS B4, blankS, mkS B5] a W ∧ SupIn W y u → Calls Tryd.prog 36 #[u, SupV y cy ly] W fun e w' => e = .returned (.bool true) ∧ LL w x y z cx lx cy ly cz lz t0 t1 t2 t3 [Sz, mkS B2, mkS B3, mkS B4, blankS, mkS B5] a w' ∧ Below W.heap.size W w') := Lib.hid fun a W u h =>
    (ssame_any y y u _ W h.2 (hy0.below h.1.bel) (by omega)).mono fun e w' ⟨he, hb⟩ => ⟨by rw [he, hry], h.1.below hb, hb⟩
  have AL : Hid (∀ a W, LL w x y z cx lx cy ly cz lz t0 t1 t2 t3 [Sz, mkS B2, mkS B3, mkS B4, blankS, mkS B5] a W → Calls Tryd.prog 26 #[] W fun e w' => e = .returned (.bool true) ∧ Below w.heap.size w w') := Lib.hid fun a W h =>
    (awake07_any W).mono fun e w' ⟨he, hb⟩ => ⟨he, (h.below hb).bel⟩
  have LG : Hid (∀ a W, LL w x y z cx lx cy ly cz lz t0 t1 t2 t3 [Sz, mkS B2, mkS B3, mkS B4, blankS, mkS B5] a W → ∀ k, k < 6 → W.cell? (a.add k) = some (.string ([Sz, mkS B2, mkS B3, mkS B4, blankS, mkS B5].getD k ByteArray.empty))) := Lib.hid fun a W h => h.cs
  have LX : Hid (∀ a W, LL w x y z cx lx cy ly cz lz t0 t1 t2 t3 [Sz, mkS B2, mkS B3, mkS B4, blankS, mkS B5] a W → (W.cell? ⟨w.heap.size, 0, none⟩ = some (.int .i64 x.gen) ∧ W.cell? ⟨w.heap.size, 1, none⟩ = some (.int .i64 x.base) ∧ W.cell? ⟨w.heap.size, 2, none⟩ = some (.int .i64 x.size) ∧ W.cell? ⟨w.heap.size, 3, none⟩ = some (.int .i64 x.cgen) ∧ W.cell? ⟨w.heap.size, 4, none⟩ = some cx ∧ W.cell? ⟨w.heap.size, 5, none⟩ = some lx) ∧ (W.cell? ⟨w.heap.size + 1, 0, none⟩ = some (.int .i64 y.gen) ∧ W.cell? ⟨w.heap.size + 1, 1, none⟩ = some (.int .i64 y.base) ∧ W.cell? ⟨w.heap.size + 1, 2, none⟩ = some (.int .i64 y.size) ∧ W.cell? ⟨w.heap.size + 1, 3, none⟩ = some (.int .i64 y.cgen) ∧ W.cell? ⟨w.heap.size + 1, 4, none⟩ = some cy ∧ W.cell? ⟨w.heap.size + 1, 5, none⟩ = some ly)) := Lib.hid fun a W h => ⟨h.s4.fx, h.s4.fy⟩
  obtain ⟨n1, hn1⟩ : ∃ n, x.check.length = n := ⟨_, rfl⟩
  obtain ⟨n2, hn2⟩ : ∃ n, x.log.length = n := ⟨_, rfl⟩
  obtain ⟨n3, hn3⟩ : ∃ n, y.check.length = n := ⟨_, rfl⟩
  obtain ⟨n4, hn4⟩ : ∃ n, y.log.length = n := ⟨_, rfl⟩
  rw [hn1, hn2, hn3, hn4] at HBs
  rw [hn3, hn4] at BT
  clear TR hn1 hn2 hn3 hn4 hlist hbX hbN hbE hrx hry hne hB1 hB2 hB3 hB4 hB5 l1 l2 lnz lny hfx hfy hfz hqx hqy hqz hSx hSy hSz hg1 hg2
  generalize mkS B1 = Q1 at *
  generalize mkS B2 = Q2 at *
  generalize mkS B3 = Q3 at *
  generalize mkS B4 = Q4 at *
  generalize mkS B5 = Q5 at *
  have LN : Hid (∀ W, S4 w x y z cx lx cy ly cz lz t0 t1 t2 t3 W → LL w x y z cx lx cy ly cz lz t0 t1 t2 t3 [Sz, Q2, Q3, Q4, blankS, Q5] ⟨W.heap.size, 0, none⟩ (W.alloc (.cells #[.string Sz, .string Q2, .string Q3, .string Q4, .string blankS, .string Q5] 9))) := Lib.hid fun W h => LL.new h
  generalize blankS = BS at *
  obtain ⟨LS, hLS⟩ : ∃ L, [Sz, Q2, Q3, Q4, BS, Q5] = L := ⟨_, rfl⟩
  rw [hLS] at LN LX LG AL Mxx Myx Myy BT HBs
  clear hLS
  have PA : Hid (∀ a W o, LL w x y z cx lx cy ly cz lz t0 t1 t2 t3 LS a W → LL w x y z cx lx cy ly cz lz t0 t1 t2 t3 LS a (W.alloc o)) := Lib.hid fun a W o h => h.below (below_new W o)
  obtain ⟨P, hP⟩ : ∃ P, LL w x y z cx lx cy ly cz lz t0 t1 t2 t3 LS = P := ⟨_, rfl⟩
  rw [hP] at PA LN LX LG AL Mxx Myx Myy BT HBs
  clear hP
  obtain ⟨x0, x1, x2, x3, x4, x5⟩ := x
  obtain ⟨y0, y1, y2, y3, y4, y5⟩ := y
  obtain ⟨z0, z1, z2, z3, z4, z5⟩ := z
  unfold SupV at *
  simp only at *
  go_enter Tryd.func10, Tryd.ntmps10

  go_wp2_with (first
    | (go_at_call 25; (with_reducible refine (Wz.out _ h2).mono ?_); rintro e w3 ⟨rfl, h3⟩; have g3 := Gx.out _ h3; obtain ⟨c0, c1, c2, c3, c4, c5⟩ := g3)
    | (go_at_call 25; (with_reducible refine (Wy.out _ h1).mono ?_); rintro e w2 ⟨rfl, h2⟩; have g2 := Gz.out _ h2; obtain ⟨b0, b1, b2, b3, b4, b5⟩ := g2)
    | (go_at_call 25; (with_reducible refine (Wx.out _ HB0.out).mono ?_); rintro e w1 ⟨rfl, h1⟩; have g1 := Gy.out _ h1; obtain ⟨a0, a1, a2, a3, a4, a5⟩ := g1)
    | (go_at_call 27; (with_reducible refine (Ez.out _ h5).mono ?_); rintro e w6 ⟨rfl, h6⟩; have f0 := (Gx.out _ h6).1; have f1 := (Gy.out _ h6).1; have f2 := (Gz.out _ h6).1)
    | (go_at_call 27; (with_reducible refine (Ey.out _ h4).mono ?_); rintro e w5 ⟨rfl, h5⟩; have g5 := Gz.out _ h5; obtain ⟨e0, e1, e2, e3, e4, e5⟩ := g5)
    | (go_at_call 27; (with_reducible refine (Ex.out _ h3).mono ?_); rintro e w4 ⟨rfl, h4⟩; have g4 := Gy.out _ h4; obtain ⟨d0, d1, d2, d3, d4, d5⟩ := g4))
  have hbr := SD.out _ h6
  have hx := GT.out _ hbr
  go_region_held3 (fun W' : World => W'.cell? ⟨w.heap.size + 1 + 1 + 1, 0, none⟩ = some (.int .i64 t0) ∧ W'.cell? ⟨w.heap.size + 1 + 1 + 1, 1, none⟩ = some (.int .i64 t1) ∧ W'.cell? ⟨w.heap.size + 1 + 1 + 1, 2, none⟩ = some (.int .i64 t2) ∧ W'.cell? ⟨w.heap.size + 1 + 1 + 1, 3, none⟩ = some (.int .i64 t3))
    (first | exact hx | exact k7 | exact k8 | exact k9 | exact k10)
    (first
    | (go_at_call 23; have hq := h8; (with_reducible refine (BL.out _ hq).mono ?_); rintro e w9 ⟨rfl, h9⟩; have k9 := GT.out _ h9; clear hq)
    | (go_at_call 23; (with_reducible refine (BL.out _ hbr).mono ?_); rintro e w7 ⟨rfl, h7⟩; have k7 := GT.out _ h7)
    | (go_at_call 24; (with_reducible refine (T1.out _ h7).mono ?_); rintro e w8 ⟨rfl, h8⟩; have k8 := GT.out _ h8)
    | (go_at_call 24; (with_reducible refine (T2.out _ h9).mono ?_); rintro e w10 ⟨rfl, h10⟩; have k10 := GT.out _ h10))
  go_wp2
  have hbr2 := SD.out _ h10
  have hx2 := GT.out _ hbr2
  clear hx k7 k8 k9 k10 hbr h7 h8 h9
  go_region_held3 (fun W' : World => W'.cell? ⟨w.heap.size + 1 + 1 + 1, 0, none⟩ = some (.int .i64 t0) ∧ W'.cell? ⟨w.heap.size + 1 + 1 + 1, 1, none⟩ = some (.int .i64 t1) ∧ W'.cell? ⟨w.heap.size + 1 + 1 + 1, 2, none⟩ = some (.int .i64 t2) ∧ W'.cell? ⟨w.heap.size + 1 + 1 + 1, 3, none⟩ = some (.int .i64 t3))
    (first | exact hx2 | exact g1 | exact g2 | exact g3 | exact g4 | exact g5 | exact g6 | exact g7 | exact ga _)
    (first
    | (go_at_call 23; have hq := u5; (with_reducible refine (BL.out _ hq).mono ?_); rintro e v6 ⟨rfl, u6⟩; have g6 := GT.out _ u6; clear hq)
    | (go_at_call 23; have hq := u4; (with_reducible refine (BL.out _ hq).mono ?_); rintro e v5 ⟨rfl, u5⟩; have g5 := GT.out _ u5; clear hq)
    | (go_at_call 23; have hq := u2; (with_reducible refine (BL.out _ hq).mono ?_); rintro e v3 ⟨rfl, u3⟩; have g3 := GT.out _ u3; clear hq)
    | (go_at_call 23; have hq := hbr2; (with_reducible refine (BL.out _ hq).mono ?_); rintro e v1 ⟨rfl, u1⟩; have g1 := GT.out _ u1; clear hq)
    | (go_at_call 24; have hq := u6; (with_reducible refine (T5.out _ hq).mono ?_); rintro e v7 ⟨rfl, u7⟩; have g7 := GT.out _ u7; have ga := fun o => GT.out _ (SA.out _ o u7); clear hq)
    | (go_at_call 24; have hq := u3; (with_reducible refine (T4.out _ hq).mono ?_); rintro e v4 ⟨rfl, u4⟩; have g4 := GT.out _ u4; clear hq)
    | (go_at_call 24; have hq := u1; (with_reducible refine (T3.out _ hq).mono ?_); rintro e v2 ⟨rfl, u2⟩; have g2 := GT.out _ u2; clear hq))
  go_wp2
  have HL0 := Lib.hid (LN.out _ u7)
  clear hx2 g1 g2 g3 g4 g5 g6 g7 ga u1 u2 u3 u4 u5 u6 hbr2 LN T1 T2 T3 T4 T5 BL GT SD SA
  obtain ⟨a, ha⟩ : ∃ a, (⟨v7.heap.size, 0, none⟩ : Addr) = a := ⟨_, rfl⟩
  rw [ha] at HL0 ⊢
  clear ha
  go_loopw [17] (fun i W => ∃ k : Nat, k ≤ 6 ∧ i = .int .i64 k ∧ Hid (P a W)) (fun i _ => 7 - (intOf i).toNat)
  case atStart => exact ⟨0, by omega, rfl, HL0⟩
  case round =>
    obtain ⟨k, hk, rfl, HI⟩ := hrel
    by_cases hlt : k < 6
    · have hltI : (k : Int) < 6 := by omega
      have hcell := LG.out _ _ HI.out k hlt
      have hB := HBs.out k hlt
      generalize LS.getD k ByteArray.empty = S at hcell hB
      rcases hB with hB | ⟨hk5, hB⟩
      · have Be := Lib.hid (hB a _ HI.out)
        clear hB
        go_wp2_with (first
          | (go_at_call 37; (with_reducible refine Be.out.mono ?_); rintro e w1 ⟨A1, c1, B1, d1, N1, rfl, s1, h1⟩; have HS1 := Lib.hid (fun o => And.intro (PA.out _ _ o h1) (SupIn.below s1 (below_new w1 o))); clear s1; have b0 := fun o => (LX.out _ _ (PA.out _ _ o h1)).1.1; have b1 := fun o => (LX.out _ _ (PA.out _ _ o h1)).1.2.1; have b2 := fun o => (LX.out _ _ (PA.out _ _ o h1)).1.2.2.1; have b3 := fun o => (LX.out _ _ (PA.out _ _ o h1)).1.2.2.2.1; have b4 := fun o => (LX.out _ _ (PA.out _ _ o h1)).1.2.2.2.2.1; have b5 := fun o => (LX.out _ _ (PA.out _ _ o h1)).1.2.2.2.2.2)
          | (go_at_call 36; (with_reducible refine (Mxx.out _ _ _ (HS1.out _)).mono ?_); rintro e w2 ⟨rfl, h2, hb2⟩))
        go_roundw
        case measure => simp [intOf]; omega
        case rel => exact ⟨k + 1, by omega, by go_num, Lib.hid h2⟩
      · have hkI : ¬ (k : Int) < 5 := by omega
        clear hk5
        have Be := Lib.hid (hB a _ HI.out)
        clear hB
        go_wp2_with (first
          | (go_at_call 37; (with_reducible refine Be.out.mono ?_); rintro e w1 ⟨A1, c1, B1, d1, N1, rfl, s1, h1⟩; have HS1 := Lib.hid (fun o => And.intro (PA.out _ _ o h1) (SupIn.below s1 (below_new w1 o))); clear s1; have b0 := fun o => (LX.out _ _ (PA.out _ _ o h1)).1.1; have b1 := fun o => (LX.out _ _ (PA.out _ _ o h1)).1.2.1; have b2 := fun o => (LX.out _ _ (PA.out _ _ o h1)).1.2.2.1; have b3 := fun o => (LX.out _ _ (PA.out _ _ o h1)).1.2.2.2.1; have b4 := fun o => (LX.out _ _ (PA.out _ _ o h1)).1.2.2.2.2.1; have b5 := fun o => (LX.out _ _ (PA.out _ _ o h1)).1.2.2.2.2.2)
          | (go_at_call 36; (with_reducible refine (Myx.out _ _ _ (HS1.out _)).mono ?_); rintro e w2 ⟨rfl, h2, hb2⟩; have HS2 := Lib.hid (And.intro h2 (SupIn.below (HS1.out _).2 hb2)); obtain ⟨q0, q1, q2, q3, q4, q5⟩ := cells6 (blk_after hb2); obtain ⟨r0, r1, r2, r3, r4, r5⟩ := (LX.out _ _ h2).2)
          | (go_at_call 36; (with_reducible refine (Myy.out _ _ _ HS2.out).mono ?_); rintro e w3 ⟨rfl, h3, hb3⟩))
        go_roundw
        case measure => simp [intOf]; omega
        case rel => exact ⟨k + 1, by omega, by go_num, Lib.hid h3⟩
    · obtain rfl : k = 6 := by omega
      have Be := Lib.hid (BT.out a _ HI.out)
      go_wp2_with (first
        | (go_at_call 37; (with_reducible refine Be.out.mono ?_); rintro e w1 ⟨A1, c1, B1, d1, rfl, s1, h1⟩; have HS1 := Lib.hid (fun o => And.intro (PA.out _ _ o h1) (SupIn.below s1 (below_new w1 o))); clear s1; have b0 := fun o => (LX.out _ _ (PA.out _ _ o h1)).2.1; have b1 := fun o => (LX.out _ _ (PA.out _ _ o h1)).2.2.1; have b2 := fun o => (LX.out _ _ (PA.out _ _ o h1)).2.2.2.1; have b3 := fun o => (LX.out _ _ (PA.out _ _ o h1)).2.2.2.2.1; have b4 := fun o => (LX.out _ _ (PA.out _ _ o h1)).2.2.2.2.2.1; have b5 := fun o => (LX.out _ _ (PA.out _ _ o h1)).2.2.2.2.2.2)
        | (go_at_call 36; (with_reducible refine (Myy.out _ _ _ (HS1.out _)).mono ?_); rintro e w2 ⟨rfl, h2, hb2⟩)
        | (go_at_call 26; (with_reducible refine (AL.out _ _ h2).mono ?_); rintro e w3 ⟨rfl, hb3⟩))
      go_ret
      exact ⟨rfl, hb3⟩
end Go.Proofs.YtoojdknfommpbaaDoor
