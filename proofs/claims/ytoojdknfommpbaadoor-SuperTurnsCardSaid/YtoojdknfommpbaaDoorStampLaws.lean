/- The laws StampSeals and StampOpens: the walks. -/
import Derived.Test.YtoojdknfommpbaaDoorStampPlain
import Derived.Test.YtoojdknfommpbaaDoorStampOpenRef
namespace Go.Proofs.YtoojdknfommpbaaDoor
open Go.RowKit
set_option maxRecDepth 10000

theorem alloc3 {W : World} {b : Nat} {x y z : Value} {T : TypeId} (h : W.heap[b]? = some (.cells #[x, y, z] T (0, 0))) (o : Obj) :
    (W.alloc o).cell? ⟨b, 0, none⟩ = some x ∧ (W.alloc o).cell? ⟨b, 1, none⟩ = some y ∧ (W.alloc o).cell? ⟨b, 2, none⟩ = some z := cells3 (blk_keep h (below_new W o))
theorem awake06_any (w : World) : Calls Tryd.prog 12 #[] w fun e w' => e = .returned (.bool true) ∧ Below w.heap.size w w' := by
  have hf : Stp.fit ⟨1, 0, 1⟩ := by decide
  have ec : (⟨#[97, 98]⟩ : ByteArray) = mkS [97, 98] := rfl
  obtain ⟨k1, k2⟩ := seal_ok hf (show ([97, 98] : List UInt8).length ≤ 104 by decide)
  obtain ⟨o1, o2, o3⟩ := open_seal hf (show ([97, 98] : List UInt8).length ≤ 104 by decide)
  have hz : (mkS (sealB ⟨1, 0, 1⟩ [97, 98])).size = 128 := by rw [mkS_size]; exact sealB_length _ _ (by decide)
  have HS : Hid (∀ W : World, Calls Tryd.prog 13 #[.agg #[.int .i64 1, .int .i64 0, .int .i64 1], .string ⟨#[97, 98]⟩] W fun e w' => e = .returned (.tuple #[.string (mkS (sealB ⟨1, 0, 1⟩ [97, 98])), .int .i64 0]) ∧ Below W.heap.size W w') := Lib.hid fun W =>
    (seal_any ⟨1, 0, 1⟩ ⟨#[97, 98]⟩ W (by decide)).mono fun e w' ⟨he, hb⟩ => ⟨by rw [he, ec, bl_mkS, k1, k2], hb⟩
  have HO1 : Hid (∀ W : World, Calls Tryd.prog 20 #[.string (mkS (sealB ⟨1, 0, 1⟩ [97, 98]))] W fun e w' => e = .returned (.tuple #[.agg #[.int .i64 1, .int .i64 0, .int .i64 1], .string ⟨#[97, 98]⟩, .int .i64 0]) ∧ Below W.heap.size W w') := Lib.hid fun W =>
    (open_any _ W).mono fun e w' ⟨he, hb⟩ => ⟨by rw [he, o1, o2, o3]; rfl, hb⟩
  have HO2 : Hid (∀ W : World, Calls Tryd.prog 20 #[.string blankS] W fun e w' => e = .returned (.tuple #[.agg #[.int .i64 0, .int .i64 0, .int .i64 0], .string ByteArray.empty, .int .i64 12]) ∧ Below W.heap.size W w') := Lib.hid fun W =>
    (open_any (zer 128) W).mono fun e w' ⟨he, hb⟩ => ⟨by rw [he]; unfold openX openS openE; rw [if_neg zer_not_open, if_neg zer_not_open, if_neg zer_not_open]; rfl, hb⟩
  have HB := Lib.hid blank_any
  have HK : Hid (∀ W : World, Calls Tryd.prog 22 #[.string blankS] W fun e w' => e = .returned (.bool true) ∧ Below W.heap.size W w') := Lib.hid fun W =>
    (isBlank_any blankS W (by decide)).mono fun e w' ⟨he, hb⟩ => ⟨by rw [he, show bl blankS = zer 128 from bl_mkS _, decide_eq_true rfl], hb⟩
  have HP : Hid (∀ W : World, Calls Tryd.prog 18 #[.string ⟨#[]⟩] W fun e w' => ∃ A c, e = .returned (.slice A 1 c) ∧ Below W.heap.size W w') := Lib.hid fun W =>
    (split_any [] W (by decide)).mono fun e w' ⟨v, he, ho, hb⟩ => by
      rw [splitL_small (by decide)] at ho
      obtain ⟨A, c, rfl⟩ := ho.slice
      exact ⟨A, c, he, hb⟩
  generalize mkS (sealB ⟨1, 0, 1⟩ [97, 98]) = T at *
  have hT : (T.size : Int) = 128 := by omega
  generalize blankS = BS at *
  clear o1 o2 o3 k1 k2 ec hf hz
  go_enter Tryd.func12, Tryd.ntmps12
  go_wp2_with (first
    | (go_at_call 13; (with_reducible refine (HS.out _).mono ?_); rintro e w1 ⟨rfl, hb1⟩)
    | (go_at_call 20; (with_reducible refine (HO1.out _).mono ?_); rintro e w2 ⟨rfl, hb2⟩)
    | (go_at_call 20; (with_reducible refine (HO2.out _).mono ?_); rintro e w4 ⟨rfl, hb4⟩; have z4 := blk_keep (blk_after hb3) hb4; have y0 := fun o => (alloc3 z4 o).1; have y1 := fun o => (alloc3 z4 o).2.1; have y2 := fun o => (alloc3 z4 o).2.2; clear z4)
    | (go_at_call 23; have hq := hb4; (with_reducible refine (HB.out _).mono ?_); rintro e w5 ⟨rfl, hb5⟩; clear hq)
    | (go_at_call 23; (with_reducible refine (HB.out _).mono ?_); rintro e w3 ⟨rfl, hb3⟩)
    | (go_at_call 22; (with_reducible refine (HK.out _).mono ?_); rintro e w6 ⟨rfl, hb6⟩)
    | (go_at_call 18; (with_reducible refine (HP.out _).mono ?_); rintro e w7 ⟨A7, c7, rfl, hb7⟩))
  go_ret
  exact ⟨rfl, below_next (below_next (below_next (below_next (below_next (below_next hb1 hb2) (below_then (below_new _ _) (below_new _ _).size hb3)) hb4) (below_then (below_new _ _) (below_new _ _).size hb5)) hb6) hb7⟩
/-- The law's own box with the stamp; and what was there. -/
def BX (w : World) (x : Stp) (W : World) : Prop := W.heap[w.heap.size]? = some (.cells #[.int .i64 x.num, .int .i64 x.idx, .int .i64 x.cnt] 23 (0, 0)) ∧ Below w.heap.size w W
theorem BX.below {w W W' : World} {x : Stp} (h : BX w x W) (hb : Below W.heap.size W W') : BX w x W' := ⟨blk_keep h.1 hb, below_next h.2 hb⟩
theorem BX.new (w : World) (x : Stp) : BX w x (w.alloc (.cells #[.int .i64 x.num, .int .i64 x.idx, .int .i64 x.cnt] 23)) :=
  ⟨by show (w.heap.push _)[w.heap.size]? = _; simp, below_new _ _⟩
theorem BX.facts {w W : World} {x : Stp} (h : BX w x W) : W.cell? ⟨w.heap.size, 0, none⟩ = some (.int .i64 x.num) ∧ W.cell? ⟨w.heap.size, 1, none⟩ = some (.int .i64 x.idx) ∧ W.cell? ⟨w.heap.size, 2, none⟩ = some (.int .i64 x.cnt) := cells3 h.1
theorem below_drewS (W : World) : Below W.heap.size W W.drew := (Below.refl _ _).drew

set_option maxHeartbeats 4000000 in
theorem stampSeals_walk (v : Value) (x : Stp) (s : ByteArray) (w : World) (hx : v = x.val) (hs : s.size ≤ maxLen) :
    Calls Tryd.prog 3 #[v, .string s] w fun e w' => e = .returned (.bool true) ∧ Below w.heap.size w w' := by
  subst hx
  unfold maxLen at hs
  have HAw := Lib.hid awake06_any
  have HB0 := Lib.hid (BX.new w x)
  by_cases h6 : 300 < s.size
  · have h6I : 300 < (s.size : Int) := by omega
    obtain ⟨xa, xb, xc⟩ := x
    unfold Stp.val
    simp only at *
    clear h6
    go_enter Tryd.func3, Tryd.ntmps3
    go_wp2_with (go_at_call 12; (with_reducible refine (HAw.out _).mono ?_); rintro e w2 ⟨rfl, hb2⟩)
    go_ret
    exact ⟨rfl, below_next HB0.out.2 hb2⟩
  · obtain ⟨l0, rfl⟩ : ∃ l0, s = mkS l0 := ⟨bl s, (mkS_bl s).symm⟩
    rw [mkS_size] at h6
    have hsz : ((mkS l0).size : Int) ≤ 300 := by rw [mkS_size]; omega
    obtain ⟨S, hS⟩ : ∃ S, mkS (sealS x l0) = S := ⟨_, rfl⟩
    obtain ⟨E, hE⟩ : ∃ E, sealE x l0 = E := ⟨_, rfl⟩
    obtain ⟨fb, hfb⟩ : ∃ fb, decide x.fit = fb := ⟨_, rfl⟩
    obtain ⟨L, hL⟩ : ∃ L, splitL l0 = L := ⟨_, rfl⟩
    have hLn : L.length ≤ 1000000 := by
      rw [← hL]; unfold splitL; rw [List.length_map]
      have := chunks_length l0; omega
    have S1 : Hid (∀ W, BX w x W → Calls Tryd.prog 13 #[x.val, .string (mkS l0)] W fun e w' => e = .returned (.tuple #[.string S, .int .i64 E]) ∧ BX w x w') := Lib.hid fun W h =>
      (seal_any x (mkS l0) W (by rw [mkS_size]; omega)).mono fun e w' ⟨he, hb⟩ => ⟨by rw [he, bl_mkS, hS, hE], h.below hb⟩
    have S2 : Hid (∀ W, BX w x W → Calls Tryd.prog 14 #[x.val, .string (mkS l0)] W fun e w' => e = .returned (.tuple #[.string S, .int .i64 E]) ∧ BX w x w') := Lib.hid fun W h =>
      (seal_ref x (mkS l0) W (by rw [mkS_size]; omega)).mono fun e w' ⟨he, hb⟩ => ⟨by rw [he, bl_mkS, hS, hE], h.below hb⟩
    have F1 : Hid (∀ W, BX w x W → Calls Tryd.prog 15 #[x.val] W fun e w' => e = .returned (.bool fb) ∧ BX w x w') := Lib.hid fun W h =>
      (fit_any x W).mono fun e w' ⟨he, hb⟩ => ⟨by rw [he, hfb], h.below hb⟩
    have F2 : Hid (∀ W, BX w x W → Calls Tryd.prog 16 #[x.val] W fun e w' => e = .returned (.bool fb) ∧ BX w x w') := Lib.hid fun W h =>
      (fit_ref x W).mono fun e w' ⟨he, hb⟩ => ⟨by rw [he, hfb], h.below hb⟩
    have P1 : Hid (∀ W, BX w x W → Calls Tryd.prog 18 #[.string (mkS l0)] W fun e w' => ∃ A c, e = .returned (.slice A L.length c) ∧ Sl Value.string w' (.slice A L.length c) L ∧ BX w x w') := Lib.hid fun W h =>
      (split_any l0 W (by omega)).mono fun e w' ⟨v, he, ho, hb⟩ => by
        rw [hL] at ho
        obtain ⟨A, c, rfl⟩ := ho.slice
        exact ⟨A, c, he, ho.sl, h.below hb⟩
    have P2 : Hid (∀ W A c, BX w x W → Sl Value.string W (.slice A L.length c) L → Calls Tryd.prog 19 #[.string (mkS l0)] W fun e w' => ∃ B d, e = .returned (.slice B L.length d) ∧ (Sl Value.string w' (.slice A L.length c) L ∧ Sl Value.string w' (.slice B L.length d) L) ∧ BX w x w') := Lib.hid fun W A c h h2 =>
      (split_ref l0 W (by omega)).mono fun e w' ⟨v, he, ho, hb⟩ => by
        rw [hL] at ho
        obtain ⟨B, d, rfl⟩ := ho.slice
        exact ⟨B, d, he, ⟨h2.below hb, ho.sl⟩, h.below hb⟩
    have M1 : Hid (∀ W A c B d, (Sl Value.string W (.slice A L.length c) L ∧ Sl Value.string W (.slice B L.length d) L) → BX w x W → Calls Tryd.prog 17 #[.slice A L.length c, .slice B L.length d] W fun e w' => e = .returned (.bool true) ∧ BX w x w') := Lib.hid fun W A c B d h2 h =>
      (same_any _ _ L L W h2.1 h2.2 hLn hLn).mono fun e w' ⟨he, hb⟩ => ⟨by rw [he, decide_eq_true rfl], h.below hb⟩
    have A1 : Hid (∀ W, BX w x W → Calls Tryd.prog 12 #[] W fun e w' => e = .returned (.bool true) ∧ BX w x w') := Lib.hid fun W h =>
      (awake06_any W).mono fun e w' ⟨he, hb⟩ => ⟨he, h.below hb⟩
    have D1 : Hid (∀ W, BX w x W → BX w x W.drew) := Lib.hid fun W h => h.below (below_drewS W)
    have G1 : Hid (∀ W, BX w x W → W.cell? ⟨w.heap.size, 0, none⟩ = some (.int .i64 x.num) ∧ W.cell? ⟨w.heap.size, 1, none⟩ = some (.int .i64 x.idx) ∧ W.cell? ⟨w.heap.size, 2, none⟩ = some (.int .i64 x.cnt)) := Lib.hid fun W h => h.facts
    have hSS := str_eq (show S = S from rfl)
    clear hS hE hfb hL hLn h6 HAw
    generalize mkS l0 = T at *
    obtain ⟨xa, xb, xc⟩ := x
    unfold Stp.val at *
    simp only at *
    go_enter Tryd.func3, Tryd.ntmps3
    go_wp2_with (first | (go_at_call 13; (with_reducible refine (S1.out _ HB0.out).mono ?_); rintro e w1 ⟨rfl, h1⟩; have y1 := G1.out _ h1; obtain ⟨a1, a2, a3⟩ := y1) | (go_at_call 14; (with_reducible refine (S2.out _ h1).mono ?_); rintro e w2 ⟨rfl, h2⟩))
    have hbr := D1.out _ h2
    have hx := G1.out _ hbr
    clear a1 a2 a3 h1 h2
    go_region_held3 (fun W' : World => W'.cell? ⟨w.heap.size, 0, none⟩ = some (.int .i64 xa) ∧ W'.cell? ⟨w.heap.size, 1, none⟩ = some (.int .i64 xb) ∧ W'.cell? ⟨w.heap.size, 2, none⟩ = some (.int .i64 xc))
      (first | exact hx | exact y3 | exact y4 | exact y5 | exact y6 | exact y7 | exact y8)
      (first | (go_at_call 15; (with_reducible refine (F1.out _ hbr).mono ?_); rintro e w3 ⟨rfl, h3⟩; have y3 := G1.out _ h3) | (go_at_call 16; (with_reducible refine (F2.out _ h3).mono ?_); rintro e w4 ⟨rfl, h4⟩; have y4 := G1.out _ h4) | (go_at_call 18; (with_reducible refine (P1.out _ h4).mono ?_); rintro e w5 ⟨A5, c5, rfl, s5, h5⟩; have y5 := G1.out _ h5) | (go_at_call 19; (with_reducible refine (P2.out _ _ _ h5 s5).mono ?_); rintro e w6 ⟨A6, c6, rfl, s6, h6⟩; have y6 := G1.out _ h6) | (go_at_call 17; (with_reducible refine (M1.out _ _ _ _ _ s6 h6).mono ?_); rintro e w7 ⟨rfl, h7⟩; have y7 := G1.out _ h7) | (go_at_call 12; (with_reducible refine (A1.out _ h7).mono ?_); rintro e w8 ⟨rfl, h8⟩; have y8 := G1.out _ h8))
    all_goals go_wp2
    all_goals go_ret
    all_goals exact ⟨rfl, h8.2⟩

set_option maxHeartbeats 4000000 in
theorem stampOpens_walk (s : ByteArray) (w : World) (hs : s.size ≤ maxLen) :
    Calls Tryd.prog 4 #[.string s] w fun e w' => e = .returned (.bool true) ∧ Below w.heap.size w w' := by
  unfold maxLen at hs
  have HAw := Lib.hid awake06_any
  by_cases h6 : 300 < s.size
  · have h6I : 300 < (s.size : Int) := by omega
    clear h6
    go_enter Tryd.func4, Tryd.ntmps4
    go_wp2_with (go_at_call 12; (with_reducible refine (HAw.out _).mono ?_); rintro e w2 ⟨rfl, hb2⟩)
    go_ret
    exact ⟨rfl, hb2⟩
  · obtain ⟨l0, rfl⟩ : ∃ l0, s = mkS l0 := ⟨bl s, (mkS_bl s).symm⟩
    rw [mkS_size] at h6
    have hsz : ((mkS l0).size : Int) ≤ 300 := by rw [mkS_size]; omega
    obtain ⟨X, hX⟩ : ∃ X, openX l0 = X := ⟨_, rfl⟩
    obtain ⟨S, hS⟩ : ∃ S, mkS (openS l0) = S := ⟨_, rfl⟩
    obtain ⟨E, hE⟩ : ∃ E, openE l0 = E := ⟨_, rfl⟩
    obtain ⟨fb, hfb⟩ : ∃ fb, decide (l0 = zer 128) = fb := ⟨_, rfl⟩
    have heq : ((mkS l0).toList == blankS.toList) = fb := by
      rw [← hfb]
      by_cases h : l0 = zer 128
      · rw [decide_eq_true h]; exact str_eq (by rw [h]; rfl)
      · rw [decide_eq_false h]; exact str_ne fun e => h (by rw [← bl_mkS l0, e]; exact bl_mkS _)
    have O1 : Hid (∀ W : World, Calls Tryd.prog 20 #[.string (mkS l0)] W fun e w' => e = .returned (.tuple #[X.val, .string S, .int .i64 E]) ∧ Below W.heap.size W w') := Lib.hid fun W =>
      (open_any l0 W).mono fun e w' ⟨he, hb⟩ => ⟨by rw [he, hX, hS, hE], hb⟩
    have O2 : Hid (∀ W : World, Calls Tryd.prog 21 #[.string (mkS l0)] W fun e w' => e = .returned (.tuple #[X.val, .string S, .int .i64 E]) ∧ Below W.heap.size W w') := Lib.hid fun W =>
      (open_ref l0 W).mono fun e w' ⟨he, hb⟩ => ⟨by rw [he, hX, hS, hE], hb⟩
    have K1 : Hid (∀ W : World, Calls Tryd.prog 22 #[.string (mkS l0)] W fun e w' => e = .returned (.bool fb) ∧ Below W.heap.size W w') := Lib.hid fun W =>
      (isBlank_any (mkS l0) W (by rw [mkS_size]; omega)).mono fun e w' ⟨he, hb⟩ => ⟨by rw [he, bl_mkS, hfb], hb⟩
    have B1 := Lib.hid blank_any
    have hSS := str_eq (show S = S from rfl)
    clear hX hS hE hfb h6
    generalize mkS l0 = T at *
    generalize blankS = BS at *
    obtain ⟨xa, xb, xc⟩ := X
    unfold Stp.val at *
    simp only at *
    go_enter Tryd.func4, Tryd.ntmps4
    go_wp2_with (first | (go_at_call 20; (with_reducible refine (O1.out _).mono ?_); rintro e w1 ⟨rfl, hb1⟩) | (go_at_call 21; (with_reducible refine (O2.out _).mono ?_); rintro e w2 ⟨rfl, hb2⟩; have z2 := blk_after hb2; have y0 := fun o => (alloc3 z2 o).1; have y1 := fun o => (alloc3 z2 o).2.1; have y2 := fun o => (alloc3 z2 o).2.2; clear z2) | (go_at_call 22; (with_reducible refine (K1.out _).mono ?_); rintro e w3 ⟨rfl, hb3⟩) | (go_at_call 23; (with_reducible refine (B1.out _).mono ?_); rintro e w4 ⟨rfl, hb4⟩) | (go_at_call 12; (with_reducible refine (HAw.out _).mono ?_); rintro e w5 ⟨rfl, hb5⟩))
    go_ret
    exact ⟨rfl, below_next (below_next (below_next (below_next hb1 (below_then (below_new _ _) (below_new _ _).size hb2)) (below_then (below_new _ _) (below_new _ _).size hb3)) hb4) hb5⟩
end Go.Proofs.YtoojdknfommpbaaDoor
