/- The walk of draymanref07.Best. -/
import Derived.Test.YtoojdknfommpbaaDoorSuperBest
import Derived.Test.YtoojdknfommpbaaDoorSuperDecRef2
namespace Go.Proofs.YtoojdknfommpbaaDoor
open Go.RowKit
set_option maxRecDepth 10000

set_option maxHeartbeats 8000000 in
theorem best_ref (a b : List UInt8) (w : World) : Calls Tryd.prog 38 #[.string (mkS a), .string (mkS b)] w (BestPost w a b) := by
  have HR0 := Lib.hid (R6.new w)
  have DA : Hid (∀ W, R6 w W → Calls Tryd.prog 30 #[.string (mkS a)] W fun e w' => ∃ A c B d, e = .returned (.tuple #[.agg #[.int .i64 (decX a).gen, .int .i64 (decX a).base, .int .i64 (decX a).size, .int .i64 (decX a).cgen, .slice A (decX a).check.length c, .slice B (decX a).log.length d], .int .i64 (decE a)]) ∧ SupOwn (w.heap.size + 1) w' (decX a) (SupV (decX a) (.slice A (decX a).check.length c) (.slice B (decX a).log.length d)) ∧ R6 w w') := Lib.hid fun W h =>
    (dec_any a W).mono fun e w' ⟨v, he, ho, hb⟩ => by
      have hlt : w.heap.size < W.heap.size := (Array.getElem?_eq_some_iff.1 h.1).1
      have ho2 := ho.weaken (show w.heap.size + 1 ≤ W.heap.size by omega)
      obtain ⟨A, c, B, d, rfl, _⟩ := ho
      exact ⟨A, c, B, d, he, ho2, h.below hb⟩
  have DBb : Hid (∀ W, Calls Tryd.prog 30 #[.string (mkS b)] W fun e w' => ∃ A c B d, e = .returned (.tuple #[.agg #[.int .i64 (decX b).gen, .int .i64 (decX b).base, .int .i64 (decX b).size, .int .i64 (decX b).cgen, .slice A (decX b).check.length c, .slice B (decX b).log.length d], .int .i64 (decE b)]) ∧ SupOwn W.heap.size w' (decX b) (SupV (decX b) (.slice A (decX b).check.length c) (.slice B (decX b).log.length d)) ∧ Below W.heap.size W w') := Lib.hid fun W =>
    (dec_any b W).mono fun e w' ⟨v, he, ho, hb⟩ => by
      have ho2 := ho
      obtain ⟨A, c, B, d, rfl, _⟩ := ho
      exact ⟨A, c, B, d, he, ho2, hb⟩
  have hcase : (¬ decOk a ∧ ¬ decOk b) ∨ (¬ decOk a ∧ decOk b) ∨ (decOk a ∧ ¬ decOk b) ∨ (decOk a ∧ decOk b ∧ (decX a).gen < (decX b).gen) ∨ (decOk a ∧ decOk b ∧ (decX b).gen ≤ (decX a).gen) := by
    by_cases h1 : decOk a <;> by_cases h2 : decOk b
    · rcases Int.lt_or_le (decX a).gen (decX b).gen with h | h
      · exact .inr (.inr (.inr (.inl ⟨h1, h2, h⟩)))
      · exact .inr (.inr (.inr (.inr ⟨h1, h2, h⟩)))
    · exact .inr (.inr (.inl ⟨h1, h2⟩))
    · exact .inr (.inl ⟨h1, h2⟩)
    · exact .inl ⟨h1, h2⟩
  have HRes : Hid ((¬ decOk a ∧ ¬ decOk b → bestX a b = Sup.zero ∧ bestN a b = 0 ∧ bestE a b = 12) ∧ (¬ decOk a ∧ decOk b → bestX a b = decX b ∧ bestN a b = 1 ∧ bestE a b = 0) ∧ (decOk a ∧ ¬ decOk b → bestX a b = decX a ∧ bestN a b = 0 ∧ bestE a b = 0) ∧
      (decOk a ∧ decOk b ∧ (decX a).gen < (decX b).gen → bestX a b = decX b ∧ bestN a b = 1 ∧ bestE a b = 0) ∧ (decOk a ∧ decOk b ∧ (decX b).gen ≤ (decX a).gen → bestX a b = decX a ∧ bestN a b = 0 ∧ bestE a b = 0)) := Lib.hid (by
    unfold bestX bestN bestE
    refine ⟨fun ⟨h1, h2⟩ => by simp [h1, h2], fun ⟨h1, h2⟩ => by simp [h1, h2], fun ⟨h1, h2⟩ => by simp [h1, h2], fun ⟨h1, h2, h3⟩ => by simp [h1, h2, h3], fun ⟨h1, h2, h3⟩ => ?_⟩
    have h4 : ¬ (decX a).gen < (decX b).gen := by omega
    simp [h1, h2, h4])
  have HEa : Hid ((decOk a → decE a = 0) ∧ (¬ decOk a → decE a = 12) ∧ (decOk b → decE b = 0) ∧ (¬ decOk b → decE b = 12)) := Lib.hid (by
    unfold decE; exact ⟨fun h => if_pos h, fun h => if_neg h, fun h => if_pos h, fun h => if_neg h⟩)
  obtain ⟨X, hX⟩ : ∃ X, decX a = X := ⟨_, rfl⟩
  obtain ⟨Y, hY⟩ : ∃ Y, decX b = Y := ⟨_, rfl⟩
  obtain ⟨E, hE⟩ : ∃ E, decE a = E := ⟨_, rfl⟩
  obtain ⟨F, hF⟩ : ∃ F, decE b = F := ⟨_, rfl⟩
  rw [hX, hE] at DA
  rw [hY, hF] at DBb
  rw [hX, hY] at HRes hcase
  rw [hE, hF] at HEa
  clear hX hY hE hF
  generalize mkS a = SA at *
  generalize mkS b = SB at *
  obtain ⟨n1, hn1⟩ : ∃ n, X.check.length = n := ⟨_, rfl⟩
  obtain ⟨n2, hn2⟩ : ∃ n, X.log.length = n := ⟨_, rfl⟩
  obtain ⟨n3, hn3⟩ : ∃ n, Y.check.length = n := ⟨_, rfl⟩
  obtain ⟨n4, hn4⟩ : ∃ n, Y.log.length = n := ⟨_, rfl⟩
  rw [hn1, hn2] at DA
  rw [hn3, hn4] at DBb
  clear hn1 hn2 hn3 hn4
  obtain ⟨x0, x1, x2, x3, x4, x5⟩ := X
  obtain ⟨y0, y1, y2, y3, y4, y5⟩ := Y
  simp only at *
  rcases hcase with hc | hc | hc | hc | hc
  · have HC := Lib.hid hc
    have hE := HEa.out.2.1 hc.1
    have hF := HEa.out.2.2.2 hc.2
    subst hE hF
    clear hc
    go_enter Tryd.func38, Tryd.ntmps38
    go_upto_region 3 with (first | (go_at_call 30; have hq := R1; (with_reducible refine (DBb.out _).mono ?_); rintro e w2 ⟨A2, c2, B2, d2, rfl, o2, hb2⟩; have HD := Lib.hid (db_new hq.out O1.out hb2 o2); have zb := cells6 HD.out.b1; obtain ⟨f0, f1, f2, f3, f4, f5⟩ := zb; have zc := free6 HD.out.r6.1; obtain ⟨e0, e1, e2, e3, e4, e5⟩ := zc; have zd := cells6 HD.out.r6.1; obtain ⟨g0, g1, g2, g3, g4, g5⟩ := zd; clear hb2 o2 hq) | (go_at_call 30; (with_reducible refine (DA.out _ HR0.out).mono ?_); rintro e w1 ⟨A1, c1, B1, d1, rfl, o1, hr1⟩; have R1 := Lib.hid hr1; have O1 := Lib.hid o1; clear hr1 o1))
    go_wp2
    generalize hW9 : ((((((World.setCell _ _ _).setCell _ _).setCell _ _).setCell _ _).setCell _ _).setCell _ _) = W9
    obtain ⟨q9, b9, s9⟩ := HD.out.fin Sup.zero (.slice none 0 0) (.slice none 0 0) (supOwn_zero _ _) W9 hW9
    obtain ⟨g0, g1, g2, g3, g4, g5⟩ := cells6 q9
    (try simp only [Exit.inBlock, Exit.then])
    refine bodyPost_ret (by simp [results, Tryd.results38, go_sem, g0, g1, g2, g3, g4, g5]; try rfl) rfl ?_
    obtain ⟨r1, r2, r3⟩ := HRes.out.1 HC.out
    exact ⟨_, by rw [r2, r3], by rw [r1]; exact s9, b9⟩
  · have HC := Lib.hid hc
    have hE := HEa.out.2.1 hc.1
    have hF := HEa.out.2.2.1 hc.2
    subst hE hF
    clear hc
    go_enter Tryd.func38, Tryd.ntmps38
    go_upto_region 3 with (first | (go_at_call 30; have hq := R1; (with_reducible refine (DBb.out _).mono ?_); rintro e w2 ⟨A2, c2, B2, d2, rfl, o2, hb2⟩; have HD := Lib.hid (db_new hq.out O1.out hb2 o2); have zb := cells6 HD.out.b1; obtain ⟨f0, f1, f2, f3, f4, f5⟩ := zb; have zc := free6 HD.out.r6.1; obtain ⟨e0, e1, e2, e3, e4, e5⟩ := zc; have zd := cells6 HD.out.r6.1; obtain ⟨g0, g1, g2, g3, g4, g5⟩ := zd; clear hb2 o2 hq) | (go_at_call 30; (with_reducible refine (DA.out _ HR0.out).mono ?_); rintro e w1 ⟨A1, c1, B1, d1, rfl, o1, hr1⟩; have R1 := Lib.hid hr1; have O1 := Lib.hid o1; clear hr1 o1))
    go_wp2
    generalize hW9 : ((((((World.setCell _ _ _).setCell _ _).setCell _ _).setCell _ _).setCell _ _).setCell _ _) = W9
    obtain ⟨q9, b9, s9⟩ := HD.out.fin ⟨y0, y1, y2, y3, y4, y5⟩ (.slice A2 n3 c2) (.slice B2 n4 d2) HD.out.o2 W9 hW9
    obtain ⟨g0, g1, g2, g3, g4, g5⟩ := cells6 q9
    (try simp only [Exit.inBlock, Exit.then])
    refine bodyPost_ret (by simp [results, Tryd.results38, go_sem, g0, g1, g2, g3, g4, g5]; try rfl) rfl ?_
    obtain ⟨r1, r2, r3⟩ := HRes.out.2.1 HC.out
    exact ⟨_, by rw [r2, r3], by rw [r1]; exact s9, b9⟩
  · have HC := Lib.hid hc
    have hE := HEa.out.1 hc.1
    have hF := HEa.out.2.2.2 hc.2
    subst hE hF
    clear hc
    go_enter Tryd.func38, Tryd.ntmps38
    go_upto_region 3 with (first | (go_at_call 30; have hq := R1; (with_reducible refine (DBb.out _).mono ?_); rintro e w2 ⟨A2, c2, B2, d2, rfl, o2, hb2⟩; have HD := Lib.hid (db_new hq.out O1.out hb2 o2); have zb := cells6 HD.out.b1; obtain ⟨f0, f1, f2, f3, f4, f5⟩ := zb; have zc := free6 HD.out.r6.1; obtain ⟨e0, e1, e2, e3, e4, e5⟩ := zc; have zd := cells6 HD.out.r6.1; obtain ⟨g0, g1, g2, g3, g4, g5⟩ := zd; clear hb2 o2 hq) | (go_at_call 30; (with_reducible refine (DA.out _ HR0.out).mono ?_); rintro e w1 ⟨A1, c1, B1, d1, rfl, o1, hr1⟩; have R1 := Lib.hid hr1; have O1 := Lib.hid o1; clear hr1 o1))
    go_wp2
    generalize hW9 : ((((((World.setCell _ _ _).setCell _ _).setCell _ _).setCell _ _).setCell _ _).setCell _ _) = W9
    obtain ⟨q9, b9, s9⟩ := HD.out.fin ⟨x0, x1, x2, x3, x4, x5⟩ (.slice A1 n1 c1) (.slice B1 n2 d1) HD.out.o1 W9 hW9
    obtain ⟨g0, g1, g2, g3, g4, g5⟩ := cells6 q9
    (try simp only [Exit.inBlock, Exit.then])
    refine bodyPost_ret (by simp [results, Tryd.results38, go_sem, g0, g1, g2, g3, g4, g5]; try rfl) rfl ?_
    obtain ⟨r1, r2, r3⟩ := HRes.out.2.2.1 HC.out
    exact ⟨_, by rw [r2, r3], by rw [r1]; exact s9, b9⟩
  · have HC := Lib.hid hc
    have hE := HEa.out.1 hc.1
    have hF := HEa.out.2.2.1 hc.2.1
    subst hE hF
    have hg := hc.2.2
    clear hc
    go_enter Tryd.func38, Tryd.ntmps38
    go_upto_region 3 with (first | (go_at_call 30; have hq := R1; (with_reducible refine (DBb.out _).mono ?_); rintro e w2 ⟨A2, c2, B2, d2, rfl, o2, hb2⟩; have HD := Lib.hid (db_new hq.out O1.out hb2 o2); have zb := cells6 HD.out.b1; obtain ⟨f0, f1, f2, f3, f4, f5⟩ := zb; have zc := free6 HD.out.r6.1; obtain ⟨e0, e1, e2, e3, e4, e5⟩ := zc; have zd := cells6 HD.out.r6.1; obtain ⟨g0, g1, g2, g3, g4, g5⟩ := zd; clear hb2 o2 hq) | (go_at_call 30; (with_reducible refine (DA.out _ HR0.out).mono ?_); rintro e w1 ⟨A1, c1, B1, d1, rfl, o1, hr1⟩; have R1 := Lib.hid hr1; have O1 := Lib.hid o1; clear hr1 o1))
    go_wp2
    generalize hW9 : ((((((World.setCell _ _ _).setCell _ _).setCell _ _).setCell _ _).setCell _ _).setCell _ _) = W9
    obtain ⟨q9, b9, s9⟩ := HD.out.fin ⟨y0, y1, y2, y3, y4, y5⟩ (.slice A2 n3 c2) (.slice B2 n4 d2) HD.out.o2 W9 hW9
    obtain ⟨g0, g1, g2, g3, g4, g5⟩ := cells6 q9
    (try simp only [Exit.inBlock, Exit.then])
    refine bodyPost_ret (by simp [results, Tryd.results38, go_sem, g0, g1, g2, g3, g4, g5]; try rfl) rfl ?_
    obtain ⟨r1, r2, r3⟩ := HRes.out.2.2.2.1 HC.out
    exact ⟨_, by rw [r2, r3], by rw [r1]; exact s9, b9⟩
  · have HC := Lib.hid hc
    have hE := HEa.out.1 hc.1
    have hF := HEa.out.2.2.1 hc.2.1
    subst hE hF
    have hg := hc.2.2
    clear hc
    go_enter Tryd.func38, Tryd.ntmps38
    go_upto_region 3 with (first | (go_at_call 30; have hq := R1; (with_reducible refine (DBb.out _).mono ?_); rintro e w2 ⟨A2, c2, B2, d2, rfl, o2, hb2⟩; have HD := Lib.hid (db_new hq.out O1.out hb2 o2); have zb := cells6 HD.out.b1; obtain ⟨f0, f1, f2, f3, f4, f5⟩ := zb; have zc := free6 HD.out.r6.1; obtain ⟨e0, e1, e2, e3, e4, e5⟩ := zc; have zd := cells6 HD.out.r6.1; obtain ⟨g0, g1, g2, g3, g4, g5⟩ := zd; clear hb2 o2 hq) | (go_at_call 30; (with_reducible refine (DA.out _ HR0.out).mono ?_); rintro e w1 ⟨A1, c1, B1, d1, rfl, o1, hr1⟩; have R1 := Lib.hid hr1; have O1 := Lib.hid o1; clear hr1 o1))
    go_wp2
    generalize hW9 : ((((((World.setCell _ _ _).setCell _ _).setCell _ _).setCell _ _).setCell _ _).setCell _ _) = W9
    obtain ⟨q9, b9, s9⟩ := HD.out.fin ⟨x0, x1, x2, x3, x4, x5⟩ (.slice A1 n1 c1) (.slice B1 n2 d1) HD.out.o1 W9 hW9
    obtain ⟨g0, g1, g2, g3, g4, g5⟩ := cells6 q9
    (try simp only [Exit.inBlock, Exit.then])
    refine bodyPost_ret (by simp [results, Tryd.results38, go_sem, g0, g1, g2, g3, g4, g5]; try rfl) rfl ?_
    obtain ⟨r1, r2, r3⟩ := HRes.out.2.2.2.2 HC.out
    exact ⟨_, by rw [r2, r3], by rw [r1]; exact s9, b9⟩
end Go.Proofs.YtoojdknfommpbaaDoor
