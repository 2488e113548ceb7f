/- The law SuperBest: the walk. -/
import Derived.Test.YtoojdknfommpbaaDoorSuperAwake
import Derived.Test.YtoojdknfommpbaaDoorSuperBestRef
namespace Go.Proofs.YtoojdknfommpbaaDoor
open Go.RowKit
set_option maxRecDepth 10000

theorem nums_length (l : List UInt8) : (nums l).length = l.length := by simp [nums]
theorem readS_le (s : List UInt8) : (readS s).1.check.length ≤ 63 ∧ (readS s).1.log.length ≤ 63 := by
  unfold readS
  simp only [nums_length]
  exact ⟨rdText_le _ _, rdText_le _ _⟩
theorem decX_le (l : List UInt8) : (decX l).check.length ≤ 63 ∧ (decX l).log.length ≤ 63 := by
  unfold decX
  split
  · exact readS_le _
  · exact ⟨Nat.zero_le _, Nat.zero_le _⟩
theorem bestX_le (a b : List UInt8) : (bestX a b).check.length ≤ 63 ∧ (bestX a b).log.length ≤ 63 := by
  unfold bestX
  split
  · split
    · exact decX_le _
    · exact decX_le _
  · split
    · exact decX_le _
    · exact ⟨Nat.zero_le _, Nat.zero_le _⟩

set_option maxHeartbeats 4000000 in
theorem superBest_walk (a b : ByteArray) (w : World) (ha : a.size ≤ maxLen) (hb : b.size ≤ maxLen) :
    Calls Tryd.prog 8 #[.string a, .string b] w fun e w' => e = .returned (.bool true) ∧ Below w.heap.size w w' := by
  unfold maxLen at ha hb
  have HAw := Lib.hid awake07_any
  by_cases h6 : 300 < a.size
  · have h6I : 300 < (a.size : Int) := by omega
    clear h6
    go_enter Tryd.func8, Tryd.ntmps8
    go_wp2_with (go_at_call 26; (with_reducible refine (HAw.out _).mono ?_); rintro e w2 ⟨rfl, hb2⟩)
    go_ret
    exact ⟨rfl, hb2⟩
  by_cases h7 : 300 < b.size
  · have h6I : (a.size : Int) ≤ 300 := by omega
    have h7I : 300 < (b.size : Int) := by omega
    clear h6 h7
    go_enter Tryd.func8, Tryd.ntmps8
    go_wp2_with (go_at_call 26; (with_reducible refine (HAw.out _).mono ?_); rintro e w2 ⟨rfl, hb2⟩)
    go_ret
    exact ⟨rfl, hb2⟩
  obtain ⟨la, rfl⟩ : ∃ l0, a = mkS l0 := ⟨bl a, (mkS_bl a).symm⟩
  obtain ⟨lb, rfl⟩ : ∃ l0, b = mkS l0 := ⟨bl b, (mkS_bl b).symm⟩
  have h6I : ((mkS la).size : Int) ≤ 300 := by omega
  have h7I : ((mkS lb).size : Int) ≤ 300 := by omega
  obtain ⟨X, hX⟩ : ∃ X, bestX la lb = X := ⟨_, rfl⟩
  obtain ⟨N, hN⟩ : ∃ N, bestN la lb = N := ⟨_, rfl⟩
  obtain ⟨E, hE⟩ : ∃ E, bestE la lb = E := ⟨_, rfl⟩
  have hXl := bestX_le la lb
  rw [hX] at hXl
  have B1 : Hid (∀ W : World, Calls Tryd.prog 37 #[.string (mkS la), .string (mkS lb)] W fun e w' => ∃ A c B d, e = .returned (.tuple #[.agg #[.int .i64 X.gen, .int .i64 X.base, .int .i64 X.size, .int .i64 X.cgen, .slice A X.check.length c, .slice B X.log.length d], .int .i64 N, .int .i64 E]) ∧
    SupIn w' X (.agg #[.int .i64 X.gen, .int .i64 X.base, .int .i64 X.size, .int .i64 X.cgen, .slice A X.check.length c, .slice B X.log.length d]) ∧ Below W.heap.size W w') := Lib.hid fun W =>
    (sbest_any la lb W).mono fun e w' h => by have := best_ex h hX; rw [hN, hE] at this; exact this
  have B2 : Hid (∀ W : World, Calls Tryd.prog 38 #[.string (mkS la), .string (mkS lb)] W fun e w' => ∃ A c B d, e = .returned (.tuple #[.agg #[.int .i64 X.gen, .int .i64 X.base, .int .i64 X.size, .int .i64 X.cgen, .slice A X.check.length c, .slice B X.log.length d], .int .i64 N, .int .i64 E]) ∧
    SupIn w' X (.agg #[.int .i64 X.gen, .int .i64 X.base, .int .i64 X.size, .int .i64 X.cgen, .slice A X.check.length c, .slice B X.log.length d]) ∧ Below W.heap.size W w') := Lib.hid fun W =>
    (best_ref la lb W).mono fun e w' h => by have := best_ex h hX; rw [hN, hE] at this; exact this
  have SM : Hid (∀ (W : World) v u, SupIn W X v ∧ SupIn W X u → Calls Tryd.prog 31 #[v, u] W fun e w' => e = .returned (.bool true) ∧ Below W.heap.size W w') := Lib.hid fun W v u h =>
    (ssame_ref X X v u W h.1 h.2 (by omega)).mono fun e w' ⟨he, hb⟩ => ⟨by rw [he, decide_eq_true (sameS_iff.2 rfl)], hb⟩
  clear hX hN hE hXl h6 h7
  generalize mkS la = SA at *
  generalize mkS lb = SB at *
  obtain ⟨n1, hn1⟩ : ∃ n, X.check.length = n := ⟨_, rfl⟩
  obtain ⟨n2, hn2⟩ : ∃ n, X.log.length = n := ⟨_, rfl⟩
  rw [hn1, hn2] at B1 B2
  clear hn1 hn2
  obtain ⟨x0, x1, x2, x3, x4, x5⟩ := X
  simp only at *
  go_enter Tryd.func8, Tryd.ntmps8
  go_wp2_with (first
    | (go_at_call 37; (with_reducible refine (B1.out _).mono ?_); rintro e w1 ⟨A1, c1, D1, d1, rfl, s1, hb1⟩; have HS1 := Lib.hid s1; clear s1)
    | (go_at_call 38; (with_reducible refine (B2.out _).mono ?_); rintro e w2 ⟨A2, c2, D2, d2, rfl, s2, hb2⟩; have z2 := blk_after hb2; have y0 := fun o => (cells6a z2 o).1; have y1 := fun o => (cells6a z2 o).2.1; have y2 := fun o => (cells6a z2 o).2.2.1; have y3 := fun o => (cells6a z2 o).2.2.2.1; have y4 := fun o => (cells6a z2 o).2.2.2.2.1; have y5 := fun o => (cells6a z2 o).2.2.2.2.2; have HS2 := Lib.hid (fun o => And.intro (((HS1.out.below (below_new _ _)).below hb2).below (below_new w2 o)) (s2.below (below_new w2 o))); clear z2 s2)
    | (go_at_call 31; (with_reducible refine (SM.out _ _ _ (HS2.out _)).mono ?_); rintro e w3 ⟨rfl, hb3⟩)
    | (go_at_call 26; (with_reducible refine (HAw.out _).mono ?_); rintro e w4 ⟨rfl, hb4⟩))
  go_ret
  exact ⟨rfl, below_next (below_next (below_next hb1 (below_then (below_new _ _) (below_new _ _).size hb2)) (below_then (below_new _ _) (below_new _ _).size hb3)) hb4⟩
end Go.Proofs.YtoojdknfommpbaaDoor
