/- The laws of segments that need no disk: SegsTell, SegsApart: the walks. -/
import Derived.Test.YtmmajdkngboecaaSegsFree
namespace Go.Proofs.Ytmmajdkngboecaa
open Go.RowKit
set_option maxRecDepth 10000

theorem same_true (v u : Value) (l m : List Int) (w : World) (hs : Sl (Value.int .i64) w v l) (ht : Sl (Value.int .i64) w u m) (h : l = m) (hl : l.length ≤ 140737488351232) :
    Calls Try.prog 30 #[v, u] w fun e w' => e = .returned (.bool true) ∧ Below w.heap.size w w' := by
  have := same_any v u l m w hs ht hl (by rw [← h]; exact hl)
  rw [decide_eq_true h] at this; exact this
theorem segs_awake (w : World) : Calls Try.prog 25 #[] w fun e w' => e = .returned (.bool true) ∧ Below w.heap.size w w' := by
  have c20 : Hid (∀ w, Calls Try.prog 26 #[.int .i64 20] w fun e w' => e = .returned (.int .i64 2) ∧ w = w') := Lib.hid fun w => count_any 20 w
  have n9 : Hid (∀ w, Calls Try.prog 28 #[.int .i64 9] w fun e w' => e = .returned (.int .i64 2) ∧ w = w') := Lib.hid fun w => need_any 9 w (by decide)
  have n0 : Hid (∀ w, Calls Try.prog 28 #[.int .i64 0] w fun e w' => e = .returned (.int .i64 0) ∧ w = w') := Lib.hid fun w => need_any 0 w (by decide)
  have s1 : Hid (∀ W : World, Calls Try.prog 31 #[.slice (some ⟨W.heap.size, 0, none⟩) 1 1] (W.alloc (.cells #[.int .i64 1] 3)) fun e w' => ∃ v, e = .returned v ∧ Sl (Value.int .i64) w' v [10, 11, 12, 13, 14, 15, 16, 17] ∧ Below W.heap.size W w') :=
    Lib.hid fun W => (sectors_any _ [1] _ (sl_lit (Value.int .i64) W [1] _ 3 1 rfl rfl) (by decide) (by decide)).mono fun e w' ⟨v, he, ho, hb⟩ => ⟨v, he, ho.sl, below_next (below_new _ _) hb⟩
  have f1 : Hid (∀ W : World, Calls Try.prog 33 #[.int .i64 20, .slice (some ⟨W.heap.size, 0, none⟩) 1 1] (W.alloc (.cells #[.int .i64 0] 3)) fun e w' => ∃ v, e = .returned v ∧ Sl (Value.int .i64) w' v [1] ∧ Below W.heap.size W w') :=
    Lib.hid fun W => (free_any _ 20 [0] _ (sl_lit (Value.int .i64) W [0] _ 3 1 rfl rfl) (by decide) (by decide)).mono fun e w' ⟨v, he, ho, hb⟩ => ⟨v, he, ho.sl, below_next (below_new _ _) hb⟩
  have q1 : Hid (∀ (W : World) (v : Value), Sl (Value.int .i64) W v [10, 11, 12, 13, 14, 15, 16, 17] → Calls Try.prog 30 #[v, .slice (some ⟨W.heap.size, 0, none⟩) 8 8] (W.alloc (.cells #[.int .i64 10, .int .i64 11, .int .i64 12, .int .i64 13, .int .i64 14, .int .i64 15, .int .i64 16, .int .i64 17] 3)) fun e w' => e = .returned (.bool true) ∧ Below W.heap.size W w') :=
    Lib.hid fun W v h => (same_true _ _ _ _ _ (h.alloc _) (sl_lit (Value.int .i64) W [10, 11, 12, 13, 14, 15, 16, 17] _ 3 8 rfl rfl) rfl (by decide)).mono fun e w' ⟨he, hb⟩ => ⟨he, below_next (below_new _ _) hb⟩
  have q2 : Hid (∀ (W : World) (v : Value), Sl (Value.int .i64) W v [1] → Calls Try.prog 30 #[v, .slice (some ⟨W.heap.size, 0, none⟩) 1 1] (W.alloc (.cells #[.int .i64 1] 3)) fun e w' => e = .returned (.bool true) ∧ Below W.heap.size W w') :=
    Lib.hid fun W v h => (same_true _ _ _ _ _ (h.alloc _) (sl_lit (Value.int .i64) W [1] _ 3 1 rfl rfl) rfl (by decide)).mono fun e w' ⟨he, hb⟩ => ⟨he, below_next (below_new _ _) hb⟩
  go_enter Try.func25, Try.ntmps25
  go_wp2_with (first | (go_at_call 26; (with_reducible refine (c20.out _).mono ?_); rintro e w' ⟨rfl, rfl⟩) | (go_at_call 28; (with_reducible refine (n9.out _).mono ?_); rintro e w' ⟨rfl, rfl⟩) | (go_at_call 28; (with_reducible refine (n0.out _).mono ?_); rintro e w' ⟨rfl, rfl⟩) | (go_at_call 31; (with_reducible refine (s1.out _).mono ?_); rintro e w1 ⟨v1, rfl, ho1, hb1⟩) | (go_at_call 33; (with_reducible refine (f1.out _).mono ?_); rintro e w3 ⟨v3, rfl, ho3, hb3⟩) | (go_at_call 30; (with_reducible refine (q2.out _ _ ho3).mono ?_); rintro e w4 ⟨rfl, hb4⟩) | (go_at_call 30; (with_reducible refine (q1.out _ _ ho1).mono ?_); rintro e w2 ⟨rfl, hb2⟩))
  go_ret
  exact ⟨rfl, below_next (below_next (below_next hb1 hb2) hb3) hb4⟩

theorem segsTell_walk (n : Int) (v : Value) (l : List Int) (w : World) (hn : (Lit.int .i64 n).wf = true)
    (hl : Sl (Value.int .i64) w v l ∧ (∀ x ∈ l, -9223372036854775808 ≤ x ∧ x ≤ 9223372036854775807) ∧ l.length ≤ maxLen) :
    Calls Try.prog 6 #[.int .i64 n, v] w fun e w' => e = .returned (.bool true) ∧ Below w.heap.size w w' := by
  obtain ⟨hs, hfit, hlm⟩ := hl
  obtain ⟨hn0, hn1⟩ := wf_i64 hn
  unfold maxLen at hlm
  clear hn
  have HV := Lib.hid hs
  obtain ⟨A, c, rfl⟩ : ∃ A c, v = .slice A l.length c := by obtain ⟨A, c, rfl, _⟩ := hs; exact ⟨A, c, rfl⟩
  clear hs
  by_cases h80 : 80 < l.length
  · have h80' : (80 : Int) < (l.length : Int) := by omega
    clear hfit h80
    go_enter Try.func6, Try.ntmps6
    go_wp2_with (go_at_call 25; refine (segs_awake _).mono ?_; rintro e w' ⟨rfl, hb⟩)
    go_ret
    exact ⟨rfl, hb⟩
  · have h80' : (l.length : Int) ≤ 80 := by omega
    have hl1 : l.length ≤ 1000000 := by omega
    have hsl : (sectorsL l).length ≤ 140737488351232 := by have := sectorsL_length l; omega
    have hfl : (freeL n l).length ≤ 140737488351232 := by
      have h1 := freeTo_length l (segCount n).toNat
      have h2 := segCount_range n
      unfold freeL; omega
    have c1 : Hid (∀ w, Calls Try.prog 26 #[.int .i64 n] w fun e w' => e = .returned (.int .i64 (segCount n)) ∧ w = w') := Lib.hid fun w => count_any n w
    have c2 : Hid (∀ w, Calls Try.prog 27 #[.int .i64 n] w fun e w' => e = .returned (.int .i64 (segCount n)) ∧ w = w') := Lib.hid fun w => count_ref n w
    have n1 : Hid (∀ w, Calls Try.prog 28 #[.int .i64 n] w fun e w' => e = .returned (.int .i64 (segNeed n)) ∧ w = w') := Lib.hid fun w => need_any n w hn1
    have n2 : Hid (∀ w, Calls Try.prog 29 #[.int .i64 n] w fun e w' => e = .returned (.int .i64 (segNeed n)) ∧ w = w') := Lib.hid fun w => need_ref n w hn1
    have s1 : Hid (∀ W : World, Below w.heap.size w W → Calls Try.prog 31 #[.slice A l.length c] W fun e w' => ∃ v, e = .returned v ∧ Sl (Value.int .i64) w' v (sectorsL l) ∧ Below w.heap.size w w') :=
      Lib.hid fun W hb => (sectors_any _ l _ (HV.out.below hb) hl1 hfit).mono fun e w' ⟨v, he, ho, hb1⟩ => ⟨v, he, ho.sl, below_next hb hb1⟩
    have s2 : Hid (∀ (W : World) (u : Value), Below w.heap.size w W → Sl (Value.int .i64) W u (sectorsL l) → Calls Try.prog 32 #[.slice A l.length c] W fun e w' => ∃ v, e = .returned v ∧ Sl (Value.int .i64) w' v (sectorsL l) ∧ Sl (Value.int .i64) w' u (sectorsL l) ∧ Below w.heap.size w w') :=
      Lib.hid fun W u hb hu => (sectors_ref _ l _ (HV.out.below hb) hl1 hfit).mono fun e w' ⟨v, he, ho, hb1⟩ => ⟨v, he, ho.sl, hu.below hb1, below_next hb hb1⟩
    have f1 : Hid (∀ W : World, Below w.heap.size w W → Calls Try.prog 33 #[.int .i64 n, .slice A l.length c] W fun e w' => ∃ v, e = .returned v ∧ Sl (Value.int .i64) w' v (freeL n l) ∧ Below w.heap.size w w') :=
      Lib.hid fun W hb => (free_any _ n l _ (HV.out.below hb) (by omega) hfit).mono fun e w' ⟨v, he, ho, hb1⟩ => ⟨v, he, ho.sl, below_next hb hb1⟩
    have f2 : Hid (∀ (W : World) (u : Value), Below w.heap.size w W → Sl (Value.int .i64) W u (freeL n l) → Calls Try.prog 34 #[.int .i64 n, .slice A l.length c] W fun e w' => ∃ v, e = .returned v ∧ Sl (Value.int .i64) w' v (freeL n l) ∧ Sl (Value.int .i64) w' u (freeL n l) ∧ Below w.heap.size w w') :=
      Lib.hid fun W u hb hu => (free_ref _ n l _ (HV.out.below hb) (by omega)).mono fun e w' ⟨v, he, ho, hb1⟩ => ⟨v, he, ho.sl, hu.below hb1, below_next hb hb1⟩
    have q : Hid (∀ (m : List Int) (W : World) (u v : Value), m.length ≤ 140737488351232 → Below w.heap.size w W → Sl (Value.int .i64) W u m → Sl (Value.int .i64) W v m → Calls Try.prog 30 #[u, v] W fun e w' => e = .returned (.bool true) ∧ Below w.heap.size w w') :=
      Lib.hid fun m W u v hm hb hu hv => (same_true _ _ m m _ hu hv rfl hm).mono fun e w' ⟨he, hb1⟩ => ⟨he, below_next hb hb1⟩
    have aw : Hid (∀ W : World, Below w.heap.size w W → Calls Try.prog 25 #[] W fun e w' => e = .returned (.bool true) ∧ Below w.heap.size w w') :=
      Lib.hid fun W hb => (segs_awake W).mono fun e w' ⟨he, hb1⟩ => ⟨he, below_next hb hb1⟩
    have hb0 := Below.refl w.heap.size w
    clear hfit h80 hl1 hn0 hn1 hlm
    have HSL := Lib.hid hsl; have HFL := Lib.hid hfl
    clear hsl hfl
    go_enter Try.func6, Try.ntmps6
    go_wp2_with (first | (go_at_call 26; (with_reducible refine (c1.out _).mono ?_); rintro e w' ⟨rfl, rfl⟩) | (go_at_call 27; (with_reducible refine (c2.out _).mono ?_); rintro e w' ⟨rfl, rfl⟩) | (go_at_call 28; (with_reducible refine (n1.out _).mono ?_); rintro e w' ⟨rfl, rfl⟩) | (go_at_call 29; (with_reducible refine (n2.out _).mono ?_); rintro e w' ⟨rfl, rfl⟩) | (go_at_call 31; (with_reducible refine (s1.out _ hb0).mono ?_); rintro e w1 ⟨v1, rfl, ho1, hb1⟩) | (go_at_call 32; (with_reducible refine (s2.out _ _ hb1 ho1).mono ?_); rintro e w2 ⟨v2, rfl, ho2, ho1', hb2⟩) | (go_at_call 33; (with_reducible refine (f1.out _ hb3).mono ?_); rintro e w4 ⟨v4, rfl, ho4, hb4⟩) | (go_at_call 34; (with_reducible refine (f2.out _ _ hb4 ho4).mono ?_); rintro e w5 ⟨v5, rfl, ho5, ho4', hb5⟩) | (go_at_call 30; (with_reducible refine (q.out _ _ _ _ HFL.out hb5 ho4' ho5).mono ?_); rintro e w6 ⟨rfl, hb6⟩) | (go_at_call 30; (with_reducible refine (q.out _ _ _ _ HSL.out hb2 ho1' ho2).mono ?_); rintro e w3 ⟨rfl, hb3⟩) | (go_at_call 25; (with_reducible refine (aw.out _ hb6).mono ?_); rintro e w7 ⟨rfl, hb7⟩))
    go_ret
    exact ⟨rfl, hb7⟩
end Go.Proofs.Ytmmajdkngboecaa
