/- The laws of segments that need no disk: SegsTell, SegsApart: the walks. -/
import Derived.Test.YtoojdknfommpbaaDoorSegsFree
namespace Go.Proofs.YtoojdknfommpbaaDoor
open Go.RowKit
set_option maxRecDepth 10000

theorem same_true (v u : Value) (l m : List Int) (w : World) (hs : Sl (Value.int .i64) w v l) (ht : Sl (Value.int .i64) w u m) (h : l = m) (hl : l.length ≤ 140737488351232) :
    Calls Tryd.prog 81 #[v, u] w fun e w' => e = .returned (.bool true) ∧ Below w.heap.size w w' := by
  have := nsame_any v u l m w hs ht hl (by rw [← h]; exact hl)
  rw [decide_eq_true h] at this; exact this
theorem segs_awake (w : World) : Calls Tryd.prog 40 #[] w fun e w' => e = .returned (.bool true) ∧ Below w.heap.size w w' := by
  have c20 : Hid (∀ w, Calls Tryd.prog 84 #[.int .i64 20] w fun e w' => e = .returned (.int .i64 2) ∧ w = w') := Lib.hid fun w => count_any 20 w
  have n9 : Hid (∀ w, Calls Tryd.prog 87 #[.int .i64 9] w fun e w' => e = .returned (.int .i64 2) ∧ w = w') := Lib.hid fun w => need_any 9 w (by decide)
  have n0 : Hid (∀ w, Calls Tryd.prog 87 #[.int .i64 0] w fun e w' => e = .returned (.int .i64 0) ∧ w = w') := Lib.hid fun w => need_any 0 w (by decide)
  have s1 : Hid (∀ W : World, Calls Tryd.prog 85 #[.slice (some ⟨W.heap.size, 0, none⟩) 1 1] (W.alloc (.cells #[.int .i64 1] 3)) fun e w' => ∃ v, e = .returned v ∧ Sl (Value.int .i64) w' v [10, 11, 12, 13, 14, 15, 16, 17] ∧ Below W.heap.size W w') :=
    Lib.hid fun W => (segsecs_any _ [1] _ (sl_lit (Value.int .i64) W [1] _ 3 1 rfl rfl) (by decide) (by decide)).mono fun e w' ⟨v, he, ho, hb⟩ => ⟨v, he, ho.sl, below_next (below_new _ _) hb⟩
  have f1 : Hid (∀ W : World, Calls Tryd.prog 86 #[.int .i64 20, .slice (some ⟨W.heap.size, 0, none⟩) 1 1] (W.alloc (.cells #[.int .i64 0] 3)) fun e w' => ∃ v, e = .returned v ∧ Sl (Value.int .i64) w' v [1] ∧ Below W.heap.size W w') :=
    Lib.hid fun W => (free_any _ 20 [0] _ (sl_lit (Value.int .i64) W [0] _ 3 1 rfl rfl) (by decide) (by decide)).mono fun e w' ⟨v, he, ho, hb⟩ => ⟨v, he, ho.sl, below_next (below_new _ _) hb⟩
  have q1 : Hid (∀ (W : World) (v : Value), Sl (Value.int .i64) W v [10, 11, 12, 13, 14, 15, 16, 17] → Calls Tryd.prog 81 #[v, .slice (some ⟨W.heap.size, 0, none⟩) 8 8] (W.alloc (.cells #[.int .i64 10, .int .i64 11, .int .i64 12, .int .i64 13, .int .i64 14, .int .i64 15, .int .i64 16, .int .i64 17] 3)) fun e w' => e = .returned (.bool true) ∧ Below W.heap.size W w') :=
    Lib.hid fun W v h => (same_true _ _ _ _ _ (h.alloc _) (sl_lit (Value.int .i64) W [10, 11, 12, 13, 14, 15, 16, 17] _ 3 8 rfl rfl) rfl (by decide)).mono fun e w' ⟨he, hb⟩ => ⟨he, below_next (below_new _ _) hb⟩
  have q2 : Hid (∀ (W : World) (v : Value), Sl (Value.int .i64) W v [1] → Calls Tryd.prog 81 #[v, .slice (some ⟨W.heap.size, 0, none⟩) 1 1] (W.alloc (.cells #[.int .i64 1] 3)) fun e w' => e = .returned (.bool true) ∧ Below W.heap.size W w') :=
    Lib.hid fun W v h => (same_true _ _ _ _ _ (h.alloc _) (sl_lit (Value.int .i64) W [1] _ 3 1 rfl rfl) rfl (by decide)).mono fun e w' ⟨he, hb⟩ => ⟨he, below_next (below_new _ _) hb⟩
  go_enter Tryd.func40, Tryd.ntmps40
  go_wp2_with (first | (go_at_call 84; (with_reducible refine (c20.out _).mono ?_); rintro e w' ⟨rfl, rfl⟩) | (go_at_call 87; (with_reducible refine (n9.out _).mono ?_); rintro e w' ⟨rfl, rfl⟩) | (go_at_call 87; (with_reducible refine (n0.out _).mono ?_); rintro e w' ⟨rfl, rfl⟩) | (go_at_call 85; (with_reducible refine (s1.out _).mono ?_); rintro e w1 ⟨v1, rfl, ho1, hb1⟩) | (go_at_call 86; (with_reducible refine (f1.out _).mono ?_); rintro e w3 ⟨v3, rfl, ho3, hb3⟩) | (go_at_call 81; (with_reducible refine (q2.out _ _ ho3).mono ?_); rintro e w4 ⟨rfl, hb4⟩) | (go_at_call 81; (with_reducible refine (q1.out _ _ ho1).mono ?_); rintro e w2 ⟨rfl, hb2⟩))
  go_ret
  exact ⟨rfl, below_next (below_next (below_next hb1 hb2) hb3) hb4⟩

end Go.Proofs.YtoojdknfommpbaaDoor
