/- The chapter's examples of supers: the walk. -/
import Derived.Test.YtoojdknfommpbaaDoorSuperBest
namespace Go.Proofs.YtoojdknfommpbaaDoor
open Go.RowKit
set_option maxRecDepth 10000

def sup3 : Sup := ⟨3, 0, 0, 0, [], [1]⟩
def sup2 : Sup := ⟨2, 0, 0, 0, [], [2]⟩
theorem fit3 : sup3.fit := by decide +kernel
theorem fit2 : sup2.fit := by decide +kernel
theorem decX_sup {x : Sup} (h : x.fit) : decOk (supB x) ∧ decX (supB x) = x := by
  obtain ⟨h1, h2⟩ := dec_sup h
  exact ⟨h1, by unfold decX; rw [if_pos h1]; exact h2⟩
theorem dec_nil : ¬ decOk [] := fun h => absurd h.1.1 (by decide)
theorem dec_zer : ¬ decOk (zer 128) := fun h => zer_not_open h.1
theorem cells6a {W : World} {b : Nat} {x0 x1 x2 x3 x4 x5 : Value} {T : TypeId} (h : W.heap[b]? = some (.cells #[x0, x1, x2, x3, x4, x5] T (0, 0))) (o : Obj) :
    (W.alloc o).cell? ⟨b, 0, none⟩ = some x0 ∧ (W.alloc o).cell? ⟨b, 1, none⟩ = some x1 ∧ (W.alloc o).cell? ⟨b, 2, none⟩ = some x2 ∧ (W.alloc o).cell? ⟨b, 3, none⟩ = some x3 ∧ (W.alloc o).cell? ⟨b, 4, none⟩ = some x4 ∧ (W.alloc o).cell? ⟨b, 5, none⟩ = some x5 := cells6 (blk_keep h (below_new W o))
theorem lit_in (W : World) (g n : Int) : SupIn (W.alloc (.cells #[.int .i64 n] 3)) ⟨g, 0, 0, 0, [], [n]⟩ (.agg #[.int .i64 g, .int .i64 0, .int .i64 0, .int .i64 0, .slice none 0 0, .slice (some ⟨W.heap.size, 0, none⟩) 1 1]) :=
  ⟨none, 0, some ⟨W.heap.size, 0, none⟩, 1, rfl, Sl.nil _ _, sl_lit (Value.int .i64) W [n] _ 3 1 rfl rfl⟩
theorem enc_in (x : Sup) (v : Value) (w : World) (h : SupIn w x v) (hl : x.check.length ≤ 140737488351232 ∧ x.log.length ≤ 140737488351232) :
    Calls Tryd.prog 27 #[v] w fun e w' => e = .returned (.tuple #[.string (mkS (encS x)), .int .i64 (encE x)]) ∧ Below w.heap.size w w' := by
  obtain ⟨A, c, B, d, rfl, h1, h2⟩ := h
  exact senc_any x A B c d w h1 h2 hl.1 hl.2
theorem best_ex {w w' : World} {a b : List UInt8} {e : Ending} {X : Sup} (h : BestPost w a b e w') (hX : bestX a b = X) : ∃ A c B d, e = .returned (.tuple #[.agg #[.int .i64 X.gen, .int .i64 X.base, .int .i64 X.size, .int .i64 X.cgen, .slice A X.check.length c, .slice B X.log.length d], .int .i64 (bestN a b), .int .i64 (bestE a b)]) ∧
    SupIn w' X (.agg #[.int .i64 X.gen, .int .i64 X.base, .int .i64 X.size, .int .i64 X.cgen, .slice A X.check.length c, .slice B X.log.length d]) ∧ Below w.heap.size w w' := by
  obtain ⟨v, he, ho, hb⟩ := h
  rw [hX] at ho
  have h2 := ho.toIn
  obtain ⟨A, c, B, d, rfl, _⟩ := ho
  exact ⟨A, c, B, d, he, h2, hb⟩

theorem awake07_any (w : World) : Calls Tryd.prog 26 #[] w fun e w' => e = .returned (.bool true) ∧ Below w.heap.size w w' := by
  obtain ⟨da, xa⟩ := decX_sup fit3
  obtain ⟨db, xb⟩ := decX_sup fit2
  have E3 : Hid (∀ W : World, Calls Tryd.prog 27 #[.agg #[.int .i64 3, .int .i64 0, .int .i64 0, .int .i64 0, .slice none 0 0, .slice (some ⟨W.heap.size, 0, none⟩) 1 1]] (W.alloc (.cells #[.int .i64 1] 3)) fun e w' => e = .returned (.tuple #[.string (mkS (supB sup3)), .int .i64 0]) ∧ Below W.heap.size W w') := Lib.hid fun W =>
    (enc_in sup3 _ _ (lit_in W 3 1) (by decide)).mono fun e w' ⟨he, hb⟩ => ⟨by rw [he]; unfold encS encE; rw [if_pos fit3, if_pos fit3], below_next (below_new _ _) hb⟩
  have E2 : Hid (∀ W : World, Calls Tryd.prog 27 #[.agg #[.int .i64 2, .int .i64 0, .int .i64 0, .int .i64 0, .slice none 0 0, .slice (some ⟨W.heap.size, 0, none⟩) 1 1]] (W.alloc (.cells #[.int .i64 2] 3)) fun e w' => e = .returned (.tuple #[.string (mkS (supB sup2)), .int .i64 0]) ∧ Below W.heap.size W w') := Lib.hid fun W =>
    (enc_in sup2 _ _ (lit_in W 2 2) (by decide)).mono fun e w' ⟨he, hb⟩ => ⟨by rw [he]; unfold encS encE; rw [if_pos fit2, if_pos fit2], below_next (below_new _ _) hb⟩
  have hX1 : bestX (supB sup3) (supB sup2) = sup3 ∧ bestN (supB sup3) (supB sup2) = 0 ∧ bestE (supB sup3) (supB sup2) = 0 := by
    unfold bestX bestN bestE
    have h1 : ¬ (decOk (supB sup2) ∧ (decX (supB sup3)).gen < (decX (supB sup2)).gen) := by rw [xa, xb]; rintro ⟨_, h⟩; exact absurd h (by decide)
    rw [if_pos da, if_pos da, if_neg h1, if_neg h1, if_pos (.inl da)]
    exact ⟨xa, rfl, rfl⟩
  have hX2 : bestX [] (zer 128) = Sup.zero ∧ bestN [] (zer 128) = 0 ∧ bestE [] (zer 128) = 12 := by
    unfold bestX bestN bestE
    rw [if_neg dec_nil, if_neg dec_nil, if_neg dec_zer, if_neg dec_zer, if_neg (by rintro (h | h); exact dec_nil h; exact dec_zer h)]
    exact ⟨rfl, rfl, rfl⟩
  have B1 : Hid (∀ W, Calls Tryd.prog 37 #[.string (mkS (supB sup3)), .string (mkS (supB sup2))] W fun e w' => ∃ A c B d, e = .returned (.tuple #[.agg #[.int .i64 3, .int .i64 0, .int .i64 0, .int .i64 0, .slice A 0 c, .slice B 1 d], .int .i64 0, .int .i64 0]) ∧ SupIn w' sup3 (.agg #[.int .i64 3, .int .i64 0, .int .i64 0, .int .i64 0, .slice A 0 c, .slice B 1 d]) ∧ Below W.heap.size W w') := Lib.hid fun W =>
    (sbest_any _ _ W).mono fun e w' h => by
      obtain ⟨A, c, B, d, he, hs, hb⟩ := best_ex h hX1.1
      rw [hX1.2.1, hX1.2.2] at he
      exact ⟨A, c, B, d, he, hs, hb⟩
  have B2 : Hid (∀ W, Calls Tryd.prog 37 #[.string ⟨#[]⟩, .string blankS] W fun e w' => ∃ A c B d, e = .returned (.tuple #[.agg #[.int .i64 0, .int .i64 0, .int .i64 0, .int .i64 0, .slice A 0 c, .slice B 0 d], .int .i64 0, .int .i64 12]) ∧ Below W.heap.size W w') := Lib.hid fun W =>
    (sbest_any [] (zer 128) W).mono fun e w' h => by
      obtain ⟨A, c, B, d, he, hs, hb⟩ := best_ex h hX2.1
      rw [hX2.2.1, hX2.2.2] at he
      exact ⟨A, c, B, d, he, hb⟩
  have BL := Lib.hid blank_any
  have SM : Hid (∀ (W : World) o v, SupIn (W.alloc o) sup3 v → Calls Tryd.prog 36 #[v, .agg #[.int .i64 3, .int .i64 0, .int .i64 0, .int .i64 0, .slice none 0 0, .slice (some ⟨W.heap.size + 1, 0, none⟩) 1 1]] ((W.alloc o).alloc (.cells #[.int .i64 1] 3)) fun e w' => e = .returned (.bool true) ∧ Below W.heap.size W w') := Lib.hid fun W o v h =>
    have hl := lit_in (W.alloc o) 3 1
    have hz : (W.alloc o).heap.size = W.heap.size + 1 := by simp
    (ssame_any sup3 sup3 v _ _ (h.below (below_new _ _)) (hz ▸ hl) (by decide)).mono fun e w' ⟨he, hb⟩ => ⟨by rw [he, decide_eq_true (by decide)], below_next (below_new _ _) (below_then (below_new _ _) (below_new _ _).size hb)⟩
  have SL : Hid (∀ W, Calls Tryd.prog 34 #[.int .i64 3] W fun e w' => e = .returned (.int .i64 1) ∧ W = w') := Lib.hid fun W => slot_any 3 W
  clear da xa db xb hX1 hX2
  generalize mkS (supB sup3) = S3 at *
  generalize mkS (supB sup2) = S2 at *
  generalize blankS = BS at *
  go_enter Tryd.func26, Tryd.ntmps26
  go_wp2_with (first
    | (go_at_call 27; (with_reducible refine (E3.out _).mono ?_); rintro e w1 ⟨rfl, hb1⟩)
    | (go_at_call 27; (with_reducible refine (E2.out _).mono ?_); rintro e w2 ⟨rfl, hb2⟩)
    | (go_at_call 37; (with_reducible refine (B1.out _).mono ?_); rintro e w3 ⟨A3, c3, B3, d3, rfl, s3, hb3⟩; have HS3 := Lib.hid s3; clear s3)
    | (go_at_call 23; (with_reducible refine (BL.out _).mono ?_); rintro e w4 ⟨rfl, hb4⟩)
    | (go_at_call 37; (with_reducible refine (B2.out _).mono ?_); rintro e w5 ⟨A5, c5, B5, d5, rfl, hb5⟩; have z5 := blk_keep (blk_after hb4) hb5; have y0 := fun o => (cells6a z5 o).1; have y1 := fun o => (cells6a z5 o).2.1; have y2 := fun o => (cells6a z5 o).2.2.1; have y3 := fun o => (cells6a z5 o).2.2.2.1; have y4 := fun o => (cells6a z5 o).2.2.2.2.1; have y5 := fun o => (cells6a z5 o).2.2.2.2.2; have HS5 := Lib.hid fun o => ((HS3.out.below (below_then (below_new _ _) (below_new _ _).size hb4)).below hb5).below (below_new w5 o); clear z5)
    | (go_at_call 36; (with_reducible refine (SM.out _ _ _ (HS5.out _)).mono ?_); rintro e w6 ⟨rfl, hb6⟩)
    | (go_at_call 34; (with_reducible refine (SL.out _).mono ?_); rintro e w7 ⟨rfl, rfl⟩))
  go_ret
  exact ⟨rfl, below_next (below_next (below_next (below_next (below_next hb1 hb2) hb3) (below_then (below_new _ _) (below_new _ _).size hb4)) hb5) hb6⟩
end Go.Proofs.YtoojdknfommpbaaDoor
