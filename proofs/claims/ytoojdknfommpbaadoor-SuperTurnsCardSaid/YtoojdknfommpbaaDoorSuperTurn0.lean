/- Which of two sectors counts, where one is torn: plainly; the boxes of the law SuperTurns. -/
import Derived.Test.YtoojdknfommpbaaDoorSuperLaw2
namespace Go.Proofs.YtoojdknfommpbaaDoor
open Go.RowKit
set_option maxRecDepth 10000

theorem best_old {x z : Sup} (hx : x.fit) (hz : z.fit) (hg : z.gen < x.gen) {e : List UInt8} (he : e = supB z ∨ ¬ decOk e) : bestX (supB x) e = x ∧ bestE (supB x) e = 0 := by
  obtain ⟨da, xa⟩ := decX_sup hx
  unfold bestX bestE
  have h1 : ¬ (decOk e ∧ (decX (supB x)).gen < (decX e).gen) := by
    rintro ⟨h, h2⟩
    rcases he with rfl | he
    · obtain ⟨dz, xz⟩ := decX_sup hz
      rw [xa, xz] at h2; omega
    · exact he h
  rw [if_pos da, if_neg h1, if_pos (.inl da)]
  exact ⟨xa, rfl⟩
theorem best_new {x y : Sup} (hx : x.fit) (hy : y.fit) (hg : x.gen < y.gen) : bestX (supB x) (supB y) = y ∧ bestN (supB x) (supB y) = 1 ∧ bestE (supB x) (supB y) = 0 := by
  obtain ⟨da, xa⟩ := decX_sup hx
  obtain ⟨db, xb⟩ := decX_sup hy
  have h1 : decOk (supB y) ∧ (decX (supB x)).gen < (decX (supB y)).gen := ⟨db, by rw [xa, xb]; exact hg⟩
  unfold bestX bestN bestE
  rw [if_pos da, if_pos h1, if_pos da, if_pos h1, if_pos (.inl da)]
  exact ⟨xb, rfl, rfl⟩
theorem torn_dec {x : Sup} (hx : x.fit) (q p : Nat) (hq : q ≤ 128) (hp : p ≤ 128) : tornB (supB x) q p = supB x ∨ ¬ decOk (tornB (supB x) q p) := by
  rcases torn_tells (stamp_fit hx) (encB_length hx) q p hq hp with ⟨_, h⟩ | ⟨h, _⟩
  · exact .inl h
  · exact .inr (dec_closed h)
theorem tornB_whole (a : List UInt8) (ha : a.length = 128) : tornB a 128 0 = a := by
  rw [tornB_zero, List.take_of_length_le (by omega)]; simp [zer]
/-- The sectors that the other slot may hold: each as the elder super, or the new one (the last alone), or none. -/
theorem turn_list {x y z : Sup} (hx : x.fit) (hy : y.fit) (hz : z.fit) (h1 : x.gen < y.gen) (h2 : z.gen < x.gen) (t0 t1 t2 t3 : Int) :
    ∀ k, k < 6 → ∃ e, [supB z, tornL (tornL (zer 128) (supB z) t0) (zer 128) t1, tornL (tornL (tornL (zer 128) (supB z) t0) (zer 128) t1) (zer 128) t2, tornL (supB z) (zer 128) t2, zer 128, tornL (zer 128) (supB y) t3][k]? = some e ∧
      ((bestX (supB x) e = x ∧ bestE (supB x) e = 0) ∨ (k = 5 ∧ bestX (supB x) e = y ∧ bestE (supB x) e = 0)) := by
  have k0 := tornK_le t0
  have k1 := tornK_le t1
  have k2 := tornK_le t2
  have k3 := tornK_le t3
  have lz := supB_length hz
  intro k hk
  rcases (show k = 0 ∨ k = 1 ∨ k = 2 ∨ k = 3 ∨ k = 4 ∨ k = 5 by omega) with rfl | rfl | rfl | rfl | rfl | rfl
  · exact ⟨_, rfl, .inl (best_old hx hz h2 (.inl rfl))⟩
  · refine ⟨_, rfl, .inl (best_old hx hz h2 ?_)⟩
    rw [torn_first, torn_next]; exact torn_dec hz _ _ (by omega) (by omega)
  · refine ⟨_, rfl, .inl (best_old hx hz h2 ?_)⟩
    rw [torn_first, torn_next, torn_next]; exact torn_dec hz _ _ (by omega) (by omega)
  · refine ⟨_, rfl, .inl (best_old hx hz h2 ?_)⟩
    have := torn_next (supB z) 128 0 t2
    rw [tornB_whole _ lz] at this
    rw [this]; exact torn_dec hz _ _ (by omega) (by omega)
  · exact ⟨_, rfl, .inl (best_old hx hz h2 (.inr dec_zer))⟩
  · refine ⟨_, rfl, ?_⟩
    rw [torn_first]
    rcases torn_dec hy (tornK t3) 0 (by omega) (by omega) with h | h
    · rw [h]; exact .inr ⟨rfl, (best_new hx hy h1).1, (best_new hx hy h1).2.2⟩
    · exact .inl (best_old hx hz h2 (.inr h))

/-- Four boxes: three supers, four tears. -/
structure S4 (w : World) (x y z : Sup) (cx lx cy ly cz lz : Value) (t0 t1 t2 t3 : Int) (W : World) : Prop where
  s2 : S2 w x y cx lx cy ly W
  bz : W.heap[w.heap.size + 1 + 1]? = some (.cells #[.int .i64 z.gen, .int .i64 z.base, .int .i64 z.size, .int .i64 z.cgen, cz, lz] 41 (0, 0))
  bt : W.heap[w.heap.size + 1 + 1 + 1]? = some (.cells #[.int .i64 t0, .int .i64 t1, .int .i64 t2, .int .i64 t3] 53 (0, 0))
section
variable {w W W' : World} {x y z : Sup} {cx lx cy ly cz lz : Value} {t0 t1 t2 t3 : Int}
theorem S4.below (h : S4 w x y z cx lx cy ly cz lz t0 t1 t2 t3 W) (hb : Below W.heap.size W W') : S4 w x y z cx lx cy ly cz lz t0 t1 t2 t3 W' :=
  ⟨h.s2.below hb, blk_keep h.bz hb, blk_keep h.bt hb⟩
theorem S4.bel (h : S4 w x y z cx lx cy ly cz lz t0 t1 t2 t3 W) : Below w.heap.size w W := h.s2.bel
theorem S4.fx (h : S4 w x y z cx lx cy ly cz lz t0 t1 t2 t3 W) : W.cell? ⟨w.heap.size, 0, none⟩ = some (.int .i64 x.gen) ∧ W.cell? ⟨w.heap.size, 1, none⟩ = some (.int .i64 x.base) ∧ W.cell? ⟨w.heap.size, 2, none⟩ = some (.int .i64 x.size) ∧ W.cell? ⟨w.heap.size, 3, none⟩ = some (.int .i64 x.cgen) ∧ W.cell? ⟨w.heap.size, 4, none⟩ = some cx ∧ W.cell? ⟨w.heap.size, 5, none⟩ = some lx := cells6 h.s2.1
theorem S4.fy (h : S4 w x y z cx lx cy ly cz lz t0 t1 t2 t3 W) : W.cell? ⟨w.heap.size + 1, 0, none⟩ = some (.int .i64 y.gen) ∧ W.cell? ⟨w.heap.size + 1, 1, none⟩ = some (.int .i64 y.base) ∧ W.cell? ⟨w.heap.size + 1, 2, none⟩ = some (.int .i64 y.size) ∧ W.cell? ⟨w.heap.size + 1, 3, none⟩ = some (.int .i64 y.cgen) ∧ W.cell? ⟨w.heap.size + 1, 4, none⟩ = some cy ∧ W.cell? ⟨w.heap.size + 1, 5, none⟩ = some ly := cells6 h.s2.2.1
theorem S4.fz (h : S4 w x y z cx lx cy ly cz lz t0 t1 t2 t3 W) : W.cell? ⟨w.heap.size + 1 + 1, 0, none⟩ = some (.int .i64 z.gen) ∧ W.cell? ⟨w.heap.size + 1 + 1, 1, none⟩ = some (.int .i64 z.base) ∧ W.cell? ⟨w.heap.size + 1 + 1, 2, none⟩ = some (.int .i64 z.size) ∧ W.cell? ⟨w.heap.size + 1 + 1, 3, none⟩ = some (.int .i64 z.cgen) ∧ W.cell? ⟨w.heap.size + 1 + 1, 4, none⟩ = some cz ∧ W.cell? ⟨w.heap.size + 1 + 1, 5, none⟩ = some lz := cells6 h.bz
theorem S4.ft (h : S4 w x y z cx lx cy ly cz lz t0 t1 t2 t3 W) : W.cell? ⟨w.heap.size + 1 + 1 + 1, 0, none⟩ = some (.int .i64 t0) ∧ W.cell? ⟨w.heap.size + 1 + 1 + 1, 1, none⟩ = some (.int .i64 t1) ∧ W.cell? ⟨w.heap.size + 1 + 1 + 1, 2, none⟩ = some (.int .i64 t2) ∧ W.cell? ⟨w.heap.size + 1 + 1 + 1, 3, none⟩ = some (.int .i64 t3) := by
  unfold World.cell?; rw [h.bt]; exact ⟨rfl, rfl, rfl, rfl⟩
theorem S4.new (w : World) (x y z : Sup) (cx lx cy ly cz lz : Value) (t0 t1 t2 t3 : Int) : S4 w x y z cx lx cy ly cz lz t0 t1 t2 t3 ((((w.alloc (.cells #[.int .i64 x.gen, .int .i64 x.base, .int .i64 x.size, .int .i64 x.cgen, cx, lx] 41)).alloc (.cells #[.int .i64 y.gen, .int .i64 y.base, .int .i64 y.size, .int .i64 y.cgen, cy, ly] 41)).alloc (.cells #[.int .i64 z.gen, .int .i64 z.base, .int .i64 z.size, .int .i64 z.cgen, cz, lz] 41)).alloc (.cells #[.int .i64 t0, .int .i64 t1, .int .i64 t2, .int .i64 t3] 53)) := by
  have h2 := S2.new w x y cx lx cy ly
  have sz : ((w.alloc (.cells #[.int .i64 x.gen, .int .i64 x.base, .int .i64 x.size, .int .i64 x.cgen, cx, lx] 41)).alloc (.cells #[.int .i64 y.gen, .int .i64 y.base, .int .i64 y.size, .int .i64 y.cgen, cy, ly] 41)).heap.size = w.heap.size + 1 + 1 := by simp
  generalize (w.alloc (.cells #[.int .i64 x.gen, .int .i64 x.base, .int .i64 x.size, .int .i64 x.cgen, cx, lx] 41)).alloc (.cells #[.int .i64 y.gen, .int .i64 y.base, .int .i64 y.size, .int .i64 y.cgen, cy, ly] 41) = W2 at *
  have hz : (W2.alloc (.cells #[.int .i64 z.gen, .int .i64 z.base, .int .i64 z.size, .int .i64 z.cgen, cz, lz] 41)).heap[W2.heap.size]? = some (.cells #[.int .i64 z.gen, .int .i64 z.base, .int .i64 z.size, .int .i64 z.cgen, cz, lz] 41 (0, 0)) := by show (W2.heap.push _)[W2.heap.size]? = _; simp
  have sz3 : (W2.alloc (.cells #[.int .i64 z.gen, .int .i64 z.base, .int .i64 z.size, .int .i64 z.cgen, cz, lz] 41)).heap.size = W2.heap.size + 1 := by simp
  have h3 := h2.below (below_new W2 (.cells #[.int .i64 z.gen, .int .i64 z.base, .int .i64 z.size, .int .i64 z.cgen, cz, lz] 41))
  generalize W2.alloc (.cells #[.int .i64 z.gen, .int .i64 z.base, .int .i64 z.size, .int .i64 z.cgen, cz, lz] 41) = W3 at *
  rw [sz] at hz sz3
  refine ⟨h3.below (below_new _ _), blk_keep hz (below_new _ _), ?_⟩
  rw [← sz3]
  show (W3.heap.push _)[W3.heap.size]? = _; simp
end
/-- The law's loop: the boxes, the list. -/
structure LL (w : World) (x y z : Sup) (cx lx cy ly cz lz : Value) (t0 t1 t2 t3 : Int) (LS : List ByteArray) (a : Addr) (W : World) : Prop where
  s4 : S4 w x y z cx lx cy ly cz lz t0 t1 t2 t3 W
  cs : ∀ k, k < 6 → W.cell? (a.add k) = some (.string (LS.getD k ByteArray.empty))
section
variable {w W W' : World} {x y z : Sup} {cx lx cy ly cz lz : Value} {t0 t1 t2 t3 : Int} {LS : List ByteArray} {a : Addr}
theorem LL.below (h : LL w x y z cx lx cy ly cz lz t0 t1 t2 t3 LS a W) (hb : Below W.heap.size W W') : LL w x y z cx lx cy ly cz lz t0 t1 t2 t3 LS a W' :=
  ⟨h.s4.below hb, fun k hk => cell_below hb (h.cs k hk)⟩
theorem LL.bel (h : LL w x y z cx lx cy ly cz lz t0 t1 t2 t3 LS a W) : Below w.heap.size w W := h.s4.bel
theorem LL.new {l0 l1 l2 l3 l4 l5 : ByteArray} (h : S4 w x y z cx lx cy ly cz lz t0 t1 t2 t3 W) :
    LL w x y z cx lx cy ly cz lz t0 t1 t2 t3 [l0, l1, l2, l3, l4, l5] ⟨W.heap.size, 0, none⟩ (W.alloc (.cells #[.string l0, .string l1, .string l2, .string l3, .string l4, .string l5] 9)) := by
  refine ⟨h.below (below_new _ _), fun k hk => ?_⟩
  have hb : (W.alloc (.cells #[.string l0, .string l1, .string l2, .string l3, .string l4, .string l5] 9)).heap[W.heap.size]? = some (.cells #[.string l0, .string l1, .string l2, .string l3, .string l4, .string l5] 9 (0, 0)) := by
    show (W.heap.push _)[W.heap.size]? = _; simp
  rw [Go.WideShapes.add_plain]
  unfold World.cell?
  simp only [hb]
  rcases (show k = 0 ∨ k = 1 ∨ k = 2 ∨ k = 3 ∨ k = 4 ∨ k = 5 by omega) with rfl | rfl | rfl | rfl | rfl | rfl <;> rfl
end
end Go.Proofs.YtoojdknfommpbaaDoor
