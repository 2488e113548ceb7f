/- Structs of five cells on the heap, and what a call may touch. -/
import Derived.Test.YtoojdknfommpbaaDoorProg
import Derived.Test.YtoojdknfommpbaaDoorHeap
import Derived.Lib.BufferMore
namespace Go.Proofs.YtoojdknfommpbaaDoor
open Go.RowKit
set_option maxRecDepth 10000

/-- Only blocks of F, and new ones, may be other than they were. -/
structure Tou (F : Nat → Prop) (w w' : World) : Prop where
  os : w'.os = w.os
  tape : w'.tape = w.tape
  output : w'.output = w.output
  size : w.heap.size ≤ w'.heap.size
  block : ∀ k, k < w.heap.size → ¬ F k → w'.heap[k]? = w.heap[k]?
theorem Tou.refl (F : Nat → Prop) (w : World) : Tou F w w := ⟨rfl, rfl, rfl, Nat.le_refl _, fun _ _ _ => rfl⟩
theorem Tou.trans {F : Nat → Prop} {w w1 w2 : World} (h : Tou F w w1) (k : Tou F w1 w2) : Tou F w w2 :=
  ⟨k.os.trans h.os, k.tape.trans h.tape, k.output.trans h.output, Nat.le_trans h.size k.size, fun i hi hF => (k.block i (Nat.lt_of_lt_of_le hi h.size) hF).trans (h.block i hi hF)⟩
theorem Tou.mono {F G : Nat → Prop} {w w' : World} (h : Tou F w w') (hFG : ∀ k, k < w.heap.size → F k → G k) : Tou G w w' := ⟨h.os, h.tape, h.output, h.size, fun k hk hG => h.block k hk fun hF => hG (hFG k hk hF)⟩
theorem tou_of_below {F : Nat → Prop} {w w' : World} (h : Below w.heap.size w w') : Tou F w w' := ⟨h.os, h.tape, h.output, h.size, fun k hk _ => h.block k hk⟩
theorem Tou.below {F : Nat → Prop} {B : Nat} {w w' : World} (h : Tou F w w') (hB : B ≤ w.heap.size) (hF : ∀ k, F k → B ≤ k) : Below B w w' := ⟨h.os, h.tape, h.output, h.size, fun k hk => h.block k (Nat.lt_of_lt_of_le hk hB) fun hf => by have := hF k hf; omega⟩
theorem Tou.set {F : Nat → Prop} {w W : World} (h : Tou F w W) {b : Nat} (hb : F b ∨ w.heap.size ≤ b) (i : Nat) (v : Value) : Tou F w (W.setCell ⟨b, i, none⟩ v) := by

  refine ⟨h.os, h.tape, h.output, by simp [World.setCell]; exact h.size, fun k hk hF => ?_⟩
  rw [Below.heap_setCell _ _ _ _ (by rintro rfl; rcases hb with h1 | h1; exact hF h1; omega)]
  exact h.block k hk hF
theorem Tou.alloc {F : Nat → Prop} {w W : World} (h : Tou F w W) (o : Obj) : Tou F w (W.alloc o) :=
  h.trans (tou_of_below (below_new W o))
theorem Tou.drew {F : Nat → Prop} {w W : World} (h : Tou F w W) (n : Nat) : Tou F w (W.drewN n) := ⟨h.os, h.tape, h.output, h.size, h.block⟩

/-- A struct of five cells. -/
def Five (t : TypeId) (w : World) (b : Nat) (x0 x1 x2 x3 x4 : Value) : Prop := w.heap[b]? = some (.cells #[x0, x1, x2, x3, x4] t (0, 0))
section
variable {t : TypeId} {w w' : World} {b : Nat} {x0 x1 x2 x3 x4 : Value}
theorem Five.lt (h : Five t w b x0 x1 x2 x3 x4) : b < w.heap.size := by
  rcases Nat.lt_or_ge b w.heap.size with hl | hl
  · exact hl
  · unfold Five at h; rw [Array.getElem?_eq_none hl] at h; cases h
theorem Five.c0 (h : Five t w b x0 x1 x2 x3 x4) : w.cell? ⟨b, 0, none⟩ = some x0 := by unfold World.cell?; rw [show w.heap[b]? = _ from h]; rfl
theorem Five.c1 (h : Five t w b x0 x1 x2 x3 x4) : w.cell? ⟨b, 1, none⟩ = some x1 := by unfold World.cell?; rw [show w.heap[b]? = _ from h]; rfl
theorem Five.c2 (h : Five t w b x0 x1 x2 x3 x4) : w.cell? ⟨b, 2, none⟩ = some x2 := by unfold World.cell?; rw [show w.heap[b]? = _ from h]; rfl
theorem Five.c3 (h : Five t w b x0 x1 x2 x3 x4) : w.cell? ⟨b, 3, none⟩ = some x3 := by unfold World.cell?; rw [show w.heap[b]? = _ from h]; rfl
theorem Five.c4 (h : Five t w b x0 x1 x2 x3 x4) : w.cell? ⟨b, 4, none⟩ = some x4 := by unfold World.cell?; rw [show w.heap[b]? = _ from h]; rfl
theorem Five.fz (h : Five t w b x0 x1 x2 x3 x4) (i : Nat) : w.frozen? ⟨b, i, none⟩ = false := by unfold World.frozen?; rw [show w.heap[b]? = _ from h]; simp
theorem Five.s0 (h : Five t w b x0 x1 x2 x3 x4) (v : Value) : Five t (w.setCell ⟨b, 0, none⟩ v) b v x1 x2 x3 x4 := by unfold Five; rw [Lib.heap_setCell_same h v]; rfl
theorem Five.s1 (h : Five t w b x0 x1 x2 x3 x4) (v : Value) : Five t (w.setCell ⟨b, 1, none⟩ v) b x0 v x2 x3 x4 := by unfold Five; rw [Lib.heap_setCell_same h v]; rfl
theorem Five.s2 (h : Five t w b x0 x1 x2 x3 x4) (v : Value) : Five t (w.setCell ⟨b, 2, none⟩ v) b x0 x1 v x3 x4 := by unfold Five; rw [Lib.heap_setCell_same h v]; rfl
theorem Five.s3 (h : Five t w b x0 x1 x2 x3 x4) (v : Value) : Five t (w.setCell ⟨b, 3, none⟩ v) b x0 x1 x2 v x4 := by unfold Five; rw [Lib.heap_setCell_same h v]; rfl
theorem Five.s4 (h : Five t w b x0 x1 x2 x3 x4) (v : Value) : Five t (w.setCell ⟨b, 4, none⟩ v) b x0 x1 x2 x3 v := by unfold Five; rw [Lib.heap_setCell_same h v]; rfl
theorem Five.block (h : Five t w b x0 x1 x2 x3 x4) (hb : w'.heap[b]? = w.heap[b]?) : Five t w' b x0 x1 x2 x3 x4 := hb.trans h
theorem Five.below (h : Five t w b x0 x1 x2 x3 x4) (hb : Below w.heap.size w w') : Five t w' b x0 x1 x2 x3 x4 := h.block (hb.block b h.lt)
theorem Five.drew (h : Five t w b x0 x1 x2 x3 x4) (n : Nat) : Five t (w.drewN n) b x0 x1 x2 x3 x4 := h
theorem Five.new (t : TypeId) (w : World) (x0 x1 x2 x3 x4 : Value) : Five t (w.alloc (.cells #[x0, x1, x2, x3, x4] t)) w.heap.size x0 x1 x2 x3 x4 := by unfold Five; show (w.heap.push _)[w.heap.size]? = _; simp
end
end Go.Proofs.YtoojdknfommpbaaDoor
