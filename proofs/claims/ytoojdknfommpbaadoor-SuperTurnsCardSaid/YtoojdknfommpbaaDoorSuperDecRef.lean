/- The walk of draymanref07.Decode. -/
import Derived.Test.YtoojdknfommpbaaDoorSuperDecPure
namespace Go.Proofs.YtoojdknfommpbaaDoor
open Go.RowKit
set_option maxRecDepth 10000

/-- What a call of the document's Decode holds: the result's cells (not yet written), the reader, the super that comes to be. -/
structure DQ (w : World) (N : Nat) (r : Option (List UInt8)) (y0 y1 y2 y3 : Int) (cv lv : Value) (chk lg : List Int) (W : World) : Prop where
  res : W.heap[w.heap.size]? = some (.cells #[.int .i64 0, .int .i64 0, .int .i64 0, .int .i64 0, .slice none 0 0, .slice none 0 0] 41 (0, 0))
  rd : QdAt W (N + 1) r
  out : W.heap[N + 1 + 1]? = some (.cells #[.int .i64 y0, .int .i64 y1, .int .i64 y2, .int .i64 y3, cv, lv] 41 (0, 0))
  cown : Own (Value.int .i64) 3 (N + 1 + 1 + 1) W cv chk
  lown : Own (Value.int .i64) 3 (N + 1 + 1 + 1) W lv lg
  lt : w.heap.size < N
  bel : Below w.heap.size w W
section
variable {w W W' : World} {N : Nat} {r r' : Option (List UInt8)} {y0 y1 y2 y3 : Int} {cv lv : Value} {chk lg : List Int}
theorem DQ.read (h : DQ w N r y0 y1 y2 y3 cv lv chk lg W) (hr : QdAt W' (N + 1) r') (ht : Tou (One1 (N + 1)) W W') : DQ w N r' y0 y1 y2 y3 cv lv chk lg W' := by
  have hlt := h.lt
  have bl : ∀ k, k < W.heap.size → k ≠ N + 1 → W'.heap[k]? = W.heap[k]? := fun k hk hne => ht.block k hk hne
  have sz : ∀ {k : Nat} {o : Obj}, W.heap[k]? = some o → k < W.heap.size := fun z => (Array.getElem?_eq_some_iff.1 z).1
  refine ⟨(bl _ (sz h.res) (by omega)).trans h.res, hr, (bl _ (sz h.out) (by omega)).trans h.out, ?_, ?_, hlt, h.bel.trans (ht.below h.bel.size fun k hk => by unfold One1 at hk; omega)⟩
  · exact own_block h.cown fun k hk => bl k (h.cown.lt k hk).2 (by have := (h.cown.lt k hk).1; omega)
  · exact own_block h.lown fun k hk => bl k (h.lown.lt k hk).2 (by have := (h.lown.lt k hk).1; omega)
theorem DQ.below (h : DQ w N r y0 y1 y2 y3 cv lv chk lg W) (hb : Below W.heap.size W W') : DQ w N r y0 y1 y2 y3 cv lv chk lg W' := h.read (h.rd.below hb) (tou_of_below hb)
theorem DQ.lay (h : DQ w N r y0 y1 y2 y3 cv lv chk lg W) {z0 z1 z2 z3 : Int} {cv' lv' : Value} {chk' lg' : List Int} (ho : W'.heap[N + 1 + 1]? = some (.cells #[.int .i64 z0, .int .i64 z1, .int .i64 z2, .int .i64 z3, cv', lv'] 41 (0, 0)))
    (hf : ∀ k, k ≠ N + 1 + 1 → W'.heap[k]? = W.heap[k]?) (hb : Below w.heap.size w W') (hc : Own (Value.int .i64) 3 (N + 1 + 1 + 1) W cv' chk') (hl : Own (Value.int .i64) 3 (N + 1 + 1 + 1) W lv' lg') :
    DQ w N r z0 z1 z2 z3 cv' lv' chk' lg' W' := by
  have hlt := h.lt
  refine ⟨(hf _ (by omega)).trans h.res, (hf _ (by omega)).trans h.rd, ho, ?_, ?_, hlt, hb⟩
  · exact own_block hc fun k hk => hf k (by have := (hc.lt k hk).1; omega)
  · exact own_block hl fun k hk => hf k (by have := (hl.lt k hk).1; omega)
theorem DQ.hB (h : DQ w N r y0 y1 y2 y3 cv lv chk lg W) : w.heap.size ≤ N + 1 + 1 := by have := h.lt; omega
theorem DQ.s0 (h : DQ w N r y0 y1 y2 y3 cv lv chk lg W) (z : Int) : DQ w N r z y1 y2 y3 cv lv chk lg (W.setCell ⟨N + 1 + 1, 0, none⟩ (.int .i64 z)) :=
  h.lay (by rw [Lib.heap_setCell_same (i := 0) h.out]; rfl) (fun k hk => far_set hk _) (h.bel.setCell h.hB _) h.cown h.lown
theorem DQ.s1 (h : DQ w N r y0 y1 y2 y3 cv lv chk lg W) (z : Int) : DQ w N r y0 z y2 y3 cv lv chk lg (W.setCell ⟨N + 1 + 1, 1, none⟩ (.int .i64 z)) :=
  h.lay (by rw [Lib.heap_setCell_same (i := 1) h.out]; rfl) (fun k hk => far_set hk _) (h.bel.setCell h.hB _) h.cown h.lown
theorem DQ.s2 (h : DQ w N r y0 y1 y2 y3 cv lv chk lg W) (z : Int) : DQ w N r y0 y1 z y3 cv lv chk lg (W.setCell ⟨N + 1 + 1, 2, none⟩ (.int .i64 z)) :=
  h.lay (by rw [Lib.heap_setCell_same (i := 2) h.out]; rfl) (fun k hk => far_set hk _) (h.bel.setCell h.hB _) h.cown h.lown
theorem DQ.s3 (h : DQ w N r y0 y1 y2 y3 cv lv chk lg W) (z : Int) : DQ w N r y0 y1 y2 z cv lv chk lg (W.setCell ⟨N + 1 + 1, 3, none⟩ (.int .i64 z)) :=
  h.lay (by rw [Lib.heap_setCell_same (i := 3) h.out]; rfl) (fun k hk => far_set hk _) (h.bel.setCell h.hB _) h.cown h.lown
theorem DQ.s4 (h : DQ w N r y0 y1 y2 y3 cv lv chk lg W) {v : Value} {l : List Int} (hv : Own (Value.int .i64) 3 (N + 1 + 1 + 1) W v l) : DQ w N r y0 y1 y2 y3 v lv l lg (W.setCell ⟨N + 1 + 1, 4, none⟩ v) :=
  h.lay (by rw [Lib.heap_setCell_same (i := 4) h.out]; rfl) (fun k hk => far_set hk _) (h.bel.setCell h.hB _) hv h.lown
theorem DQ.s5 (h : DQ w N r y0 y1 y2 y3 cv lv chk lg W) {v : Value} {l : List Int} (hv : Own (Value.int .i64) 3 (N + 1 + 1 + 1) W v l) : DQ w N r y0 y1 y2 y3 cv v chk l (W.setCell ⟨N + 1 + 1, 5, none⟩ v) :=
  h.lay (by rw [Lib.heap_setCell_same (i := 5) h.out]; rfl) (fun k hk => far_set hk _) (h.bel.setCell h.hB _) h.cown hv
theorem DQ.sz (h : DQ w N r y0 y1 y2 y3 cv lv chk lg W) : N + 1 + 1 + 1 ≤ W.heap.size := (Array.getElem?_eq_some_iff.1 h.out).1
theorem DQ.fin (h : DQ w N r y0 y1 y2 y3 cv lv chk lg W) (hf : ∀ k, k ≠ w.heap.size → W'.heap[k]? = W.heap[k]?) : Own (Value.int .i64) 3 w.heap.size W' cv chk ∧ Own (Value.int .i64) 3 w.heap.size W' lv lg :=
  ⟨(show Own (Value.int .i64) 3 (N + 1 + 1 + 1) W' cv chk from own_block h.cown fun k hk => hf k (by have := (h.cown.lt k hk).1; have := h.lt; omega)).weaken (by have := h.lt; omega),
   (show Own (Value.int .i64) 3 (N + 1 + 1 + 1) W' lv lg from own_block h.lown fun k hk => hf k (by have := (h.lown.lt k hk).1; have := h.lt; omega)).weaken (by have := h.lt; omega)⟩
end
end Go.Proofs.YtoojdknfommpbaaDoor
