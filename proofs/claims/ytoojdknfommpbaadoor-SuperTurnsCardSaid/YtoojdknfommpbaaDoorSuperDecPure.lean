/- What is told of a sector, as plain functions; the memory of a call that reads it. -/
import Derived.Test.YtoojdknfommpbaaDoorSuperRead
import Derived.Test.YtoojdknfommpbaaDoorSuperEncRef
namespace Go.Proofs.YtoojdknfommpbaaDoor
open Go.RowKit
set_option maxRecDepth 10000

instance : DecidableEq Stp := fun a b => decidable_of_iff (a.num = b.num ∧ a.idx = b.idx ∧ a.cnt = b.cnt) (by cases a; cases b; simp)
instance (l : List UInt8) : Decidable (decOk l) := by unfold decOk; exact inferInstance
def decX (l : List UInt8) : Sup := if decOk l then (readS (bodyOf l)).1 else Sup.zero
def decE (l : List UInt8) : Int := if decOk l then 0 else 12
/-- A super in two slices that read. -/
def SupIn (w : World) (x : Sup) (v : Value) : Prop := ∃ A c B d, v = SupV x (.slice A x.check.length c) (.slice B x.log.length d) ∧ Sl (Value.int .i64) w (.slice A x.check.length c) x.check ∧ Sl (Value.int .i64) w (.slice B x.log.length d) x.log
theorem SupIn.below {w w' : World} {x : Sup} {v : Value} (h : SupIn w x v) (hb : Below w.heap.size w w') : SupIn w' x v := by
  obtain ⟨A, c, B, d, hv, h1, h2⟩ := h
  exact ⟨A, c, B, d, hv, h1.below hb, h2.below hb⟩
/-- A super in two slices of the call's own. -/
def SupOwn (base : Nat) (w : World) (x : Sup) (v : Value) : Prop := ∃ A c B d, v = SupV x (.slice A x.check.length c) (.slice B x.log.length d) ∧ Own (Value.int .i64) 3 base w (.slice A x.check.length c) x.check ∧ Own (Value.int .i64) 3 base w (.slice B x.log.length d) x.log
theorem SupOwn.toIn {base : Nat} {w : World} {x : Sup} {v : Value} (h : SupOwn base w x v) : SupIn w x v := by
  obtain ⟨A, c, B, d, hv, h1, h2⟩ := h
  exact ⟨A, c, B, d, hv, h1.sl, h2.sl⟩
theorem SupOwn.below {base : Nat} {w w' : World} {x : Sup} {v : Value} (h : SupOwn base w x v) (hb : Below w.heap.size w w') : SupOwn base w' x v := by
  obtain ⟨A, c, B, d, hv, h1, h2⟩ := h
  exact ⟨A, c, B, d, hv, h1.below hb, h2.below hb⟩
theorem SupOwn.weaken {base b' : Nat} {w : World} {x : Sup} {v : Value} (h : SupOwn base w x v) (hb : b' ≤ base) : SupOwn b' w x v := by
  obtain ⟨A, c, B, d, hv, h1, h2⟩ := h
  exact ⟨A, c, B, d, hv, h1.weaken hb, h2.weaken hb⟩
/-- Other blocks than the super's slices may be other. -/
theorem SupOwn.far {base : Nat} {w w' : World} {x : Sup} {v : Value} (h : SupOwn base w x v) (hf : ∀ k, base ≤ k → w'.heap[k]? = w.heap[k]?) : SupOwn base w' x v := by
  obtain ⟨A, c, B, d, hv, h1, h2⟩ := h
  exact ⟨A, c, B, d, hv, own_block h1 fun k hk => hf k (h1.lt k hk).1, own_block h2 fun k hk => hf k (h2.lt k hk).1⟩
def DecPost (w : World) (l : List UInt8) (e : Ending) (w' : World) : Prop :=
  ∃ v, e = .returned (.tuple #[v, .int .i64 (decE l)]) ∧ SupOwn w.heap.size w' (decX l) v ∧ Below w.heap.size w w'
theorem supOwn_zero (b : Nat) (w : World) : SupOwn b w Sup.zero (.agg #[.int .i64 0, .int .i64 0, .int .i64 0, .int .i64 0, .slice none 0 0, .slice none 0 0]) :=
  ⟨none, 0, none, 0, rfl, Own.nil _ _ _ _, Own.nil _ _ _ _⟩
theorem decPost_bad {w w' : World} {l : List UInt8} {e : Ending} (h : ¬ decOk l) (he : e = .returned (.tuple #[.agg #[.int .i64 0, .int .i64 0, .int .i64 0, .int .i64 0, .slice none 0 0, .slice none 0 0], .int .i64 12])) (hb : Below w.heap.size w w') : DecPost w l e w' := by
  unfold DecPost decX decE
  rw [if_neg h, if_neg h]
  exact ⟨_, he, supOwn_zero _ _, hb⟩
theorem keepSet {W : World} {a p : Addr} {v u : Value} (h : W.cell? a = some v) (hne : p.block ≠ a.block) : (W.setCell p u).cell? a = some v := by
  rw [World.cell?_setCell_other _ _ _ _ (fun e => hne (congrArg Addr.block e))]; exact h
/-- Six cells laid in order, from any. -/
theorem after6 {W : World} {b : Nat} {y0 y1 y2 y3 y4 y5 : Value} {T : TypeId} (h : W.heap[b]? = some (.cells #[y0, y1, y2, y3, y4, y5] T (0, 0))) (i : Nat) (v : Value) :
    (W.setCell ⟨b, i, none⟩ v).heap[b]? = some (.cells (#[y0, y1, y2, y3, y4, y5].setIfInBounds i v) T (0, 0)) := Lib.heap_setCell_same (i := i) h v
theorem free6 {W : World} {b : Nat} {y0 y1 y2 y3 y4 y5 : Value} {T : TypeId} (h : W.heap[b]? = some (.cells #[y0, y1, y2, y3, y4, y5] T (0, 0))) :
    W.frozen? ⟨b, 0, none⟩ = false ∧ W.frozen? ⟨b, 1, none⟩ = false ∧ W.frozen? ⟨b, 2, none⟩ = false ∧ W.frozen? ⟨b, 3, none⟩ = false ∧ W.frozen? ⟨b, 4, none⟩ = false ∧ W.frozen? ⟨b, 5, none⟩ = false := by
  unfold World.frozen?; rw [h]; exact ⟨rfl, rfl, rfl, rfl, rfl, rfl⟩
/-- What a call of Decode holds: the result's cells (not yet written), the stamp's, the reader, its box, the super that comes to be. -/
structure DS (w : World) (N : Nat) (s : Stp) (r : Option (List UInt8)) (y0 y1 y2 y3 : Int) (cv lv : Value) (chk lg : List Int) (W : World) : Prop where
  res : W.heap[w.heap.size]? = some (.cells #[.int .i64 0, .int .i64 0, .int .i64 0, .int .i64 0, .slice none 0 0, .slice none 0 0] 41 (0, 0))
  st : W.heap[N]? = some (.cells #[.int .i64 s.num, .int .i64 s.idx, .int .i64 s.cnt] 23 (0, 0))
  rd : RdAt W (N + 1) r
  box : W.heap[N + 1 + 1]? = some (.cells #[.pointer (some ⟨N + 1, 0, none⟩)] 98 (0, 0))
  out : W.heap[N + 1 + 1 + 1]? = some (.cells #[.int .i64 y0, .int .i64 y1, .int .i64 y2, .int .i64 y3, cv, lv] 41 (0, 0))
  cown : Own (Value.int .i64) 3 (N + 1 + 1 + 1 + 1) W cv chk
  lown : Own (Value.int .i64) 3 (N + 1 + 1 + 1 + 1) W lv lg
  lt : w.heap.size < N
  bel : Below w.heap.size w W
section
variable {w W W' : World} {N : Nat} {s : Stp} {r r' : Option (List UInt8)} {y0 y1 y2 y3 : Int} {cv lv : Value} {chk lg : List Int}
/-- The reader went on; else nothing that was there is other. -/
theorem DS.read (h : DS w N s r y0 y1 y2 y3 cv lv chk lg W) (hr : RdAt W' (N + 1) r') (ht : Tou (One1 (N + 1)) W W') : DS w N s r' y0 y1 y2 y3 cv lv chk lg W' := by
  have hlt := h.lt
  have bl : ∀ k, k < W.heap.size → k ≠ N + 1 → W'.heap[k]? = W.heap[k]? := fun k hk hne => ht.block k hk hne
  have sz : ∀ {k : Nat} {o : Obj}, W.heap[k]? = some o → k < W.heap.size := fun z => (Array.getElem?_eq_some_iff.1 z).1
  refine ⟨(bl _ (sz h.res) (by omega)).trans h.res, (bl _ (sz h.st) (by omega)).trans h.st, hr, (bl _ (sz h.box) (by omega)).trans h.box, (bl _ (sz h.out) (by omega)).trans h.out, ?_, ?_, hlt, h.bel.trans (ht.below h.bel.size fun k hk => by unfold One1 at hk; omega)⟩
  · exact own_block h.cown fun k hk => bl k (h.cown.lt k hk).2 (by have := (h.cown.lt k hk).1; omega)
  · exact own_block h.lown fun k hk => bl k (h.lown.lt k hk).2 (by have := (h.lown.lt k hk).1; omega)
theorem DS.below (h : DS w N s r y0 y1 y2 y3 cv lv chk lg W) (hb : Below W.heap.size W W') : DS w N s r y0 y1 y2 y3 cv lv chk lg W' := h.read (h.rd.below hb) (tou_of_below hb)
theorem DS.drew (h : DS w N s r y0 y1 y2 y3 cv lv chk lg W) : DS w N s r y0 y1 y2 y3 cv lv chk lg W.drew := h.below (below_drewS W)
theorem DS.boxc (h : DS w N s r y0 y1 y2 y3 cv lv chk lg W) : W.cell? ⟨N + 1 + 1, 0, none⟩ = some (.pointer (some ⟨N + 1, 0, none⟩)) := by
  unfold World.cell?; rw [h.box]; rfl

/-- The cells of the super that comes to be are other, and nothing else. -/
theorem DS.lay (h : DS w N s r y0 y1 y2 y3 cv lv chk lg W) {z0 z1 z2 z3 : Int} {cv' lv' : Value} {chk' lg' : List Int} (ho : W'.heap[N + 1 + 1 + 1]? = some (.cells #[.int .i64 z0, .int .i64 z1, .int .i64 z2, .int .i64 z3, cv', lv'] 41 (0, 0)))
    (hf : ∀ k, k ≠ N + 1 + 1 + 1 → W'.heap[k]? = W.heap[k]?) (hb : Below w.heap.size w W') (hc : Own (Value.int .i64) 3 (N + 1 + 1 + 1 + 1) W cv' chk') (hl : Own (Value.int .i64) 3 (N + 1 + 1 + 1 + 1) W lv' lg') :
    DS w N s r z0 z1 z2 z3 cv' lv' chk' lg' W' := by
  have hlt := h.lt
  refine ⟨(hf _ (by omega)).trans h.res, (hf _ (by omega)).trans h.st, (hf _ (by omega)).trans h.rd, (hf _ (by omega)).trans h.box, ho, ?_, ?_, hlt, hb⟩
  · exact own_block hc fun k hk => hf k (by have := (hc.lt k hk).1; omega)
  · exact own_block hl fun k hk => hf k (by have := (hl.lt k hk).1; omega)
theorem far_set {b k i : Nat} (h : k ≠ b) (v : Value) : (W.setCell ⟨b, i, none⟩ v).heap[k]? = W.heap[k]? := Below.heap_setCell _ _ _ _ h
theorem DS.set4 (h : DS w N s r y0 y1 y2 y3 cv lv chk lg W) (z0 z1 z2 z3 : Int) :
    DS w N s r z0 z1 z2 z3 cv lv chk lg ((((W.setCell ⟨N + 1 + 1 + 1, 0, none⟩ (.int .i64 z0)).setCell ⟨N + 1 + 1 + 1, 1, none⟩ (.int .i64 z1)).setCell ⟨N + 1 + 1 + 1, 2, none⟩ (.int .i64 z2)).setCell ⟨N + 1 + 1 + 1, 3, none⟩ (.int .i64 z3)) := by
  have hB : w.heap.size ≤ N + 1 + 1 + 1 := by have := h.lt; omega
  refine h.lay ?_ (fun k hk => by rw [far_set hk, far_set hk, far_set hk, far_set hk]) ((((h.bel.setCell hB _).setCell hB _).setCell hB _).setCell hB _) h.cown h.lown
  have h1 := Lib.heap_setCell_same (i := 0) h.out (.int .i64 z0)
  have h2 := Lib.heap_setCell_same (i := 1) h1 (.int .i64 z1)
  have h3 := Lib.heap_setCell_same (i := 2) h2 (.int .i64 z2)
  have h4 := Lib.heap_setCell_same (i := 3) h3 (.int .i64 z3)
  rw [h4]; rfl
theorem DS.set2 (h : DS w N s r y0 y1 y2 y3 cv lv chk lg W) {cv' lv' : Value} {chk' lg' : List Int} (hc : Own (Value.int .i64) 3 (N + 1 + 1 + 1 + 1) W cv' chk') (hl : Own (Value.int .i64) 3 (N + 1 + 1 + 1 + 1) W lv' lg') :
    DS w N s r y0 y1 y2 y3 cv' lv' chk' lg' ((W.setCell ⟨N + 1 + 1 + 1, 4, none⟩ cv').setCell ⟨N + 1 + 1 + 1, 5, none⟩ lv') := by
  have hB : w.heap.size ≤ N + 1 + 1 + 1 := by have := h.lt; omega
  refine h.lay ?_ (fun k hk => by rw [far_set hk, far_set hk]) ((h.bel.setCell hB _).setCell hB _) hc hl
  have h1 := Lib.heap_setCell_same (i := 4) h.out cv'
  have h2 := Lib.heap_setCell_same (i := 5) h1 lv'
  rw [h2]; rfl
theorem DS.sz (h : DS w N s r y0 y1 y2 y3 cv lv chk lg W) : N + 1 + 1 + 1 + 1 ≤ W.heap.size := (Array.getElem?_eq_some_iff.1 h.out).1
/-- What is the call's own is there behind the reader's going on. -/
theorem own_read {v : Value} {l : List Int} (h : Own (Value.int .i64) 3 (N + 1 + 1 + 1 + 1) W v l) (ht : Tou (One1 (N + 1)) W W') : Own (Value.int .i64) 3 (N + 1 + 1 + 1 + 1) W' v l :=
  own_block h fun k hk => ht.block k (h.lt k hk).2 (by have := (h.lt k hk).1; unfold One1; omega)
end
end Go.Proofs.YtoojdknfommpbaaDoor
