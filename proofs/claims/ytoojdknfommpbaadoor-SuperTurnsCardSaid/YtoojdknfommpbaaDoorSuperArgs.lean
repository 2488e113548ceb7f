/- How a super that came in reads. -/
import Derived.Test.YtoojdknfommpbaaDoorOpen
import Derived.Test.YtoojdknfommpbaaDoorSuperDecPure
import Derived.Lib.SmallJoins
import Derived.Laws.IdiomArrays
namespace Go.Proofs.YtoojdknfommpbaaDoor
open Go.ChangeShapes Go.WideShapes Go.ChangeAt Go.RowKit Go.Joins
set_option maxRecDepth 10000

/-- A slice of numbers' cell, opened. -/
theorem open_cells {H : Type} {enc : TypeId × Value → H} {W : World} {fuel : Nat} {c : Value} {y : DataW H × List MemPlace}
    (h : DataW.trod enc Tryd.prog W 0 (fun _ => true) true fuel 37 [c] = some y) :
    ∃ l : List Int, Sl (Value.int .i64) W c l ∧ (∀ x ∈ l, -9223372036854775808 ≤ x ∧ x ≤ 9223372036854775807) ∧ l.length ≤ maxLen := by
  obtain ⟨a, len, cap, hc⟩ := slice_form Tryd.underlying37 h
  obtain rfl : c = .slice a len cap := by simpa using hc
  obtain ⟨y1, y2⟩ := y
  rcases open_ints Tryd.underlying37 Tryd.underlying3 (by kernel_rfl) h with ⟨hcs, _⟩ | ⟨x, l, c, zs, hcs, _, hl, hm, hz, _, hcell, hwz⟩
  · simp at hcs
    obtain ⟨rfl, rfl, rfl⟩ := hcs
    exact ⟨[], Sl.nil _ _, by simp, by simp⟩
  · simp at hcs
    obtain ⟨rfl, rfl, rfl⟩ := hcs
    simp at hz
    have hlen : (zs.take len).length = len := by rw [List.length_take, hz]; omega
    refine ⟨zs.take len, ⟨some x, cap, by rw [hlen], by rw [hlen]; exact hl, fun i hi => ⟨x, rfl, ?_⟩⟩, fun y hy => wf_i64 (hwz y (List.mem_of_mem_take hy)), by rw [hlen]; omega⟩
    rw [hlen] at hi
    rw [hcell i (by omega), List.getElem_take, List.getD_eq_getElem?_getD, List.getElem?_eq_getElem (by omega)]; rfl
theorem array6 {α : Type} {cs : Array α} (h : cs.size = 6) : ∃ c0 c1 c2 c3 c4 c5, cs = #[c0, c1, c2, c3, c4, c5] := by
  obtain ⟨l⟩ := cs
  match l, h with
  | [c0, c1, c2, c3, c4, c5], _ => exact ⟨c0, c1, c2, c3, c4, c5, rfl⟩
theorem open_t41 {H : Type} {enc : TypeId × Value → H} {W : World} {base : Nat} {v : Value} {d : DataW H} {p : List MemPlace}
    (hv : Value.okWide Tryd.prog W .any base 41 v) (h : DataW.Trod enc Tryd.prog W 0 (fun _ => true) true 41 v d p) :
    ∃ x : Sup, SupIn W x v ∧ x.check.length ≤ maxLen ∧ x.log.length ≤ maxLen := by
  obtain ⟨cs, rfl, hsz⟩ := okWide_struct Tryd.underlying41 hv
  obtain ⟨c0, c1, c2, c3, c4, c5, rfl⟩ := array6 (hsz.trans (by kernel_rfl))
  obtain ⟨fuel, hf⟩ := h
  obtain ⟨xs, n, _, _, _, hlen, hf⟩ := DataW.trod_struct Tryd.underlying41 hf
  have hl6 : xs.length = 6 := hlen
  have g : ∀ i, i < 6 → ∃ y, xs[i]? = some y := fun i hi => ⟨_, List.getElem?_eq_getElem (by omega)⟩
  obtain ⟨y0, e0⟩ := g 0 (by omega)
  obtain ⟨y1, e1⟩ := g 1 (by omega)
  obtain ⟨y2, e2⟩ := g 2 (by omega)
  obtain ⟨y3, e3⟩ := g 3 (by omega)
  obtain ⟨y4, e4⟩ := g 4 (by omega)
  obtain ⟨y5, e5⟩ := g 5 (by omega)
  have h0 := (hf 0 _ rfl).trans e0
  have h1 := (hf 1 _ rfl).trans e1
  have h2 := (hf 2 _ rfl).trans e2
  have h3 := (hf 3 _ rfl).trans e3
  have h4 := (hf 4 _ rfl).trans e4
  have h5 := (hf 5 _ rfl).trans e5
  have h0 : DataW.trod enc Tryd.prog W 0 (fun _ => true) true n 3 [c0] = some y0 := h0
  have h1 : DataW.trod enc Tryd.prog W 0 (fun _ => true) true n 3 [c1] = some y1 := h1
  have h2 : DataW.trod enc Tryd.prog W 0 (fun _ => true) true n 3 [c2] = some y2 := h2
  have h3 : DataW.trod enc Tryd.prog W 0 (fun _ => true) true n 3 [c3] = some y3 := h3
  have h4 : DataW.trod enc Tryd.prog W 0 (fun _ => true) true n 37 [c4] = some y4 := h4
  have h5 : DataW.trod enc Tryd.prog W 0 (fun _ => true) true n 37 [c5] = some y5 := h5
  obtain ⟨a, i0, _, _⟩ := DataW.trod_int Tryd.underlying3 h0
  obtain ⟨b, i1, _, _⟩ := DataW.trod_int Tryd.underlying3 h1
  obtain ⟨c, i2, _, _⟩ := DataW.trod_int Tryd.underlying3 h2
  obtain ⟨e, i3, _, _⟩ := DataW.trod_int Tryd.underlying3 h3
  simp at i0 i1 i2 i3
  obtain ⟨l, k1, _, k2⟩ := open_cells h4
  obtain ⟨m, k3, _, k4⟩ := open_cells h5
  refine ⟨⟨a, b, c, e, l, m⟩, ?_, k2, k4⟩
  obtain ⟨A, cc, rfl, q1⟩ := k1
  obtain ⟨B, dd, rfl, q2⟩ := k3
  rw [i0, i1, i2, i3]
  exact ⟨A, cc, B, dd, rfl, ⟨A, cc, rfl, q1⟩, ⟨B, dd, rfl, q2⟩⟩
theorem array4 {α : Type} {cs : Array α} (h : cs.size = 4) : ∃ c0 c1 c2 c3, cs = #[c0, c1, c2, c3] := by
  obtain ⟨l⟩ := cs
  match l, h with
  | [c0, c1, c2, c3], _ => exact ⟨c0, c1, c2, c3, rfl⟩
theorem okWide_array {P : Program} {w : World} {r : Reach} {base n : Nat} {t e : TypeId} {v : Value} (ht : P.underlying t = some (.array n e)) (h : Value.okWide P w r base t v) : ∃ cs, v = .agg cs ∧ cs.size = P.cellsOf t := by
  simp only [Value.okWide, ht] at h
  obtain ⟨cs, h1, h2, _⟩ := h
  exact ⟨cs, h1, h2⟩
/-- Four numbers in an array that came in. -/
theorem open_t53 {H : Type} {enc : TypeId × Value → H} {W : World} {base : Nat} {v : Value} {d : DataW H} {p : List MemPlace}
    (hv : Value.okWide Tryd.prog W .any base 53 v) (h : DataW.Trod enc Tryd.prog W 0 (fun _ => true) true 53 v d p) :
    ∃ t : Int × Int × Int × Int, v = .agg #[.int .i64 t.1, .int .i64 t.2.1, .int .i64 t.2.2.1, .int .i64 t.2.2.2] := by
  obtain ⟨cs, rfl, hsz⟩ := okWide_array Tryd.underlying53 hv
  obtain ⟨c0, c1, c2, c3, rfl⟩ := array4 (hsz.trans (by kernel_rfl))
  obtain ⟨fuel, hf⟩ := h
  have hf : DataW.trod enc Tryd.prog W 0 (fun _ => true) true fuel 53 [c0, c1, c2, c3] = some (d, p) := hf
  obtain ⟨y0, y1, y2, y3, n, _, h0, h1, h2, h3⟩ := trod_array4 Tryd.underlying53 (by kernel_rfl) hf
  obtain ⟨a, i0, _, _⟩ := DataW.trod_int Tryd.underlying3 h0
  obtain ⟨b, i1, _, _⟩ := DataW.trod_int Tryd.underlying3 h1
  obtain ⟨c, i2, _, _⟩ := DataW.trod_int Tryd.underlying3 h2
  obtain ⟨e, i3, _, _⟩ := DataW.trod_int Tryd.underlying3 h3
  simp at i0 i1 i2 i3
  exact ⟨(a, b, c, e), by rw [i0, i1, i2, i3]⟩
end Go.Proofs.YtoojdknfommpbaaDoor
