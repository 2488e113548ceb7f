/- How the arguments of the laws read: acts. -/
import Derived.Test.YtoojdknfommpbaaDoorOpen
import Derived.Test.YtoojdknfommpbaaDoorDiskActs
import Derived.Deep.Grids
namespace Go.Proofs.YtoojdknfommpbaaDoor
open Go.ChangeShapes Go.WideShapes Go.ChangeAt Go.RowKit Go.Deep
set_option maxRecDepth 10000

theorem addr_plain {w : World} {a : Addr} {v : Value} (h : w.cell? a = some v) : a = ⟨a.block, a.off, none⟩ := by
  obtain ⟨b, o, s⟩ := a
  cases s with
  | none => rfl
  | some s =>
    simp only [World.cell?] at h
    split at h
    · simp at h
    · cases h
theorem add_plain (b off i : Nat) : (⟨b, off, none⟩ : Addr).add i = ⟨b, off + i, none⟩ := by unfold Addr.add; split <;> simp_all
/-- The five cells of an act. -/
def w_cells (W : World) (a : Addr) (i : Nat) (x : Ac) (kv : Value) : Prop :=
  W.cell? (a.add (i * 5 + 0)) = some (.int .i64 x.kind) ∧ W.cell? (a.add (i * 5 + 1)) = some (.int .i64 x.at_) ∧ W.cell? (a.add (i * 5 + 2)) = some (.int .u8 x.fill) ∧ W.cell? (a.add (i * 5 + 3)) = some (.int .i64 x.size) ∧ W.cell? (a.add (i * 5 + 4)) = some kv
theorem open_keep {H : Type} {enc : TypeId × Value → H} {W : World} {n : Nat} {kv : Value} {x : DataW H × List MemPlace}
    (h : DataW.trod enc Tryd.prog W 0 (fun _ => true) true n 63 [kv] = some x) : ∃ l : List Bool, Sl Value.bool W kv l ∧ l.length ≤ maxLen := by
  rcases open_bools Tryd.underlying63 Tryd.underlying4 (by kernel_rfl) h with ⟨hcs, _⟩ | ⟨a, len, cap, B, hcs, _, hl, hm, _, hcell⟩
  · simp at hcs; subst hcs; exact ⟨[], Sl.nil _ _, Nat.zero_le _⟩
  · simp at hcs; subst hcs
    refine ⟨(List.range len).map B, ⟨some a, cap, by simp, by simpa using hl, fun i hi => ⟨a, rfl, ?_⟩⟩, by simp; omega⟩
    have hi' : i < len := by simpa using hi
    rw [hcell i (by omega)]
    simp
theorem open_ac {H : Type} {enc : TypeId × Value → H} {W : World} {n : Nat} {cs : List Value} {x : DataW H × List MemPlace}
    (h : DataW.trod enc Tryd.prog W 0 (fun _ => true) true n 65 cs = some x) :
    ∃ (a : Ac) (kv : Value), cs = [.int .i64 a.kind, .int .i64 a.at_, .int .u8 a.fill, .int .i64 a.size, kv] ∧ a.ok ∧ Sl Value.bool W kv a.keep ∧ a.keep.length ≤ maxLen := by
  obtain ⟨xs, k, _, _, hlen, hxl, hf⟩ := DataW.trod_struct Tryd.underlying65 h
  rw [show Tryd.prog.cellsOf 65 = 5 by kernel_rfl] at hlen
  have ci : Tryd.prog.cellsOf 3 = 1 := by kernel_rfl
  have cu : Tryd.prog.cellsOf 5 = 1 := by kernel_rfl
  have cb : Tryd.prog.cellsOf 63 = 1 := by kernel_rfl
  match cs, hlen with
  | [c0, c1, c2, c3, c4], _ =>
    have g0 := hf 0 { name := "Kind", type := 3, offset := 0, embedded := false, tag := "", pkgPath := "", byteOffset := 0 } rfl
    change DataW.trod enc Tryd.prog W 0 _ true k 3 (List.take (Tryd.prog.cellsOf 3) (List.drop 0 [c0, c1, c2, c3, c4])) = xs[0]? at g0
    rw [ci, List.getElem?_eq_getElem (show 0 < xs.length by rw [hxl]; decide)] at g0
    have g1 := hf 1 { name := "At", type := 3, offset := 1, embedded := false, tag := "", pkgPath := "", byteOffset := 8 } rfl
    change DataW.trod enc Tryd.prog W 0 _ true k 3 (List.take (Tryd.prog.cellsOf 3) (List.drop 1 [c0, c1, c2, c3, c4])) = xs[1]? at g1
    rw [ci, List.getElem?_eq_getElem (show 1 < xs.length by rw [hxl]; decide)] at g1
    have g2 := hf 2 { name := "Fill", type := 5, offset := 2, embedded := false, tag := "", pkgPath := "", byteOffset := 16 } rfl
    change DataW.trod enc Tryd.prog W 0 _ true k 5 (List.take (Tryd.prog.cellsOf 5) (List.drop 2 [c0, c1, c2, c3, c4])) = xs[2]? at g2
    rw [cu, List.getElem?_eq_getElem (show 2 < xs.length by rw [hxl]; decide)] at g2
    have g3 := hf 3 { name := "Size", type := 3, offset := 3, embedded := false, tag := "", pkgPath := "", byteOffset := 24 } rfl
    change DataW.trod enc Tryd.prog W 0 _ true k 3 (List.take (Tryd.prog.cellsOf 3) (List.drop 3 [c0, c1, c2, c3, c4])) = xs[3]? at g3
    rw [ci, List.getElem?_eq_getElem (show 3 < xs.length by rw [hxl]; decide)] at g3
    have g4 := hf 4 { name := "Keep", type := 63, offset := 4, embedded := false, tag := "", pkgPath := "", byteOffset := 32 } rfl
    change DataW.trod enc Tryd.prog W 0 _ true k 63 (List.take (Tryd.prog.cellsOf 63) (List.drop 4 [c0, c1, c2, c3, c4])) = xs[4]? at g4
    rw [cb, List.getElem?_eq_getElem (show 4 < xs.length by rw [hxl]; decide)] at g4
    obtain ⟨n0, e0, _, w0⟩ := DataW.trod_int Tryd.underlying3 g0
    obtain ⟨n1, e1, _, w1⟩ := DataW.trod_int Tryd.underlying3 g1
    obtain ⟨n2, e2, _, w2⟩ := DataW.trod_int Tryd.underlying5 g2
    obtain ⟨n3, e3, _, w3⟩ := DataW.trod_int Tryd.underlying3 g3
    obtain ⟨l, hl, hlm⟩ := open_keep (kv := c4) g4
    have f0 := wf_i64 w0
    have f1 := wf_i64 w1
    have f2 := wf_u8 w2
    have f3 := wf_i64 w3
    refine ⟨⟨n0, n1, n2, n3, l⟩, c4, ?_, ⟨f0.1, f0.2, f1.1, f1.2, f2.1, f2.2, f3.1, f3.2⟩, hl, hlm⟩
    simp at e0 e1 e2 e3
    rw [e0, e1, e2, e3]
theorem open_t55 {H : Type} {enc : TypeId × Value → H} {W : World} {base : Nat} {v : Value} {d : DataW H} {p : List MemPlace}
    (hv : Value.okWide Tryd.prog W .any base 55 v) (h : DataW.Trod enc Tryd.prog W 0 (fun _ => true) true 55 v d p) :
    ∃ l : List Ac, ActsAt W v l ∧ (∀ a ∈ l, a.ok ∧ a.keep.length ≤ maxLen) ∧ l.length ≤ maxLen := by
  obtain ⟨a0, len0, cap0, rfl⟩ := okWide_slice Tryd.underlying55 hv
  obtain ⟨fuel, hf⟩ := h
  rcases open_slice Tryd.underlying55 hf with ⟨hcs, _⟩ | ⟨a, len, cap, m, n, D, Pl, hcs, _, hl, hm, hmm, _, hx⟩
  · simp [Value.cells] at hcs
    obtain ⟨rfl, rfl, rfl⟩ := hcs
    exact ⟨[], ⟨none, 0, rfl, fun i h => by simp at h⟩, by simp, Nat.zero_le _⟩
  · simp [Value.cells] at hcs
    obtain ⟨rfl, rfl, rfl⟩ := hcs
    have hlm : len0 ≤ m := by rw [hmm]; split <;> omega
    have each : ∀ i, i < len0 → ∃ q : Ac × Value, (w_cells W a i q.1 q.2) ∧ q.1.ok ∧ Sl Value.bool W q.2 q.1.keep ∧ q.1.keep.length ≤ maxLen := by
      intro i hi
      obtain ⟨cs', h1, h2⟩ := hx i (by omega)
      obtain ⟨ac, kv, rfl, h3, h4, h5⟩ := open_ac h2
      rw [show Tryd.prog.cellsOf 65 = 5 by kernel_rfl] at h1
      obtain ⟨_, _, hcell⟩ := World.cells?_some h1
      refine ⟨(ac, kv), ⟨?_, ?_, ?_, ?_, ?_⟩, h3, h4, h5⟩
      · have := hcell 0 (by omega); rw [add_add] at this; exact this
      · have := hcell 1 (by omega); rw [add_add] at this; exact this
      · have := hcell 2 (by omega); rw [add_add] at this; exact this
      · have := hcell 3 (by omega); rw [add_add] at this; exact this
      · have := hcell 4 (by omega); rw [add_add] at this; exact this
    have each' : ∃ q : Nat → Ac × Value, ∀ i, i < len0 → (w_cells W a i (q i).1 (q i).2) ∧ (q i).1.ok ∧ Sl Value.bool W (q i).2 (q i).1.keep ∧ (q i).1.keep.length ≤ maxLen := by
      classical
      refine ⟨fun i => if hi : i < len0 then Classical.choose (each i hi) else (⟨0, 0, 0, 0, []⟩, .bool false), fun i hi => ?_⟩
      simp only [dif_pos hi]
      exact Classical.choose_spec (each i hi)
    obtain ⟨q, hq⟩ := each'
    refine ⟨(List.range len0).map fun i => (q i).1, ⟨some a, cap0, by simp, fun i hi => ?_⟩, fun y hy => ?_, by simp; omega⟩
    · have hi' : i < len0 := by simpa using hi
      obtain ⟨⟨c0, c1, c2, c3, c4⟩, _, h6, _⟩ := hq i hi'
      have hp : a = ⟨a.block, a.off, none⟩ := by
        obtain ⟨⟨d0, _⟩, _⟩ := hq 0 (by omega)
        have : a.add (0 * 5 + 0) = a := by simp [Addr.add]
        rw [this] at d0
        exact addr_plain d0
      refine ⟨a.block, a.off, (q i).2, by rw [← hp], ?_, ?_, ?_, ?_, ?_, ?_⟩
      all_goals try simp only [List.getElem_map, List.getElem_range]
      · rw [hp, add_plain] at c0; exact c0
      · rw [hp, add_plain] at c1; exact c1
      · rw [hp, add_plain] at c2; exact c2
      · rw [hp, add_plain] at c3; exact c3
      · rw [hp, add_plain] at c4; exact c4
      · exact h6
    · obtain ⟨i, hi, rfl⟩ := List.mem_map.1 hy
      obtain ⟨_, h5, _, h7⟩ := hq i (List.mem_range.1 hi)
      exact ⟨h5, h7⟩
theorem open_t65 {H : Type} {enc : TypeId × Value → H} {W : World} {base : Nat} {v : Value} {d : DataW H} {p : List MemPlace}
    (hv : Value.okWide Tryd.prog W .any base 65 v) (h : DataW.Trod enc Tryd.prog W 0 (fun _ => true) true 65 v d p) :
    ∃ a : Ac, (∃ kv, v = .agg (a.cells kv) ∧ Sl Value.bool W kv a.keep) ∧ a.ok ∧ a.keep.length ≤ maxLen := by
  obtain ⟨cs, rfl, _⟩ := okWide_struct Tryd.underlying65 hv
  obtain ⟨fuel, hf⟩ := h
  obtain ⟨a, kv, hcs, h3, h4, h5⟩ := open_ac hf
  refine ⟨a, ⟨kv, ?_, h4⟩, h3, h5⟩
  unfold Ac.cells
  congr 1
  apply Array.ext'
  simpa [Value.cells] using hcs
theorem open_t63 {H : Type} {enc : TypeId × Value → H} {W : World} {base : Nat} {v : Value} {d : DataW H} {p : List MemPlace}
    (hv : Value.okWide Tryd.prog W .any base 63 v) (h : DataW.Trod enc Tryd.prog W 0 (fun _ => true) true 63 v d p) :
    ∃ l : List Bool, Sl Value.bool W v l ∧ l.length ≤ maxLen := by
  obtain ⟨a0, len0, cap0, rfl⟩ := okWide_slice Tryd.underlying63 hv
  obtain ⟨fuel, hf⟩ := h
  exact open_keep hf
end Go.Proofs.YtoojdknfommpbaaDoor
