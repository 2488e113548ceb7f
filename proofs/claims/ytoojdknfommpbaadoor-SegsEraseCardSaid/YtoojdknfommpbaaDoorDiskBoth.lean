/- The disk and the document's side by side. -/
import Derived.Test.YtoojdknfommpbaaDoorDiskAwake
namespace Go.Proofs.YtoojdknfommpbaaDoor
open Go.RowKit
set_option maxRecDepth 10000

/-- The disk and the document's, with the same in them. -/
structure Both (w W : World) (b1 b2 : Nat) (s : St) (sv1 wv1 sv2 wv2 : Value) : Prop where
  d : DiskAt W b1 s sv1 wv1
  r : RefAt W b2 s sv2 wv2
  ap : ∀ k, Foot b1 sv1 wv1 k → ¬ Foot b2 sv2 wv2 k
  f1 : ∀ k, Foot b1 sv1 wv1 k → w.heap.size ≤ k
  f2 : ∀ k, Foot b2 sv2 wv2 k → w.heap.size ≤ k
  bel : Below w.heap.size w W
theorem Both.first {w W W2 : World} {b1 b2 : Nat} {s s' : St} {sv1 wv1 sv2 wv2 : Value} (h : Both w W b1 b2 s sv1 wv1 sv2 wv2) (hs : DStep W b1 sv1 wv1 s' W2) : RefAt W2 b2 s sv2 wv2 :=
  h.r.tou hs.tou fun k hk hk1 => h.ap k hk1 hk
theorem Both.step {w W W2 W3 : World} {b1 b2 : Nat} {s s' : St} {sv1 wv1 sv2 wv2 : Value} (h : Both w W b1 b2 s sv1 wv1 sv2 wv2) (hs : DStep W b1 sv1 wv1 s' W2) (hr : RStep W2 b2 sv2 wv2 s' W3) :
    ∃ sv1' wv1' sv2' wv2', Both w W3 b1 b2 s' sv1' wv1' sv2' wv2' := by
  have h2 := h.first hs
  obtain ⟨p1, q1, d1, e1, t1⟩ := hs
  obtain ⟨p2, q2, d2, e2, t2⟩ := hr
  have hb1 := h.bel.trans (t1.below h.bel.size h.f1)
  have a1 : ∀ k, Foot b1 p1 q1 k → ¬ Foot b2 sv2 wv2 k := fun k hk hk2 => by
    rcases e1 k hk with h3 | h3
    · exact h.ap k h3 hk2
    · have := h.r.lt k hk2; omega
  have f1 : ∀ k, Foot b1 p1 q1 k → w.heap.size ≤ k := fun k hk => by
    rcases e1 k hk with h3 | h3
    · exact h.f1 k h3
    · exact Nat.le_trans h.bel.size h3
  refine ⟨p1, q1, p2, q2, d1.tou t2 a1, d2, fun k hk hk2 => ?_, f1, fun k hk => ?_, hb1.trans (t2.below hb1.size h.f2)⟩
  · rcases e2 k hk2 with h3 | h3
    · exact a1 k hk h3
    · have := d1.lt k hk; omega
  · rcases e2 k hk with h3 | h3
    · exact h.f2 k h3
    · exact Nat.le_trans hb1.size h3
theorem fewB_true {l : List Ac} {n : Nat} (h : fewB l n = true) : l.length ≤ n ∧ ∀ a ∈ l, a.keep.length ≤ 100 := by
  unfold fewB at h
  rw [Bool.and_eq_true] at h
  have h1 := of_decide_eq_true h.2
  rw [List.take_of_length_le h1] at h
  exact ⟨h1, fun a ha => of_decide_eq_true (List.all_eq_true.1 h.1 a ha)⟩
theorem act_secs (s : St) (a : Ac) : (s.act a).1.sec.length = s.sec.length := by
  unfold St.act
  split
  · unfold St.write; repeat' split
    all_goals rfl
  · split
    · unfold St.flush; repeat' split
      · rfl
      · rfl
      · exact applyW_length _ _
    · split
      · rfl
      · split
        · exact crashL_length _ _ _
        · rfl
theorem Both.below {w W W' : World} {b1 b2 : Nat} {s : St} {sv1 wv1 sv2 wv2 : Value} (h : Both w W b1 b2 s sv1 wv1 sv2 wv2) (hb : Below W.heap.size W W') : Both w W' b1 b2 s sv1 wv1 sv2 wv2 :=
  ⟨h.d.bel hb, h.r.bel hb, h.ap, h.f1, h.f2, h.bel.trans (hb.mono h.bel.size)⟩
theorem row_sl {w : World} {B : Nat} {v : Value} {l : List ByteArray} (h : w.ownsRow B 9 1 v l.length (l.map Value.string)) : Sl Value.string w v l := Own.sl (e := 9) (base := B) h
end Go.Proofs.YtoojdknfommpbaaDoor
