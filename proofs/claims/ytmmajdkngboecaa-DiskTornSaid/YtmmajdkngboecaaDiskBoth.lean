/- The disk and the document's side by side. -/
import Derived.Test.YtmmajdkngboecaaDiskAwake
namespace Go.Proofs.Ytmmajdkngboecaa
open Go.RowKit
set_option maxRecDepth 10000

/-- The disk and the document's, with the same in them. -/
structure Both (w W : World) (b1 b2 : Nat) (s : St) (sv1 wv1 sv2 wv2 : Value) : Prop where
  d : DiskAt W b1 s sv1 wv1
  r : RefAt W b2 s sv2 wv2
  ap : ∀ k, Foot b1 sv1 wv1 k → ¬ Foot b2 sv2 wv2 k
  f1 : ∀ k, Foot b1 sv1 wv1 k → w.heap.size ≤ k
  f2 : ∀ k, Foot b2 sv2 wv2 k → w.heap.size ≤ k
  bel : Below w.heap.size w W
theorem Both.first {w W W2 : World} {b1 b2 : Nat} {s s' : St} {sv1 wv1 sv2 wv2 : Value} (h : Both w W b1 b2 s sv1 wv1 sv2 wv2) (hs : DStep W b1 sv1 wv1 s' W2) : RefAt W2 b2 s sv2 wv2 :=
  h.r.tou hs.tou fun k hk hk1 => h.ap k hk1 hk
theorem Both.step {w W W2 W3 : World} {b1 b2 : Nat} {s s' : St} {sv1 wv1 sv2 wv2 : Value} (h : Both w W b1 b2 s sv1 wv1 sv2 wv2) (hs : DStep W b1 sv1 wv1 s' W2) (hr : RStep W2 b2 sv2 wv2 s' W3) :
    ∃ sv1' wv1' sv2' wv2', Both w W3 b1 b2 s' sv1' wv1' sv2' wv2' := by
  have h2 := h.first hs
  obtain ⟨p1, q1, d1, e1, t1⟩ := hs
  obtain ⟨p2, q2, d2, e2, t2⟩ := hr
  have hb1 := h.bel.trans (t1.below h.bel.size h.f1)
  have a1 : ∀ k, Foot b1 p1 q1 k → ¬ Foot b2 sv2 wv2 k := fun k hk hk2 => by
    rcases e1 k hk with h3 | h3
    · exact h.ap k h3 hk2
    · have := h.r.lt k hk2; omega
  have f1 : ∀ k, Foot b1 p1 q1 k → w.heap.size ≤ k := fun k hk => by
    rcases e1 k hk with h3 | h3
    · exact h.f1 k h3
    · exact Nat.le_trans h.bel.size h3
  refine ⟨p1, q1, p2, q2, d1.tou t2 a1, d2, fun k hk hk2 => ?_, f1, fun k hk => ?_, hb1.trans (t2.below hb1.size h.f2)⟩
  · rcases e2 k hk2 with h3 | h3
    · exact a1 k hk h3
    · have := d1.lt k hk; omega
  · rcases e2 k hk with h3 | h3
    · exact h.f2 k h3
    · exact Nat.le_trans hb1.size h3
theorem fewB_true {l : List Ac} {n : Nat} (h : fewB l n = true) : l.length ≤ n ∧ ∀ a ∈ l, a.keep.length ≤ 100 := by
  unfold fewB at h
  rw [Bool.and_eq_true] at h
  have h1 := of_decide_eq_true h.2
  rw [List.take_of_length_le h1] at h
  exact ⟨h1, fun a ha => of_decide_eq_true (List.all_eq_true.1 h.1 a ha)⟩
theorem act_secs (s : St) (a : Ac) : (s.act a).1.sec.length = s.sec.length := by
  unfold St.act
  split
  · unfold St.write; repeat' split
    all_goals rfl
  · split
    · unfold St.flush; repeat' split
      · rfl
      · rfl
      · exact applyW_length _ _
    · split
      · rfl
      · split
        · exact crashL_length _ _ _
        · rfl
/-- The tests behind an act, all of one kind: what they call. -/
structure PlayCalls (b1 : Nat) (s : St) (wv2 : Value) (W3 : World) : Prop where
  dead : ∀ W, Below W3.heap.size W3 W → Calls Try.prog 52 #[.pointer (some ⟨b1, 0, none⟩)] W fun e w' => e = .returned (.bool s.dead) ∧ W = w'
  ops : ∀ W, Below W3.heap.size W3 W → Calls Try.prog 55 #[.pointer (some ⟨b1, 0, none⟩)] W fun e w' => e = .returned (.int .i64 (s.done : Int)) ∧ W = w'
  waits : ∀ W, Below W3.heap.size W3 W → Calls Try.prog 50 #[.pointer (some ⟨b1, 0, none⟩)] W fun e w' => ∃ v', e = .returned v' ∧ w'.ownsRow 0 71 2 v' s.waits.length (wcells s.waits) ∧ Below W.heap.size W w'
  same : ∀ W v, Below W3.heap.size W3 W → W.ownsRow 0 71 2 v s.waits.length (wcells s.waits) → Calls Try.prog 56 #[v, wv2] W fun e w' => e = .returned (.bool true) ∧ Below W.heap.size W w'
theorem playCalls {w W : World} {b1 b2 : Nat} {s : St} {sv1 wv1 sv2 wv2 : Value} (h : Both w W b1 b2 s sv1 wv1 sv2 wv2) (hok : s.ok 1000000) : PlayCalls b1 s wv2 W := by
  have hsl : ∀ W', Below W.heap.size W W' → ∃ A c, Five 85 W' b1 (.int .i64 (s.left : Int)) (.int .i64 (s.done : Int)) (.bool s.dead) (.slice A s.sec.length c) wv1 := fun W' hb => by
    obtain ⟨A, c, hsv, _⟩ := sl_form h.d.rows.sec
    have := (h.d.bel hb).five
    rw [hsv] at this
    exact ⟨A, c, this⟩
  have h2 := hok.two
  have h5 := hok.most
  refine ⟨fun W' hb => ?_, fun W' hb => ?_, fun W' hb => ?_, fun W' v hb hv => ?_⟩
  · obtain ⟨A, c, hf⟩ := hsl W' hb
    have := dead_any _ W' b1 _ _ _ s.dead A s.sec.length c hf (by omega)
    rw [decide_eq_false (by omega), Bool.false_or] at this
    exact this
  · obtain ⟨A, c, hf⟩ := hsl W' hb
    have := ops_any _ W' b1 _ _ _ _ A s.sec.length c hf (by omega)
    rw [if_neg (by omega)] at this
    exact this
  · exact (waits_any W' b1 s sv1 wv1 (h.d.bel hb) hok).mono fun e w' ⟨v', he, ho, hb'⟩ => ⟨v', he, own_rebase ho fun _ _ => Nat.zero_le _, hb'⟩
  · have := samewaits_any v wv2 s.waits s.waits W' hv (h.r.bel hb).rows.wai hok.few hok.few
    rw [decide_eq_true rfl] at this
    exact this
theorem Both.below {w W W' : World} {b1 b2 : Nat} {s : St} {sv1 wv1 sv2 wv2 : Value} (h : Both w W b1 b2 s sv1 wv1 sv2 wv2) (hb : Below W.heap.size W W') : Both w W' b1 b2 s sv1 wv1 sv2 wv2 :=
  ⟨h.d.bel hb, h.r.bel hb, h.ap, h.f1, h.f2, h.bel.trans (hb.mono h.bel.size)⟩
theorem row_sl {w : World} {B : Nat} {v : Value} {l : List ByteArray} (h : w.ownsRow B 9 1 v l.length (l.map Value.string)) : Sl Value.string w v l := Own.sl (e := 9) (base := B) h
/-- What is called at the end. -/
structure EndCalls (b1 : Nat) (s : St) (sv2 : Value) (W3 : World) : Prop where
  secs : ∀ W, Below W3.heap.size W3 W → Calls Try.prog 49 #[.pointer (some ⟨b1, 0, none⟩)] W fun e w' => ∃ v', e = .returned v' ∧ Sl Value.string w' v' s.sec ∧ Below W.heap.size W w'
  same : ∀ W v, Below W3.heap.size W3 W → Sl Value.string W v s.sec → Calls Try.prog 44 #[v, sv2] W fun e w' => e = .returned (.bool true) ∧ Below W.heap.size W w'
  size : ∀ W, Below W3.heap.size W3 W → Calls Try.prog 57 #[.pointer (some ⟨b1, 0, none⟩)] W fun e w' => e = .returned (.int .i64 (s.sec.length : Int)) ∧ W = w'
theorem endCalls {w W : World} {b1 b2 : Nat} {s : St} {sv1 wv1 sv2 wv2 : Value} (h : Both w W b1 b2 s sv1 wv1 sv2 wv2) (hok : s.ok 1000000) : EndCalls b1 s sv2 W := by
  have h5 := hok.most
  refine ⟨fun W' hb => ?_, fun W' v hb hv => ?_, fun W' hb => ?_⟩
  · exact (sectors_any W' b1 s sv1 wv1 (h.d.bel hb) hok).mono fun e w' ⟨v', he, ho, hb'⟩ => ⟨v', he, row_sl ho, hb'⟩
  · have := same_any v sv2 s.sec s.sec W' hv (row_sl (h.r.bel hb).rows.sec) (by omega) (by omega)
    rw [decide_eq_true rfl] at this
    exact this
  · obtain ⟨A, c, hsv, _⟩ := sl_form h.d.rows.sec
    have h1 := (h.d.bel hb).five
    rw [hsv] at h1
    exact dsize_any _ W' b1 _ _ _ _ A s.sec.length c h1 (by omega)
/-- One act of both. -/
theorem both_do {w W : World} {b1 b2 : Nat} {s : St} {sv1 wv1 sv2 wv2 kv : Value} (h : Both w W b1 b2 s sv1 wv1 sv2 wv2) (hok : s.ok 1000000) (hl : s.left ≤ 9223372036854775807) (a : Ac) (ha : a.ok) (hkv : Sl Value.bool w kv a.keep) (hk : a.keep.length ≤ 100) :
    (Calls Try.prog 48 #[.pointer (some ⟨b1, 0, none⟩), .agg #[.int .i64 a.kind, .int .i64 a.at_, .int .u8 a.fill, .int .i64 a.size, kv]] W fun e w' => e = .returned (.tuple #[.string (s.act a).2.1, .int .i64 (s.act a).2.2]) ∧ DStep W b1 sv1 wv1 (s.act a).1 w') ∧
    (∀ W2, DStep W b1 sv1 wv1 (s.act a).1 W2 → Calls Try.prog 54 #[.pointer (some ⟨b2, 0, none⟩), .agg #[.int .i64 a.kind, .int .i64 a.at_, .int .u8 a.fill, .int .i64 a.size, kv]] W2 fun e w' => e = .returned (.tuple #[.string (s.act a).2.1, .int .i64 (s.act a).2.2]) ∧ RStep W2 b2 sv2 wv2 (s.act a).1 w') := by
  refine ⟨do_any W b1 s sv1 wv1 a kv h.d hok hl ha (hkv.below h.bel) (by omega), fun W2 hs => ?_⟩
  have hb2 := h.bel.trans (hs.tou.below h.bel.size h.f1)
  refine rdo_any W2 b2 s sv2 wv2 a kv (h.first hs) hok hl ha (hkv.below hb2) (by omega) fun a' n c he hn hf => ?_
  obtain ⟨A, c', hv, _, hcell⟩ := hkv
  rw [he] at hv
  simp only [Value.slice.injEq] at hv
  obtain ⟨rfl, rfl, _⟩ := hv
  obtain ⟨a2, ha2, hc2⟩ := hcell 0 hn
  cases ha2
  have := block_lt hc2
  rw [add_block] at this
  have := h.f2 _ hf
  omega
end Go.Proofs.Ytmmajdkngboecaa
