/- The law SegsErase: the disk and the document's side by side; what is called. -/
import Derived.Test.YtoojdknfommpbaaDoorEraRef
import Derived.Test.YtoojdknfommpbaaDoorDiskBoth
import Derived.Test.YtoojdknfommpbaaDoorSegsLaws
namespace Go.Proofs.YtoojdknfommpbaaDoor
open Go.RowKit
set_option maxRecDepth 10000

/-- What is called in the acts' loop. -/
structure ActCalls (w W : World) (b1 b2 : Nat) (s : St) (p1 q1 p2 q2 : Value) : Prop where
  write : ∀ W' (a : Ac), a.ok → Below W.heap.size W W' → Calls Tryd.prog 43 #[.pointer (some ⟨b1, 0, none⟩), .int .i64 a.at_, .string a.data] W' fun e w' => e = .returned (.int .i64 (s.write a.at_ a.data).2) ∧ DStep W b1 p1 q1 (s.write a.at_ a.data).1 w'
  flush : Calls Tryd.prog 45 #[.pointer (some ⟨b1, 0, none⟩)] W fun e w' => e = .returned (.int .i64 s.flush.2) ∧ DStep W b1 p1 q1 s.flush.1 w'
  rdo : ∀ W2 (a : Ac) (kv : Value), a.ok → Sl Value.bool w kv a.keep → a.keep.length ≤ 100 → DStep W b1 p1 q1 (s.act a).1 W2 → Calls Tryd.prog 46 #[.pointer (some ⟨b2, 0, none⟩), .agg #[.int .i64 a.kind, .int .i64 a.at_, .int .u8 a.fill, .int .i64 a.size, kv]] W2 fun e w' => (∃ x r, e = .returned (.tuple #[.string x, .int .i64 r])) ∧ RStep W2 b2 p2 q2 (s.act a).1 w'
  read : ∀ W' (i : Nat), i < s.sec.length → s.dead = false → Below W.heap.size W W' → Calls Tryd.prog 47 #[.pointer (some ⟨b1, 0, none⟩), .int .i64 (i : Int)] W' fun e w' => e = .returned (.tuple #[.string (s.val i), .int .i64 0]) ∧ Below W'.heap.size W' w'
  fuse : ∀ n : Int, 0 ≤ n → n ≤ 8 → Calls Tryd.prog 48 #[.pointer (some ⟨b1, 0, none⟩), .int .i64 n] W fun e w' => e = .returned (.tuple #[]) ∧ DStep W b1 p1 q1 (s.fuse n) w'
  rfuse : ∀ W2 (n : Int), 0 ≤ n → n ≤ 8 → DStep W b1 p1 q1 (s.fuse n) W2 → Calls Tryd.prog 49 #[.pointer (some ⟨b2, 0, none⟩), .int .i64 n] W2 fun e w' => e = .returned (.tuple #[]) ∧ RStep W2 b2 p2 q2 (s.fuse n) w'
theorem actCalls {w W : World} {b1 b2 : Nat} {s : St} {p1 q1 p2 q2 : Value} (h : Both w W b1 b2 s p1 q1 p2 q2) (hg : s.good 1000000) : ActCalls w W b1 b2 s p1 q1 p2 q2 := by
  refine ⟨fun W' a ha hb => ?_, ?_, fun W2 a kv ha hkv hk hs => ?_, fun W' i hi hd hb => ?_, fun n h0 h1 => ?_, fun W2 n h0 h1 hs => ?_⟩
  · exact (write_any W' b1 s p1 q1 a.at_ a.data (h.d.bel hb) hg.ok hg.left ha.a0 ha.a1).mono fun e w' ⟨he, hs⟩ => ⟨he, hs.after hb⟩
  · exact flush_any W b1 s p1 q1 h.d hg.ok hg.left
  · have hb2 := h.bel.trans (hs.tou.below h.bel.size h.f1)
    refine (rdo_any W2 b2 s p2 q2 a kv (h.first hs) hg.ok hg.left ha (hkv.below hb2) (by omega) fun a' n c he hn hf => ?_).mono fun e w' ⟨he, hr⟩ => ⟨⟨_, _, he⟩, hr⟩
    obtain ⟨A, c', hv, _, hcell⟩ := hkv
    rw [he] at hv
    simp only [Value.slice.injEq] at hv
    obtain ⟨rfl, rfl, _⟩ := hv
    obtain ⟨a2, ha2, hc2⟩ := hcell 0 hn
    cases ha2
    have := block_lt hc2
    rw [add_block] at this
    have := h.f2 _ hf
    omega
  · have := hg.ok.most
    exact (dread_any W' b1 s p1 q1 (i : Int) (h.d.bel hb) hg.ok (by omega) (by omega)).mono fun e w' ⟨he, hb2⟩ => ⟨by rw [he, read_val hd hi], hb2⟩
  · obtain ⟨A1, c1, hsv, _⟩ := sl_form h.d.rows.sec
    exact (dfuse_any _ W b1 _ _ _ _ A1 s.sec.length c1 n (by have := h.d.five; rw [hsv] at this; exact this) (by have := hg.ok.most; omega) (by omega) (by omega)).mono fun e w' hp => fuse_step h.d hg.ok hsv hp
  · have hr := h.first hs
    exact (rfuse_any _ W2 b2 _ _ _ _ _ n hr.five (by omega) (by omega)).mono fun e w' ⟨he, h2, h3⟩ => ⟨he, rfuse_step hr h2 h3⟩
/-- Erasing both. -/
theorem era_calls {w W : World} {b1 b2 : Nat} {s : St} {p1 q1 p2 q2 v : Value} {l : List Int} (h : Both w W b1 b2 s p1 q1 p2 q2) (hg : s.good 1000) (hs : Sl (Value.int .i64) w v l) (hl : l.length ≤ 20) (hfit : ∀ x ∈ l, -9223372036854775808 ≤ x ∧ x ≤ 9223372036854775807) :
    (Calls Tryd.prog 50 #[.pointer (some ⟨b1, 0, none⟩), v] W fun e w' => e = .returned (.int .i64 (eraS blankB s l false).2) ∧ DStep W b1 p1 q1 (eraS blankB s l false).1 w') ∧
    ∀ W2, DStep W b1 p1 q1 (eraS blankB s l false).1 W2 → Calls Tryd.prog 51 #[.pointer (some ⟨b2, 0, none⟩), v] W2 fun e w' => e = .returned (.int .i64 (eraS blankB s l false).2) ∧ RStep W2 b2 p2 q2 (eraS blankB s l false).1 w' :=
  ⟨sera_any w W b1 s p1 q1 v l 1000 h.d hg (by omega) hs h.bel h.f1 hfit,
   fun W2 hd => rera_any w W2 b2 s p2 q2 v l 1000 (h.first hd) hg (by omega) hs (h.bel.trans (hd.tou.below h.bel.size h.f1)) h.f2 hfit⟩
theorem era_good {Z : ByteArray} : ∀ (l : List Int) (s : St) (wr : Bool) (n : Nat), s.good n → (eraS Z s l wr).1.good (n + l.length + 1) := by
  intro l
  induction l with
  | nil =>
    intro s wr n h
    unfold eraS
    split
    · exact h.flush
    · exact h.mono (by omega)
  | cons a l ih =>
    intro s wr n h
    unfold eraS
    repeat' split
    · exact h.mono (by omega)
    · exact (ih s wr n h).mono (by rw [List.length_cons]; omega)
    · exact (h.write a Z).mono (by rw [List.length_cons]; omega)
    · exact (ih _ true (n + 1) (h.write a Z)).mono (by rw [List.length_cons]; omega)
/-- Both, and a row of texts that none of them touches. -/
structure ErB (w W : World) (b1 b2 : Nat) (s : St) (g : Nat) (R : Nat → ByteArray) (p1 q1 p2 q2 : Value) : Prop where
  both : Both w W b1 b2 s p1 q1 p2 q2
  n1 : ¬ Foot b1 p1 q1 g
  n2 : ¬ Foot b2 p2 q2 g
  cs : ∀ i, i < 18 → W.cell? ⟨g, i, none⟩ = some (.string (R i))
theorem ErB.lt {w W : World} {b1 b2 : Nat} {s : St} {g : Nat} {R : Nat → ByteArray} {p1 q1 p2 q2 : Value} (h : ErB w W b1 b2 s g R p1 q1 p2 q2) : g < W.heap.size := block_lt (h.cs 0 (by omega))
theorem ErB.step {w W W2 W3 : World} {b1 b2 : Nat} {s s' : St} {g : Nat} {R : Nat → ByteArray} {p1 q1 p2 q2 : Value} (h : ErB w W b1 b2 s g R p1 q1 p2 q2) (hs : DStep W b1 p1 q1 s' W2) (hr : RStep W2 b2 p2 q2 s' W3) :
    ∃ p1' q1' p2' q2', ErB w W3 b1 b2 s' g R p1' q1' p2' q2' := by
  have hlt := h.lt
  have h2 := h.both.first hs
  have hb := h.both
  obtain ⟨p1', q1', d1, e1, t1⟩ := id hs
  obtain ⟨p2', q2', d2, e2, t2⟩ := id hr
  have hb1 := hb.bel.trans (t1.below hb.bel.size hb.f1)
  have a1 : ∀ k, Foot b1 p1' q1' k → ¬ Foot b2 p2 q2 k := fun k hk hk2 => by
    rcases e1 k hk with h3 | h3
    · exact hb.ap k h3 hk2
    · have := hb.r.lt k hk2; omega
  have f1 : ∀ k, Foot b1 p1' q1' k → w.heap.size ≤ k := fun k hk => by
    rcases e1 k hk with h3 | h3
    · exact hb.f1 k h3
    · exact Nat.le_trans hb.bel.size h3
  refine ⟨p1', q1', p2', q2', ⟨d1.tou t2 a1, d2, fun k hk hk2 => ?_, f1, fun k hk => ?_, hb1.trans (t2.below hb1.size hb.f2)⟩, fun hf => ?_, fun hf => ?_, fun i hi => ?_⟩
  · rcases e2 k hk2 with h3 | h3
    · exact a1 k hk h3
    · have := d1.lt k hk; omega
  · rcases e2 k hk with h3 | h3
    · exact hb.f2 k h3
    · exact Nat.le_trans hb1.size h3
  · rcases e1 g hf with h3 | h3
    · exact h.n1 h3
    · omega
  · rcases e2 g hf with h3 | h3
    · exact h.n2 h3
    · have := t1.size; omega
  · have h5 := h.cs i hi
    unfold World.cell? at h5 ⊢
    rw [show W3.heap[(⟨g, i, none⟩ : Addr).block]? = W.heap[(⟨g, i, none⟩ : Addr).block]? from (t2.block g (Nat.lt_of_lt_of_le hlt t1.size) h.n2).trans (t1.block g hlt h.n1)]
    exact h5
theorem ErB.below {w W W' : World} {b1 b2 : Nat} {s : St} {g : Nat} {R : Nat → ByteArray} {p1 q1 p2 q2 : Value} (h : ErB w W b1 b2 s g R p1 q1 p2 q2) (hb : Below W.heap.size W W') : ErB w W' b1 b2 s g R p1 q1 p2 q2 :=
  ⟨h.both.below hb, h.n1, h.n2, fun i hi => cell_below hb (h.cs i hi)⟩
/-- What is called at the end. -/
structure ErCalls (b1 : Nat) (s : St) (sv2 wv2 : Value) (W3 : World) : Prop where
  ops : ∀ W, Below W3.heap.size W3 W → Calls Tryd.prog 55 #[.pointer (some ⟨b1, 0, none⟩)] W fun e w' => e = .returned (.int .i64 (s.done : Int)) ∧ W = w'
  waits : ∀ W, Below W3.heap.size W3 W → Calls Tryd.prog 54 #[.pointer (some ⟨b1, 0, none⟩)] W fun e w' => ∃ v', e = .returned v' ∧ w'.ownsRow 0 119 2 v' s.waits.length (wcells s.waits) ∧ Below W.heap.size W w'
  samew : ∀ W v, Below W3.heap.size W3 W → W.ownsRow 0 119 2 v s.waits.length (wcells s.waits) → Calls Tryd.prog 53 #[v, wv2] W fun e w' => e = .returned (.bool true) ∧ Below W.heap.size W w'
  secs : ∀ W, Below W3.heap.size W3 W → Calls Tryd.prog 52 #[.pointer (some ⟨b1, 0, none⟩)] W fun e w' => ∃ v', e = .returned v' ∧ Sl Value.string w' v' s.sec ∧ Below W.heap.size W w'
  same : ∀ W v, Below W3.heap.size W3 W → Sl Value.string W v s.sec → Calls Tryd.prog 17 #[v, sv2] W fun e w' => e = .returned (.bool true) ∧ Below W.heap.size W w'
theorem erCalls {w W : World} {b1 b2 : Nat} {s : St} {sv1 wv1 sv2 wv2 : Value} (h : Both w W b1 b2 s sv1 wv1 sv2 wv2) (hok : s.ok 1000000) : ErCalls b1 s sv2 wv2 W := by
  have hsl : ∀ W', Below W.heap.size W W' → ∃ A c, Five 117 W' b1 (.int .i64 (s.left : Int)) (.int .i64 (s.done : Int)) (.bool s.dead) (.slice A s.sec.length c) wv1 := fun W' hb => by
    obtain ⟨A, c, hsv, _⟩ := sl_form h.d.rows.sec
    have := (h.d.bel hb).five
    rw [hsv] at this
    exact ⟨A, c, this⟩
  have h2 := hok.two
  have h5 := hok.most
  refine ⟨fun W' hb => ?_, fun W' hb => ?_, fun W' v hb hv => ?_, fun W' hb => ?_, fun W' v hb hv => ?_⟩
  · obtain ⟨A, c, hf⟩ := hsl W' hb
    have := ops_any _ W' b1 _ _ _ _ A s.sec.length c hf (by omega)
    rw [if_neg (by omega)] at this
    exact this
  · exact (waits_any W' b1 s sv1 wv1 (h.d.bel hb) hok).mono fun e w' ⟨v', he, ho, hb'⟩ => ⟨v', he, own_rebase ho fun _ _ => Nat.zero_le _, hb'⟩
  · have := samewaits_any v wv2 s.waits s.waits W' hv (h.r.bel hb).rows.wai hok.few hok.few
    rw [decide_eq_true rfl] at this
    exact this
  · exact (sectors_any W' b1 s sv1 wv1 (h.d.bel hb) hok).mono fun e w' ⟨v', he, ho, hb'⟩ => ⟨v', he, row_sl ho, hb'⟩
  · have := same_any v sv2 s.sec s.sec W' hv (row_sl (h.r.bel hb).rows.sec) (by omega) (by omega)
    rw [decide_eq_true rfl] at this
    exact this
end Go.Proofs.YtoojdknfommpbaaDoor
