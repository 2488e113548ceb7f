/- One disk, act for act: what the laws DiskSure and DiskTorn share. -/
import Derived.Test.YtmmajdkngboecaaDiskBoth
namespace Go.Proofs.Ytmmajdkngboecaa
open Go.RowKit
set_option maxRecDepth 10000

/-- One disk, all of it new since w. -/
structure One (w W : World) (b : Nat) (s : St) (sv wv : Value) : Prop where
  d : DiskAt W b s sv wv
  f : ∀ k, Foot b sv wv k → w.heap.size ≤ k
  bel : Below w.heap.size w W
theorem One.step {w W W2 : World} {b : Nat} {s s' : St} {sv wv : Value} (h : One w W b s sv wv) (hs : DStep W b sv wv s' W2) : ∃ sv' wv', One w W2 b s' sv' wv' := by
  obtain ⟨sv', wv', h1, h2, h3⟩ := hs.bel h.bel h.f
  exact ⟨sv', wv', h1, h2, h3⟩
theorem One.below {w W W' : World} {b : Nat} {s : St} {sv wv : Value} (h : One w W b s sv wv) (hb : Below W.heap.size W W') : One w W' b s sv wv := ⟨h.d.bel hb, h.f, h.bel.trans (hb.mono h.bel.size)⟩
theorem one_do {w W : World} {b : Nat} {s : St} {sv wv kv : Value} (h : One w W b s sv wv) (hok : s.ok 1000000) (hl : s.left ≤ 9223372036854775807) (a : Ac) (ha : a.ok) (hkv : Sl Value.bool w kv a.keep) (hk : a.keep.length ≤ 100) :
    Calls Try.prog 48 #[.pointer (some ⟨b, 0, none⟩), .agg #[.int .i64 a.kind, .int .i64 a.at_, .int .u8 a.fill, .int .i64 a.size, kv]] W fun e w' => (∃ x y, e = .returned (.tuple #[.string x, .int .i64 y])) ∧ DStep W b sv wv (s.act a).1 w' :=
  (do_any W b s sv wv a kv h.d hok hl ha (hkv.below h.bel) (by omega)).mono fun _ _ ⟨he, hs⟩ => ⟨⟨_, _, he⟩, hs⟩
/-- A slice of writes that is read. -/
def WrAt (w : World) (v : Value) (l : List (Nat × ByteArray)) : Prop :=
  ∃ A c, v = .slice A l.length c ∧ ∀ i (h : i < l.length), ∃ g, A = some ⟨g, 0, none⟩ ∧ w.cell? ⟨g, i * 2, none⟩ = some (.int .i64 (l[i].1 : Int)) ∧ w.cell? ⟨g, i * 2 + 1, none⟩ = some (.string l[i].2)
theorem WrAt.below {w w1 : World} {v : Value} {l : List (Nat × ByteArray)} (h : WrAt w v l) (hb : Below w.heap.size w w1) : WrAt w1 v l := by
  obtain ⟨A, c, hv, hl⟩ := h
  refine ⟨A, c, hv, fun i hi => ?_⟩
  obtain ⟨g, h1, h2, h3⟩ := hl i hi
  exact ⟨g, h1, cell_below hb h2, cell_below hb h3⟩
theorem wrAt_row {w : World} {B : Nat} {v : Value} {l : List (Nat × ByteArray)} (h : w.ownsRow B 71 2 v l.length (wcells l)) : WrAt w v l := by
  rcases World.ownsRow.form (w := w) (n := l.length) (v := v) (xs := wcells l) h |> fun f => (Nat.eq_zero_or_pos l.length).imp id f with h0 | ⟨g, c, rfl, _, _⟩
  · obtain ⟨A, c, hv, _⟩ := sl_form h
    exact ⟨A, c, hv, fun i hi => by omega⟩
  · refine ⟨_, c, rfl, fun i hi => ⟨g, rfl, ?_, ?_⟩⟩
    · rw [World.ownsRow.cellAt h _ (by omega), Nat.mul_comm]; exact (wcells_at l i hi).1
    · rw [World.ownsRow.cellAt h _ (by omega), Nat.mul_comm]; exact (wcells_at l i hi).2
theorem crash_step {w W : World} {b : Nat} {s : St} {sv wv kv : Value} (h : One w W b s sv wv) (hok : s.ok 1000000) (keep : List Bool) (tear : Int) (hk : Sl Value.bool w kv keep) (hkl : keep.length ≤ 1000000) (h0 : -9223372036854775808 ≤ tear) (h1 : tear ≤ 9223372036854775807) :
    Calls Try.prog 51 #[.pointer (some ⟨b, 0, none⟩), kv, .int .i64 tear] W fun e w' => e = .returned (.int .i64 0) ∧ DStep W b sv wv (s.crash keep tear) w' :=
  crash_any W b s sv wv kv keep tear h.d hok (hk.below h.bel) hkl h0 h1
/-- A row of a copy lies apart from the disk: a step of the disk leaves it. -/
theorem row_tou {w1 w2 : World} {F : Nat → Prop} {e : TypeId} {B size n : Nat} {v : Value} {xs : List Value} (ho : w1.ownsRow B e size v n xs) (ht : Tou F w1 w2) (hF : ∀ k, F k → k < B) : w2.ownsRow B e size v n xs :=
  own_block ho fun k hk => ht.block k (World.ownsRow.lt ho k hk).2 fun hf => by have := hF k hf; have := (World.ownsRow.lt ho k hk).1; omega
/-- A slice of so many strings. -/
def SlN (w : World) (A : Option Addr) (n : Nat) (l : List ByteArray) : Prop := ∀ i, i < n → ∃ a, A = some a ∧ w.cell? (a.add i) = some (.string (l.getD i ByteArray.empty))
theorem sl_n {w : World} {v : Value} {l : List ByteArray} {n : Nat} (h : Sl Value.string w v l) (hn : l.length = n) : ∃ A c, v = .slice A n c ∧ SlN w A n l := by
  obtain ⟨A, c, hv, _, hl⟩ := h
  subst hn
  refine ⟨A, c, hv, fun i hi => ?_⟩
  obtain ⟨a, ha, hc⟩ := hl i hi
  exact ⟨a, ha, by rw [hc, List.getD_eq_getElem?_getD, List.getElem?_eq_getElem hi]; rfl⟩
theorem SlN.below {w w1 : World} {A : Option Addr} {n : Nat} {l : List ByteArray} (h : SlN w A n l) (hb : Below w.heap.size w w1) : SlN w1 A n l := fun i hi => by
  obtain ⟨a, ha, hc⟩ := h i hi
  exact ⟨a, ha, cell_below hb hc⟩
theorem slN_row {w : World} {B : Nat} {A : Option Addr} {n c : Nat} {l : List ByteArray} (h : w.ownsRow B 9 1 (.slice A n c) n (l.map Value.string)) (hn : l.length = n) : SlN w A n l := by
  subst hn
  obtain ⟨A', c', hv, hs⟩ := sl_n (row_sl h) rfl
  simp only [Value.slice.injEq] at hv
  rw [hv.1]; exact hs
theorem row_below {w w1 : World} {B : Nat} {e : TypeId} {size n : Nat} {v : Value} {xs : List Value} (h : w.ownsRow B e size v n xs) (hb : Below w.heap.size w w1) : w1.ownsRow B e size v n xs := own_block h fun k hk => hb.block k (World.ownsRow.lt h k hk).2
/-- The calls behind the acts. -/
structure LastCalls (b : Nat) (s : St) (sv wv : Value) (n : Nat) (kv : Value) (keep : List Bool) (tear : Int) (w wr : World) : Prop where
  secs : Calls Try.prog 49 #[.pointer (some ⟨b, 0, none⟩)] wr fun e w1 => ∃ A c, e = .returned (.slice A n c) ∧ Below wr.heap.size wr w1 ∧ w1.ownsRow wr.heap.size 9 1 (.slice A n c) n (s.sec.map Value.string)
  waits : ∀ w1, Below wr.heap.size wr w1 → Calls Try.prog 50 #[.pointer (some ⟨b, 0, none⟩)] w1 fun e w2 => ∃ A c, e = .returned (.slice A s.waits.length c) ∧ Below w1.heap.size w1 w2 ∧ w2.ownsRow wr.heap.size 71 2 (.slice A s.waits.length c) s.waits.length (wcells s.waits)
  crash : ∀ w2, Below wr.heap.size wr w2 → Calls Try.prog 51 #[.pointer (some ⟨b, 0, none⟩), kv, .int .i64 tear] w2 fun e w3 => e = .returned (.int .i64 0) ∧ (∃ sv3 wv3, One w w3 b (s.crash keep tear) sv3 wv3) ∧ Tou (fun k => k < wr.heap.size) w2 w3
theorem lastCalls {w wr : World} {b : Nat} {s : St} {sv wv kv : Value} {n : Nat} {keep : List Bool} {tear : Int} (h : One w wr b s sv wv) (hok : s.ok 1000000) (hn : s.sec.length = n) (hk : Sl Value.bool w kv keep) (hkl : keep.length ≤ 1000000) (h0 : -9223372036854775808 ≤ tear) (h1 : tear ≤ 9223372036854775807) :
    LastCalls b s sv wv n kv keep tear w wr := by
  subst hn
  refine ⟨?_, fun w1 hb => ?_, fun w2 hb => ?_⟩
  · refine (sectors_any wr b s sv wv h.d hok).mono fun e w1 ⟨v', he, ho, hb⟩ => ?_
    obtain ⟨A, c, rfl, _⟩ := sl_form ho
    exact ⟨A, c, he, hb, ho⟩
  · refine (waits_any w1 b s sv wv (h.d.bel hb) hok).mono fun e w2 ⟨v', he, ho, hb'⟩ => ?_
    obtain ⟨A, c, rfl, _⟩ := sl_form ho
    exact ⟨A, c, he, hb', own_rebase ho fun k hk => Nat.le_trans hb.size (World.ownsRow.lt ho k hk).1⟩
  · refine (crash_step (h.below hb) hok keep tear hk hkl h0 h1).mono fun e w3 ⟨he, hs⟩ => ⟨he, (h.below hb).step hs, hs.tou.mono fun k _ hf => h.d.lt k hf⟩
/-- The calls behind the crash. -/
structure EndCalls2 (b : Nat) (s : St) (n : Nat) (w3 : World) : Prop where
  waits : ∀ w4, Below w3.heap.size w3 w4 → Calls Try.prog 50 #[.pointer (some ⟨b, 0, none⟩)] w4 fun e w5 => ∃ A c, e = .returned (.slice A 0 c) ∧ Below w4.heap.size w4 w5
  dead : ∀ w4, Below w3.heap.size w3 w4 → Calls Try.prog 52 #[.pointer (some ⟨b, 0, none⟩)] w4 fun e w5 => e = .returned (.bool false) ∧ w4 = w5
  secs : ∀ w4, Below w3.heap.size w3 w4 → Calls Try.prog 49 #[.pointer (some ⟨b, 0, none⟩)] w4 fun e w5 => ∃ A c, e = .returned (.slice A n c) ∧ Below w4.heap.size w4 w5 ∧ SlN w5 A n s.sec
theorem endCalls2 {w w3 : World} {b : Nat} {s : St} {sv wv : Value} {n : Nat} (h : One w w3 b s sv wv) (hok : s.ok 1000000) (hn : s.sec.length = n) (hw : s.waits = []) (hd : s.dead = false) : EndCalls2 b s n w3 := by
  have h5 := hok.most
  have h2 := hok.two
  refine ⟨fun w4 hb => ?_, fun w4 hb => ?_, fun w4 hb => ?_⟩
  · refine (waits_any w4 b s sv wv (h.d.bel hb) hok).mono fun e w2 ⟨v', he, ho, hb'⟩ => ?_
    rw [hw] at ho
    obtain ⟨A, c, rfl, _⟩ := sl_form ho
    exact ⟨A, c, he, hb'⟩
  · obtain ⟨A, c, hsv, _⟩ := sl_form h.d.rows.sec
    have h1 := (h.d.bel hb).five
    rw [hsv] at h1
    have := dead_any _ w4 b _ _ _ s.dead A s.sec.length c h1 (by omega)
    rw [decide_eq_false (by omega), hd] at this
    exact this
  · refine (sectors_any w4 b s sv wv (h.d.bel hb) hok).mono fun e w1 ⟨v', he, ho, hb'⟩ => ?_
    obtain ⟨A, c, rfl, hs⟩ := sl_n (row_sl ho) hn
    exact ⟨A, c, he, hb', hs⟩
end Go.Proofs.Ytmmajdkngboecaa
