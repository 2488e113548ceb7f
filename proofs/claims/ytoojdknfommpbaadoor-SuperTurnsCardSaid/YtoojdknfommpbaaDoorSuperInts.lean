/- The walk of wire.Ints. -/
import Derived.Test.YtoojdknfommpbaaDoorSuperOct
import Derived.Test.YtoojdknfommpbaaDoorBuilderS
namespace Go.Proofs.YtoojdknfommpbaaDoor
open Go.RowKit
set_option maxRecDepth 10000

theorem heap_new (w : World) (o : Obj) : (w.alloc o).heap[w.heap.size]? = some o := by
  show (w.heap.push o)[w.heap.size]? = some o
  simp
/-- A Builder of the call's own that holds so many cells. -/
def Bld (w0 : World) (bs : List Value) (n : Nat) (w : World) : Prop :=
  Lib.IsBuilder 132 5 w0.heap.size w0.heap.size bs w ∧ bs.length ≤ n ∧ Below w0.heap.size w0 w
theorem bld_string (w0 : World) (bs : List Value) (n : Nat) (s : ByteArray) (w : World) (h : Bld w0 bs n w) (hn : n ≤ 1000000000) (hs : s.size ≤ 1000000000) :
    Calls Tryd.prog 104 #[.pointer (some ⟨w0.heap.size, 0, none⟩), .string s] w fun e w' => e = .returned (.tuple #[.int .i64 s.size, .nilIface]) ∧ Bld w0 (bs ++ Lib.strCells s) (n + s.size) w' :=
  (writeString_any _ _ bs s w h.1 (by have := h.2.1; omega) h.2.2.size).mono fun e w' ⟨he, hb, hb2⟩ => ⟨he, .inr hb, by rw [List.length_append, Lib.strCells_length]; have := h.2.1; omega, h.2.2.trans hb2⟩
theorem Bld.below {w0 w w' : World} {bs : List Value} {n : Nat} (h : Bld w0 bs n w) (hb : Below w.heap.size w w') : Bld w0 bs n w' := by
  obtain ⟨h1, h2, h3⟩ := h
  have hlt : ∀ p, Lib.BuilderAt 132 5 w0.heap.size w0.heap.size p bs w → Lib.BuilderAt 132 5 w0.heap.size w0.heap.size p bs w' := by
    rintro p ⟨hB, v, hbk, hown, hne⟩
    have hl : w0.heap.size < w.heap.size := (Array.getElem?_eq_some_iff.1 hbk).1
    exact ⟨hB, v, (hb.block _ hl).trans hbk, own_block hown fun k hk => hb.block k (World.ownsRow.lt hown k hk).2, hne⟩
  exact ⟨h1.imp (hlt _) (hlt _), h2, below_next h3 hb⟩
theorem bld_done (w0 : World) (l : List UInt8) (n : Nat) (w : World) (h : Bld w0 (Lib.byteCells l) n w) :
    Calls Tryd.prog 106 #[.pointer (some ⟨w0.heap.size, 0, none⟩)] w fun e w' => e = .returned (.string ⟨l.toArray⟩) ∧ Below w0.heap.size w0 w' :=
  (Tryd.Builder_String_any _ _ l w h.1 h.2.2.size).mono fun _ _ ⟨he, hb⟩ => ⟨he, h.2.2.trans hb⟩
theorem bld_cells (a b : List UInt8) : Lib.byteCells a ++ Lib.strCells (mkS b) = Lib.byteCells (a ++ b) := by
  unfold Lib.byteCells Lib.strCells mkS
  simp only [List.map_append]
theorem bld_new (w : World) : Bld w (Lib.byteCells []) 0 (w.alloc (.cells #[.pointer none, .slice none 0 0] 132)) :=
  ⟨.inl ⟨Nat.le_refl _, .slice none 0 0, heap_new w _, World.ownsRow_nil _ _ _ _, by simp [Value.ownBlock]⟩, by simp [Lib.byteCells], below_new _ _⟩
theorem ints_any (v : Value) (l : List Int) (w : World) (hs : Sl (Value.int .i64) w v l) (hl : l.length ≤ 63) (hf : ∀ x ∈ l, 0 ≤ x ∧ x ≤ 1099511627776) :
    Calls Tryd.prog 67 #[v] w fun e w' => e = .returned (.string (mkS (intsB l))) ∧ Below w.heap.size w w' := by
  obtain ⟨A, c, rfl, _, hread⟩ := hs
  have HR := Lib.hid hread; clear hread
  have HF := Lib.hid hf; clear hf
  have hlI : (l.length : Int) ≤ 63 := by omega
  have HI : Hid (∀ n : Nat, n ≤ 1099511627776 → ∀ W, Calls Tryd.prog 105 #[.int .i64 (n : Int)] W fun e w' => e = .returned (.string (mkS (intB n))) ∧ Below W.heap.size W w') := Lib.hid fun n hn W => int_any n W hn
  have HB0 := Lib.hid (bld_new w)
  go_enter Tryd.func67, Tryd.ntmps67
  go_wp2
  go_loopw [8] (fun i W => ∃ k N : Nat, k ≤ l.length ∧ N ≤ 7 * k ∧ i = .int .i64 k ∧ Hid (Bld w (Lib.byteCells (intsB (l.take k))) N W)) (fun i _ => l.length - (intOf i).toNat)
  case atStart => exact ⟨0, 0, by omega, by omega, rfl, Lib.hid HB0.out⟩
  case round =>
    obtain ⟨k, N, hk, hN, rfl, HB⟩ := hrel
    by_cases hlt : k < l.length
    · obtain ⟨a, rfl, q0⟩ := HR.out k hlt
      have q := cell_below HB.out.2.2 q0
      clear q0
      have hT := intsB_snoc l k hlt
      obtain ⟨f0, f1⟩ := HF.out l[k] (List.getElem_mem hlt)
      obtain ⟨n, hn⟩ : ∃ n : Nat, l[k] = n := ⟨l[k].toNat, by omega⟩
      rw [hn] at q hT f1
      simp only [Int.toNat_natCast] at hT
      have C1 := Lib.hid (HI.out n (by omega))
      have h7 : (mkS (intB n)).size ≤ 7 := by
        rw [mkS_size]
        exact intB_length n 6 (by have : (256 : Nat) ^ 6 = 281474976710656 := by decide
                                  omega)
      have HW : Hid (∀ W, Bld w (Lib.byteCells (intsB (l.take k))) N W → Calls Tryd.prog 104 #[.pointer (some ⟨w.heap.size, 0, none⟩), .string (mkS (intB n))] W fun e w' => e = .returned (.tuple #[.int .i64 (mkS (intB n)).size, .nilIface]) ∧ Bld w (Lib.byteCells (intsB (l.take (k + 1)))) (N + (mkS (intB n)).size) w') := Lib.hid fun W h => by
        have := bld_string w _ N (mkS (intB n)) W h (by omega) (by omega)
        rw [bld_cells, ← hT] at this; exact this
      clear hT hn f0 f1
      generalize mkS (intB n) = E at *
      go_wp2_with (first | (go_at_call 105; (with_reducible refine (C1.out _).mono ?_); rintro e w1 ⟨rfl, hb1⟩) | (go_at_call 104; (with_reducible refine (HW.out _ (HB.out.below hb1)).mono ?_); rintro e w2 ⟨rfl, h2⟩))
      go_roundw
      case measure => simp [intOf]; omega
      case rel => exact ⟨k + 1, _, by omega, by omega, by go_num, Lib.hid h2⟩
    · obtain rfl : k = l.length := by omega
      have HD : Hid (Calls Tryd.prog 106 #[.pointer (some ⟨w.heap.size, 0, none⟩)] wr fun e w' => e = .returned (.string (mkS (intsB l))) ∧ Below w.heap.size w w') := Lib.hid (by
        have := HB.out
        rw [List.take_length] at this
        exact bld_done w (intsB l) N wr this)
      go_wp2_with (go_at_call 106; (with_reducible refine HD.out.mono ?_); rintro e w1 ⟨rfl, hb1⟩)
      go_ret
      exact ⟨rfl, hb1⟩
end Go.Proofs.YtoojdknfommpbaaDoor
