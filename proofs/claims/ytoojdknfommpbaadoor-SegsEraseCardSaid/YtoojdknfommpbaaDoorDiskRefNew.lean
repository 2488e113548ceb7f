/- The walks of the document's disk: New and Load. -/
import Derived.Test.YtoojdknfommpbaaDoorDiskActs
import Derived.Test.YtoojdknfommpbaaDoorDiskLoad
import Derived.Deep.RegionLaw
namespace Go.Proofs.YtoojdknfommpbaaDoor
open Go.RowKit
set_option maxRecDepth 10000

section
variable {P : Program} {ops : Array Oper} {o : Oper} {a : Act} {K : Act → World → Prop} {Q : Exit → Act → World → Prop} {E : Prop}
/-- append(s, y) of one cell, as one step of a region that draws its order. -/
theorem step_append_one {W : World} (H : Nat) (hH : W.heap.size = H) (hgd : o.guard = none) (s x : Operand) (t e : TypeId) (z : Value) (bytes : Nat)
    (ho : o.op = .call { callee := .builtin .append, args := #[s, x], argTypes := #[t, t] })
    (ht : P.underlying t = some (.slice e)) (hinfo : (P.info? e).map (fun i => (i.zero, i.size, i.bytes)) = some (some z, 1, bytes)) (hz : z.cells.size = 1) (hb0 : 0 < bytes)
    (base : Nat) (v : Value) (n : Nat) (xs : List Value) (y : Value) (hs : a.eval s = v) (hx : a.eval x = .slice (some ⟨H, 0, none⟩) 1 1) (h0 : y.oneCell' = true)
    (HO : W.ownsRow base e 1 v n xs) (hbase : base ≤ W.heap.size) (hl : (n + 1) * bytes ≤ 140737488355328)
    (h : ∀ v1 w1, w1.ownsRow base e 1 v1 (n + 1) (xs ++ [y]) → Tou (fun k => v.ownBlock = some k) W w1 → K (a.put o.dst v1) w1) :
    if Region.wanted o (yielded ops a.tmps) = true then Oper.wp P o a (W.alloc (.cells #[y] e)) K Q else E := by
  subst hH
  obtain ⟨i0, hi, hzz⟩ := Option.map_eq_some_iff.1 hinfo
  simp only [Prod.mk.injEq] at hzz
  obtain ⟨hz0, hz1, hz2⟩ := hzz
  have hlen : n + 1 ≤ 140737488355328 := Nat.le_trans (Nat.le_mul_of_pos_right _ hb0) hl
  refine step_append_lies (W.alloc (.cells #[y] e)) hgd s x t ho base e i0 z 1 bytes ht hi hz0 hz1 hz2 hz (by omega) v n xs hs (World.ownsRow.alloc HO _) ⟨W.heap.size, 0, none⟩ 1 1 [y] hx rfl
    ?_ (by simp [h0]) (by omega) (by simp only [maxLen]; omega) hl (by simp; omega) (W.heap.size + 1) (by simp) ?_
  · intro j u hj
    rcases j with _ | j
    · simp at hj; subst hj; exact World.cell?_alloc_new _ _ _ _
    · simp at hj
  · intro g cap w1 hown hg _ _
    refine h _ w1 hown ?_
    exact (tou_of_below (below_new W (.cells #[y] e))).trans ⟨hg.os, hg.tape, hg.output, hg.size, fun k hk hF => hg.block k hk fun e => hF e.symm⟩
end
/-- A document's disk in the making. -/
structure RNew (w W : World) (sv : Value) (l : List ByteArray) : Prop where
  five : Five 77 W w.heap.size sv (.slice none 0 0) (.int .i64 0) (.int .i64 0) (.bool false)
  row : W.ownsRow (w.heap.size + 1) 9 1 sv l.length (l.map Value.string)
  bel : Below w.heap.size w W
theorem RNew.next {w W W1 W3 : World} {sv v1 : Value} {l : List ByteArray} (h : RNew w W sv l) (hb : Below W.heap.size W W1) (ht : Tou (fun k => sv.ownBlock = some k) W1 W3) (y : ByteArray)
    (hown : W3.ownsRow (w.heap.size + 1) 9 1 v1 (l.length + 1) (l.map Value.string ++ [.string y])) : RNew w (W3.setCell ⟨w.heap.size, 0, none⟩ v1) v1 (l ++ [y]) := by
  have hlt := h.five.lt
  refine ⟨?_, ?_, ?_⟩
  · refine ((h.five.below hb).block (ht.block _ (by have := hb.size; omega) fun e => ?_)).s0 v1
    have := (World.ownsRow.lt h.row _ e).1; omega
  · rw [List.length_append, List.map_append]
    exact own_block hown fun k hk => Below.heap_setCell _ _ _ _ (by have := (World.ownsRow.lt hown k hk).1; show k ≠ w.heap.size; omega)
  · refine (h.bel.trans ((hb.mono (Nat.le_of_lt hlt)).trans (ht.below (by have := hb.size; omega) fun k hk => ?_))).setCell (p := ⟨w.heap.size, 0, none⟩) (Nat.le_refl _) _
    have := (World.ownsRow.lt h.row k hk).1; omega
def NewRef (w : World) (s : St) (e : Ending) (w' : World) : Prop :=
  ∃ b sv wv, e = .returned (.tuple #[.pointer (some ⟨b, 0, none⟩), .int .i64 0]) ∧ RefAt w' b s sv wv ∧ (∀ k, Foot b sv wv k → w.heap.size ≤ k) ∧ Below w.heap.size w w'
theorem RNew.done {w W : World} {sv : Value} {l : List ByteArray} (h : RNew w W sv l) : RefAt W w.heap.size (loadSt l) sv (.slice none 0 0) ∧ (∀ k, Foot w.heap.size sv (.slice none 0 0) k → w.heap.size ≤ k) := by
  refine ⟨⟨h.five, ⟨own_rebase h.row fun _ _ => Nat.zero_le _, World.ownsRow_nil _ _ _ _, fun e => ?_, by simp [Value.ownBlock], fun k _ => by simp [Value.ownBlock]⟩⟩, ?_⟩
  · have := (World.ownsRow.lt h.row _ e).1; omega
  · rintro k (rfl | hk | hk)
    · exact Nat.le_refl _
    · have := (World.ownsRow.lt h.row k hk).1; omega
    · simp [Value.ownBlock] at hk
theorem rnew_bad (n : Int) (w : World) (h : n < 2 ∨ 512 < n) : Calls Tryd.prog 42 #[.int .i64 n] w fun e w' => e = .returned (.tuple #[.pointer none, .int .i64 11]) ∧ w = w' := by
  rcases h with h | h
  · go_enter Tryd.func42, Tryd.ntmps42
    go_wp2
    go_ret2
    exact ⟨rfl, rfl⟩
  · have h2 : ¬ n < 2 := by omega
    go_enter Tryd.func42, Tryd.ntmps42
    go_wp2
    go_ret2
    exact ⟨rfl, rfl⟩
set_option maxHeartbeats 2000000 in
theorem rnew_any (n : Nat) (w : World) (h2 : 2 ≤ n) (hn : n ≤ 512) : Calls Tryd.prog 42 #[.int .i64 (n : Int)] w (NewRef w (newSt n)) := by
  have h2I : ¬ (n : Int) < 2 := by omega
  have hnI : (n : Int) ≤ 512 := by omega
  go_enter Tryd.func42, Tryd.ntmps42
  go_wp2
  go_loopw [5] (fun i W => ∃ k : Nat, k ≤ n ∧ i = .int .i64 k ∧ Hid (∃ sv, RNew w W sv (List.replicate k blankB))) (fun i _ => n - (intOf i).toNat)
  case atStart => exact ⟨0, by omega, rfl, Lib.hid ⟨.slice none 0 0, Five.new _ _ _ _ _ _ _, World.ownsRow_nil _ _ _ _, below_new _ _⟩⟩
  case round =>
    obtain ⟨k, hk, rfl, HE⟩ := hrel
    obtain ⟨sv, hI⟩ := HE.out
    have HI := Lib.hid hI
    clear HE hI
    by_cases hlt : k < n
    · have hkI : (k : Int) < (n : Int) := by omega
      have b0 := HI.out.five.c0
      obtain ⟨A0, c0, rfl, _⟩ := sl_form HI.out.row
      have hrl : (List.replicate k blankB).length = k := List.length_replicate
      have HS : Hid (List.replicate (k + 1) blankB = List.replicate k blankB ++ [blankB]) := Lib.hid List.replicate_succ'
      obtain ⟨l, hl⟩ : ∃ l, List.replicate k blankB = l := ⟨_, rfl⟩
      rw [hl] at HI HS hrl b0
      clear hl
      have HN : Hid (l.length = k) := Lib.hid hrl
      have HSt : Hid (∀ w1, Below wr.heap.size wr w1 → w1.cell? ⟨w.heap.size, 0, none⟩ = some (.slice A0 l.length c0) ∧ w1.ownsRow (w.heap.size + 1) 9 1 (.slice A0 l.length c0) l.length (l.map Value.string) ∧ w.heap.size + 1 ≤ w1.heap.size) := Lib.hid fun w1 hb =>
        ⟨cell_below hb b0, own_block HI.out.row fun k hk => hb.block k (World.ownsRow.lt HI.out.row k hk).2, by have := HI.out.five.lt; have := hb.size; omega⟩
      have HSt2 : Hid (∀ w1 w3, Below wr.heap.size wr w1 → Tou (fun k => (Value.slice A0 l.length c0).ownBlock = some k) w1 w3 → w3.cell? ⟨w.heap.size, 0, none⟩ = some (.slice A0 l.length c0) ∧ w3.frozen? ⟨w.heap.size, 0, none⟩ = false) := Lib.hid fun w1 w3 hb ht => by
        have hf := (HI.out.five.below hb).block (ht.block _ (by have := HI.out.five.lt; have := hb.size; omega) fun e => by have := (World.ownsRow.lt HI.out.row _ e).1; omega)
        exact ⟨hf.c0, hf.fz 0⟩
      have hll : l.length ≤ 512 := by omega
      clear hrl
      go_wp2
      go_region_law (first | (refine step_append_one (base := w.heap.size + 1) _ (by rfl) rfl (.tmp 23) (.tmp 25) 30 9 (.string ByteArray.empty) 16 rfl Tryd.underlying30 info_str rfl (by decide) (.slice A0 l.length c0) l.length (l.map Value.string) (.string blankB) (by simp [Act.eval]) (by simp [Act.eval]) rfl (HSt.out _ hbw).2.1 (HSt.out _ hbw).2.2 (by omega) ?_; intro v1 w3 hown3 ht3; obtain ⟨z0, z1⟩ := HSt2.out _ w3 hbw ht3; obtain ⟨A3, c3, rfl, _⟩ := sl_form hown3) | (go_simp; go_at_call 23; (with_reducible refine (blank_any _).mono ?_); rintro e w1 ⟨rfl, hbw0⟩; have hbw := below_drew1 hbw0; obtain ⟨y1, _, _⟩ := HSt.out _ hbw; have y2 := fun o => cell_below (below_new w1 o) y1))
      all_goals go_wp2
      all_goals go_roundw
      all_goals first | (simp [intOf]; omega) | exact ⟨k + 1, by omega, by go_num, Lib.hid ⟨_, by rw [HS.out]; exact HI.out.next hbw ht3 blankB hown3⟩⟩
    · obtain rfl : k = n := by omega
      obtain ⟨k1, k2⟩ := HI.out.done
      go_wp2
      go_ret2
      exact ⟨_, _, _, rfl, k1, k2, HI.out.bel⟩
/-- What Load of the document's disk tells. -/
def RLoadPost (w : World) (l : List ByteArray) (e : Ending) (w' : World) : Prop := if l.any odd128 = true then e = .returned (.tuple #[.pointer none, .int .i64 9]) ∧ Below w.heap.size w w' else NewRef w (loadSt l) e w'
end Go.Proofs.YtoojdknfommpbaaDoor
