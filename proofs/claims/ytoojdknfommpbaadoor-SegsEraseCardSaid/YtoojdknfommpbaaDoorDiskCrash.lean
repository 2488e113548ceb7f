/- The walk of the disk's Crash. -/
import Derived.Test.YtoojdknfommpbaaDoorDiskFlush
namespace Go.Proofs.YtoojdknfommpbaaDoor
open Go.RowKit
set_option maxRecDepth 10000

/-- Where a crash is at: the sectors, and the rest as it was. -/
structure SecAt (w W : World) (b : Nat) (s : St) (sv wv : Value) (L : List ByteArray) : Prop where
  five : Five 117 W b (.int .i64 (s.left : Int)) (.int .i64 (s.done : Int)) (.bool s.dead) sv wv
  sec : W.ownsRow 0 9 1 sv s.sec.length (L.map Value.string)
  wai : W.ownsRow 0 119 2 wv s.waits.length (wcells s.waits)
  tou : Tou (Foot b sv wv) w W
theorem SecAt.below {w W W1 : World} {b : Nat} {s : St} {sv wv : Value} {L : List ByteArray} (h : SecAt w W b s sv wv L) (hT : Below W.heap.size W W1) : SecAt w W1 b s sv wv L :=
  ⟨h.five.below hT, own_block h.sec fun k hk => hT.block k (World.ownsRow.lt h.sec k hk).2, own_block h.wai fun k hk => hT.block k (World.ownsRow.lt h.wai k hk).2, h.tou.trans (tou_of_below hT)⟩
theorem SecAt.next {w W : World} {b g1 c1 n : Nat} {s : St} {wv : Value} {L : List ByteArray} (h : SecAt w W b s (.slice (some ⟨g1, 0, none⟩) n c1) wv L) (i : Nat) (y : ByteArray)
    (hfs : (Value.slice (some ⟨g1, 0, none⟩) n c1).ownBlock ≠ some b) (hap : wv.ownBlock ≠ some g1) : SecAt w (W.setCell ⟨g1, i, none⟩ (.string y)).drew b s (.slice (some ⟨g1, 0, none⟩) n c1) wv (L.set i y) := by
  have hb : b ≠ g1 := fun e => hfs (by subst e; rfl)
  refine ⟨?_, ?_, ?_, ?_⟩
  · exact h.five.block (Below.heap_setCell _ _ _ _ hb)
  · rw [List.map_set]
    exact (own_set h.sec rfl i _).drew
  · exact (own_block h.wai fun k hk => Below.heap_setCell _ _ _ _ (by rintro rfl; exact hap hk)).drew
  · exact (h.tou.set (.inl (.inr (.inl rfl))) i (.string y)).drew 1
theorem own_rebase {w : World} {B base : Nat} {e : TypeId} {size n : Nat} {v : Value} {xs : List Value} (h : w.ownsRow B e size v n xs) (hb : ∀ k, v.ownBlock = some k → base ≤ k) : w.ownsRow base e size v n xs := by
  obtain ⟨h1, h2⟩ := h
  refine ⟨h1, ?_⟩
  rcases h2 with h2 | ⟨g, cap, cur, rfl, _, hh, r⟩
  · exact .inl h2
  · exact .inr ⟨g, cap, cur, rfl, hb g rfl, hh, r⟩
section
variable {P : Program} {ops : Array Oper} {rest : List Oper} {o : Oper} {a : Act} {Q : Exit → Act → World → Prop}
/-- The same, the new block's number a letter. -/
theorem append_two' {W : World} (H : Nat) (hH : W.heap.size = H) (hgd : o.guard = none) (s x : Operand) (t e : TypeId) (z : Value) (bytes : Nat)
    (ho : o.op = .call { callee := .builtin .append, args := #[s, x], argTypes := #[t, t] })
    (ht : P.underlying t = some (.slice e)) (hinfo : (P.info? e).map (fun i => (i.zero, i.size, i.bytes)) = some (some z, 2, bytes)) (hz : z.cells.size = 2) (hb0 : 0 < bytes)
    (v : Value) (n : Nat) (xs : List Value) (y0 y1 : Value) (hs : a.eval s = v) (hx : a.eval x = .slice (some ⟨H, 0, none⟩) 1 1) (h0 : y0.oneCell' = true) (h1 : y1.oneCell' = true)
    (HO : W.ownsRow 0 e 2 v n xs) (hl : (n + 1) * bytes ≤ 140737488355328)
    (h : ∀ v1 w1, w1.ownsRow 0 e 2 v1 (n + 1) (xs ++ [y0, y1]) → (∀ k, v1.ownBlock = some k → v.ownBlock = some k ∨ H ≤ k) → Tou (fun k => v.ownBlock = some k) W w1 → wpList P ops Q rest (a.put o.dst v1) w1) :
    wpList P ops Q (o :: rest) a (W.alloc (.cells #[y0, y1] e)) := by
  subst hH
  exact append_two hgd s x t e z bytes ho ht hinfo hz hb0 v n xs y0 y1 hs hx h0 h1 HO hl h
end
/-- The rest of an address list is told by a number. -/
theorem add_lit0 (g k : Nat) : (⟨g, 0, none⟩ : Addr).add k = ⟨g, k, none⟩ := by unfold Addr.add; split <;> simp_all
