/- A disk on the heap. -/
import Derived.Test.YtoojdknfommpbaaDoorDiskWalk
namespace Go.Proofs.YtoojdknfommpbaaDoor
open Go.RowKit
set_option maxRecDepth 10000

/-- The cells of writes. -/
def wcells (ws : List (Nat × ByteArray)) : List Value := ws.flatMap fun w => [.int .i64 (w.1 : Int), .string w.2]
theorem wcells_snoc (ws : List (Nat × ByteArray)) (w : Nat × ByteArray) : wcells (ws ++ [w]) = wcells ws ++ [.int .i64 (w.1 : Int), .string w.2] := by unfold wcells; simp
theorem wcells_length (ws : List (Nat × ByteArray)) : (wcells ws).length = ws.length * 2 := by
  induction ws with
  | nil => rfl
  | cons w ws ih => show (_ :: _ :: wcells ws).length = _; simp [ih]; omega
theorem wcells_at (ws : List (Nat × ByteArray)) (i : Nat) (h : i < ws.length) : (wcells ws)[2 * i]? = some (.int .i64 (ws[i].1 : Int)) ∧ (wcells ws)[2 * i + 1]? = some (.string ws[i].2) := by
  induction ws generalizing i with
  | nil => simp at h
  | cons w ws ih =>
    cases i with
    | zero => exact ⟨rfl, rfl⟩
    | succ i =>
      have := ih i (by simpa using h)
      show (_ :: _ :: wcells ws)[2 * (i + 1)]? = _ ∧ (_ :: _ :: wcells ws)[2 * (i + 1) + 1]? = _
      rw [show 2 * (i + 1) = 2 * i + 1 + 1 by omega]
      simpa using this
/-- The blocks of a disk. -/
def Foot (b : Nat) (sv wv : Value) (k : Nat) : Prop := k = b ∨ sv.ownBlock = some k ∨ wv.ownBlock = some k
/-- A disk (of either kind: the cells' order is f's) that holds s. -/
structure Rows (w : World) (b : Nat) (s : St) (sv wv : Value) : Prop where
  sec : w.ownsRow 0 9 1 sv s.sec.length (s.sec.map Value.string)
  wai : w.ownsRow 0 119 2 wv s.waits.length (wcells s.waits)
  fs : sv.ownBlock ≠ some b
  fw : wv.ownBlock ≠ some b
  ap : ∀ k, sv.ownBlock = some k → wv.ownBlock ≠ some k
structure DiskAt (w : World) (b : Nat) (s : St) (sv wv : Value) : Prop where
  five : Five 117 w b (.int .i64 (s.left : Int)) (.int .i64 (s.done : Int)) (.bool s.dead) sv wv
  rows : Rows w b s sv wv
structure RefAt (w : World) (b : Nat) (s : St) (sv wv : Value) : Prop where
  five : Five 77 w b sv wv (.int .i64 (s.left : Int)) (.int .i64 (s.done : Int)) (.bool s.dead)
  rows : Rows w b s sv wv
theorem Rows.keep {w w' : World} {b : Nat} {s : St} {sv wv : Value} (h : Rows w b s sv wv) (hk : ∀ k, sv.ownBlock = some k ∨ wv.ownBlock = some k → w'.heap[k]? = w.heap[k]?) : Rows w' b s sv wv :=
  ⟨own_block h.sec fun k hk' => hk k (.inl hk'), own_block h.wai fun k hk' => hk k (.inr hk'), h.fs, h.fw, h.ap⟩
theorem Rows.of_eq {w : World} {b : Nat} {s s' : St} {sv wv : Value} (h : Rows w b s sv wv) (h1 : s'.sec = s.sec) (h2 : s'.waits = s.waits) : Rows w b s' sv wv :=
  ⟨by rw [h1]; exact h.sec, by rw [h2]; exact h.wai, h.fs, h.fw, h.ap⟩
theorem Rows.lt {w : World} {b : Nat} {s : St} {sv wv : Value} (h : Rows w b s sv wv) (k : Nat) (hk : sv.ownBlock = some k ∨ wv.ownBlock = some k) : k < w.heap.size := by
  rcases hk with hk | hk
  · exact (World.ownsRow.lt h.sec k hk).2
  · exact (World.ownsRow.lt h.wai k hk).2
theorem DiskAt.lt {w : World} {b : Nat} {s : St} {sv wv : Value} (h : DiskAt w b s sv wv) (k : Nat) (hk : Foot b sv wv k) : k < w.heap.size := by
  rcases hk with rfl | hk
  · exact h.five.lt
  · exact h.rows.lt k hk
theorem RefAt.lt {w : World} {b : Nat} {s : St} {sv wv : Value} (h : RefAt w b s sv wv) (k : Nat) (hk : Foot b sv wv k) : k < w.heap.size := by
  rcases hk with rfl | hk
  · exact h.five.lt
  · exact h.rows.lt k hk
theorem DiskAt.keep {w w' : World} {b : Nat} {s : St} {sv wv : Value} (h : DiskAt w b s sv wv) (hk : ∀ k, Foot b sv wv k → w'.heap[k]? = w.heap[k]?) : DiskAt w' b s sv wv :=
  ⟨h.five.block (hk b (.inl rfl)), h.rows.keep fun k hk' => hk k (.inr hk')⟩
theorem RefAt.keep {w w' : World} {b : Nat} {s : St} {sv wv : Value} (h : RefAt w b s sv wv) (hk : ∀ k, Foot b sv wv k → w'.heap[k]? = w.heap[k]?) : RefAt w' b s sv wv :=
  ⟨h.five.block (hk b (.inl rfl)), h.rows.keep fun k hk' => hk k (.inr hk')⟩
theorem DiskAt.tou {F : Nat → Prop} {w w' : World} {b : Nat} {s : St} {sv wv : Value} (h : DiskAt w b s sv wv) (ht : Tou F w w') (hF : ∀ k, Foot b sv wv k → ¬ F k) : DiskAt w' b s sv wv :=
  h.keep fun k hk => ht.block k (h.lt k hk) (hF k hk)
theorem RefAt.tou {F : Nat → Prop} {w w' : World} {b : Nat} {s : St} {sv wv : Value} (h : RefAt w b s sv wv) (ht : Tou F w w') (hF : ∀ k, Foot b sv wv k → ¬ F k) : RefAt w' b s sv wv :=
  h.keep fun k hk => ht.block k (h.lt k hk) (hF k hk)
/-- What an operation leaves. -/
def DStep (w : World) (b : Nat) (sv wv : Value) (s' : St) (w' : World) : Prop :=
  ∃ sv' wv', DiskAt w' b s' sv' wv' ∧ (∀ k, Foot b sv' wv' k → Foot b sv wv k ∨ w.heap.size ≤ k) ∧ Tou (Foot b sv wv) w w'
def RStep (w : World) (b : Nat) (sv wv : Value) (s' : St) (w' : World) : Prop :=
  ∃ sv' wv', RefAt w' b s' sv' wv' ∧ (∀ k, Foot b sv' wv' k → Foot b sv wv k ∨ w.heap.size ≤ k) ∧ Tou (Foot b sv wv) w w'
theorem DiskAt.same {w : World} {b : Nat} {s : St} {sv wv : Value} (h : DiskAt w b s sv wv) : DStep w b sv wv s w := ⟨sv, wv, h, fun _ hk => .inl hk, Tou.refl _ _⟩
theorem RefAt.same {w : World} {b : Nat} {s : St} {sv wv : Value} (h : RefAt w b s sv wv) : RStep w b sv wv s w := ⟨sv, wv, h, fun _ hk => .inl hk, Tou.refl _ _⟩
/-- Only the struct's block was touched. -/
theorem Rows.five {w w' : World} {b : Nat} {s : St} {sv wv : Value} (h : Rows w b s sv wv) (ht : Tou (fun k => k = b) w w') : Rows w' b s sv wv :=
  h.keep fun k hk => ht.block k (h.lt k hk) (by rintro rfl; rcases hk with h1 | h1; exact h.fs h1; exact h.fw h1)
theorem sl_form {w : World} {base : Nat} {e : TypeId} {size n : Nat} {v : Value} {xs : List Value} (h : w.ownsRow base e size v n xs) : ∃ A c, v = .slice A n c ∧ n ≤ c := by
  rcases h.2 with ⟨rfl, rfl⟩ | ⟨g, cap, cur, rfl, _, _, hc, _⟩
  · exact ⟨none, 0, rfl, Nat.le_refl _⟩
  · exact ⟨_, cap, rfl, hc⟩
section
variable {P : Program} {ops : Array Oper} {rest : List Oper} {o : Oper} {a : Act} {Q : Exit → Act → World → Prop}
/-- append(s, x) of one element of two cells: the goal's world is the one behind the variadic's own cells. -/
theorem append_two {W : World} (hgd : o.guard = none) (s x : Operand) (t e : TypeId) (z : Value) (bytes : Nat)
    (ho : o.op = .call { callee := .builtin .append, args := #[s, x], argTypes := #[t, t] })
    (ht : P.underlying t = some (.slice e)) (hinfo : (P.info? e).map (fun i => (i.zero, i.size, i.bytes)) = some (some z, 2, bytes)) (hz : z.cells.size = 2) (hb0 : 0 < bytes)
    (v : Value) (n : Nat) (xs : List Value) (y0 y1 : Value) (hs : a.eval s = v) (hx : a.eval x = .slice (some ⟨W.heap.size, 0, none⟩) 1 1) (h0 : y0.oneCell' = true) (h1 : y1.oneCell' = true)
    (HO : W.ownsRow 0 e 2 v n xs) (hl : (n + 1) * bytes ≤ 140737488355328)
    (h : ∀ v1 w1, w1.ownsRow 0 e 2 v1 (n + 1) (xs ++ [y0, y1]) → (∀ k, v1.ownBlock = some k → v.ownBlock = some k ∨ W.heap.size ≤ k) → Tou (fun k => v.ownBlock = some k) W w1 → wpList P ops Q rest (a.put o.dst v1) w1) :
    wpList P ops Q (o :: rest) a (W.alloc (.cells #[y0, y1] e)) := by
  obtain ⟨i0, hi, hzz⟩ := Option.map_eq_some_iff.1 hinfo
  simp only [Prod.mk.injEq] at hzz
  obtain ⟨hz0, hz1, hz2⟩ := hzz
  have hlen : n + 1 ≤ 140737488355328 := Nat.le_trans (Nat.le_mul_of_pos_right _ hb0) hl
  have hsz : (W.alloc (.cells #[y0, y1] e)).heap.size = W.heap.size + 1 := by simp
  refine wpList_append_lies (W.alloc (.cells #[y0, y1] e)) hgd s x t ho 0 e i0 z 2 bytes ht hi hz0 hz1 hz2 hz (by omega) v n xs hs (World.ownsRow.alloc HO _) ⟨W.heap.size, 0, none⟩ 1 1 [y0, y1] hx rfl
    ?_ (by simp [h0, h1]) (by omega) (by simp only [maxLen]; omega) hl (Nat.zero_le _) (W.heap.size + 1) hsz ?_
  · intro j u hj
    have hnew : (W.alloc (.cells #[y0, y1] e)).heap[W.heap.size]? = some (.cells #[y0, y1] e) := by show (W.heap.push _)[W.heap.size]? = _; simp
    unfold World.cell?
    rcases j with _ | _ | j
    · simp at hj; subst hj
      show (match (W.alloc (.cells #[y0, y1] e)).heap[W.heap.size]? with | some (.cells c _ _) => _ | _ => none) = _
      rw [hnew]; rfl
    · simp at hj; subst hj
      show (match (W.alloc (.cells #[y0, y1] e)).heap[W.heap.size]? with | some (.cells c _ _) => _ | _ => none) = _
      rw [hnew]; rfl
    · simp at hj
  · intro g cap w1 hown hg hfr _
    refine h _ w1 hown ?_ ?_
    · intro k hk
      have : g = k := by simpa [Value.ownBlock] using hk
      subst this
      rcases hfr with h2 | h2
      · exact .inl h2
      · right; omega
    · have hB := tou_of_below (F := fun k => v.ownBlock = some k) (below_new W (.cells #[y0, y1] e))
      exact hB.trans ⟨hg.os, hg.tape, hg.output, hg.size, fun k hk hF => hg.block k hk fun e => hF e.symm⟩
end
theorem rows_append {w w2 w3 : World} {b : Nat} {s : St} {sv wv v1 : Value} (h : Rows w b s sv wv) (hb : b < w.heap.size) (ht2 : Tou (fun k => k = b) w w2) (ht3 : Tou (fun k => wv.ownBlock = some k) w2 w3) (a : Nat) (x : ByteArray)
    (hown : w3.ownsRow 0 119 2 v1 (s.waits.length + 1) (wcells s.waits ++ [.int .i64 (a : Int), .string x])) (hfr : ∀ k, v1.ownBlock = some k → wv.ownBlock = some k ∨ w2.heap.size ≤ k) (off : Nat) :
    Rows (w3.setCell ⟨b, off, none⟩ v1) b { s with waits := s.waits ++ [(a, x)] } sv v1 ∧ (∀ k, Foot b sv v1 k → Foot b sv wv k ∨ w.heap.size ≤ k) ∧ Tou (Foot b sv wv) w (w3.setCell ⟨b, off, none⟩ v1) := by
  have h2 : Rows w2 b s sv wv := h.five ht2
  have hv1 : v1.ownBlock ≠ some b := fun e => by
    rcases hfr b e with h3 | h3
    · exact h.fw h3
    · have := ht2.size; omega
  refine ⟨⟨?_, ?_, h.fs, hv1, ?_⟩, ?_, ?_⟩
  · refine own_block (own_block h2.sec fun k hk => ht3.block k (h2.lt k (.inl hk)) (h.ap k hk)) fun k hk => ?_
    exact Below.heap_setCell _ _ _ _ (by rintro rfl; exact h.fs hk)
  · rw [wcells_snoc, List.length_append]
    refine own_block hown fun k hk => ?_
    exact Below.heap_setCell _ _ _ _ (by rintro rfl; exact hv1 hk)
  · intro k hk hk1
    rcases hfr k hk1 with h3 | h3
    · exact h.ap k hk h3
    · have := h2.lt k (.inl hk); omega
  · rintro k (rfl | hk | hk)
    · exact .inl (.inl rfl)
    · exact .inl (.inr (.inl hk))
    · rcases hfr k hk with h3 | h3
      · exact .inl (.inr (.inr h3))
      · right; have := ht2.size; omega
  · refine Tou.set ?_ (.inl (.inl rfl)) off v1
    refine Tou.trans (ht2.mono fun k _ hk => .inl hk) (ht3.mono fun k _ hk => .inr (.inr hk))
theorem info_write : (Tryd.prog.info? 119).map (fun i => (i.zero, i.size, i.bytes)) = some (some (.agg #[.int .i64 0, .string ByteArray.empty]), 2, 24) := by kernel_rfl
theorem write_any (w : World) (b : Nat) (s : St) (sv wv : Value) (at_ : Int) (x : ByteArray) (h : DiskAt w b s sv wv) (hok : s.ok 1000000) (hleft : s.left ≤ 9223372036854775807) (ha0 : -9223372036854775808 ≤ at_) (ha1 : at_ ≤ 9223372036854775807) :
    Calls Tryd.prog 43 #[.pointer (some ⟨b, 0, none⟩), .int .i64 at_, .string x] w fun e w' => e = .returned (.int .i64 (s.write at_ x).2) ∧ DStep w b sv wv (s.write at_ x).1 w' := by
  have hlen : s.sec.length ≤ 512 := hok.most
  have hlen2 : 2 ≤ s.sec.length := hok.two
  have hf := h.five
  obtain ⟨A, c, rfl, hc⟩ := sl_form h.rows.sec
  have G := Lib.hid (goes_any _ w b _ _ _ s.dead A s.sec.length c hf (by omega))
  rw [show goesE s.sec.length s.dead = if s.dead = true then 13 else 0 by unfold goesE; rw [if_neg (by omega)]] at G
  have HS := Lib.hid h.same
  have c3 := hf.c3
  have HD := Lib.hid h
  have HW : Hid (∃ r : St × Int, r = s.write at_ x) := Lib.hid ⟨_, rfl⟩
  obtain ⟨r, hr⟩ := HW.out
  rw [← hr]
  unfold St.write at hr
  clear HW h
  by_cases hd : s.dead = true
  · rw [if_pos hd] at hr G
    subst hr
    go_enter Tryd.func43, Tryd.ntmps43
    go_wp2_with (go_at_call 90; (with_reducible refine G.out.mono ?_); rintro e w' ⟨rfl, rfl⟩)
    go_ret
    exact ⟨rfl, HS.out⟩
  · rw [if_neg hd] at hr G
    have hd' : s.dead = false := by simpa using hd
    have hsI : (s.sec.length : Int) ≤ 512 := by omega
    by_cases hr1 : at_ < 0
    · rw [if_pos (.inl hr1)] at hr
      subst hr
      go_enter Tryd.func43, Tryd.ntmps43
      go_wp2_with (go_at_call 90; (with_reducible refine G.out.mono ?_); rintro e w' ⟨rfl, rfl⟩)
      go_ret
      exact ⟨rfl, HS.out⟩
    · by_cases hr2 : (s.sec.length : Int) ≤ at_
      · rw [if_pos (.inr hr2)] at hr
        subst hr
        go_enter Tryd.func43, Tryd.ntmps43
        go_wp2_with (go_at_call 90; (with_reducible refine G.out.mono ?_); rintro e w' ⟨rfl, rfl⟩)
        go_ret
        exact ⟨rfl, HS.out⟩
      · rw [if_neg (by omega)] at hr
        have hr3 : 0 ≤ at_ := by omega
        have hr4 : at_ < (s.sec.length : Int) := by omega
        by_cases hx1 : x.size ≠ 128
        · rw [if_pos hx1] at hr
          subst hr
          have hx2 : ¬ ((x.size : Int) = 128) := by omega
          have hx3 : ((x.size : Int) != 128) = true := by simp; omega
          go_enter Tryd.func43, Tryd.ntmps43
          go_wp2_with (go_at_call 90; (with_reducible refine G.out.mono ?_); rintro e w' ⟨rfl, rfl⟩)
          go_ret
          exact ⟨rfl, HS.out⟩
        · rw [if_neg hx1] at hr
          have hx2 : (x.size : Int) = 128 := by omega
          obtain ⟨a, rfl⟩ : ∃ a : Nat, at_ = a := ⟨at_.toNat, by omega⟩
          have hop : s.op.dead = decide (s.left = 1) := by unfold St.op; rw [hd']; simp
          rw [hop] at hr
          rw [hd'] at hf
          have hdone := hok.ops
          have hfew := hok.few
          have hfw := HD.out.rows.fw
          have HB := Lib.hid (burns_any _ w b s.left s.done (.slice A s.sec.length c) wv hf hleft hdone)
          have hlt := hf.lt
          have HF := Lib.hid hf
          clear hf
          by_cases hl1 : s.left = 1
          · rw [decide_eq_true hl1] at hr HB
            rw [if_pos rfl] at hr
            subst hr
            go_enter Tryd.func43, Tryd.ntmps43
            go_wp2_with (first | (go_at_call 90; (with_reducible refine G.out.mono ?_); rintro e w' ⟨rfl, rfl⟩) | (go_at_call 91; (with_reducible refine HB.out.mono ?_); rintro e w2 ⟨rfl, hf2, ht2⟩))
            go_ret
            exact ⟨rfl, .slice A s.sec.length c, wv, ⟨by unfold St.op; rw [hl1, hd'] at *; exact hf2, (HD.out.rows.five ht2).of_eq rfl rfl⟩, fun _ hk => .inl hk, ht2.mono fun k _ hk => .inl hk⟩
          · rw [decide_eq_false hl1] at hr HB
            rw [if_neg (by decide)] at hr
            subst hr
            go_enter Tryd.func43, Tryd.ntmps43
            go_wp2_with (first | (go_at_call 90; (with_reducible refine G.out.mono ?_); rintro e w' ⟨rfl, rfl⟩) | (go_at_call 91; (with_reducible refine HB.out.mono ?_); rintro e w2 ⟨rfl, hf2, ht2⟩; have c4 := hf2.c4) | (at_builtin; go_loud (refine append_two rfl (.tmp 40) (.tmp 44) 75 119 _ 24 rfl Tryd.underlying75 info_write rfl (by decide) wv _ _ _ _ rfl rfl rfl rfl (HD.out.rows.five ht2).wai (by omega) ?_; intro v1 w3 hown3 hfr3 ht3; obtain ⟨A1, c1, rfl, _⟩ := sl_form hown3; have hf3 := hf2.block (ht3.block _ hf2.lt hfw); have c5 := hf3.c4; have f5 := hf3.fz 4)))
            go_ret
            obtain ⟨k1, k2, k3⟩ := rows_append HD.out.rows hlt ht2 ht3 a x hown3 hfr3 4
            exact ⟨rfl, .slice A s.sec.length c, _, ⟨by unfold St.op; rw [hd']; simp [hl1]; exact hf3.s4 _, k1.of_eq rfl (by simp)⟩, k2, k3⟩
end Go.Proofs.YtoojdknfommpbaaDoor
