/- The walk of the disk's Crash. -/
import Derived.Test.YtmmajdkngboecaaDiskFlush
namespace Go.Proofs.Ytmmajdkngboecaa
open Go.RowKit
set_option maxRecDepth 10000

/-- Where a crash is at: the sectors, and the rest as it was. -/
structure SecAt (w W : World) (b : Nat) (s : St) (sv wv : Value) (L : List ByteArray) : Prop where
  five : Five 85 W b (.int .i64 (s.left : Int)) (.int .i64 (s.done : Int)) (.bool s.dead) sv wv
  sec : W.ownsRow 0 9 1 sv s.sec.length (L.map Value.string)
  wai : W.ownsRow 0 71 2 wv s.waits.length (wcells s.waits)
  tou : Tou (Foot b sv wv) w W
theorem SecAt.below {w W W1 : World} {b : Nat} {s : St} {sv wv : Value} {L : List ByteArray} (h : SecAt w W b s sv wv L) (hT : Below W.heap.size W W1) : SecAt w W1 b s sv wv L :=
  ⟨h.five.below hT, own_block h.sec fun k hk => hT.block k (World.ownsRow.lt h.sec k hk).2, own_block h.wai fun k hk => hT.block k (World.ownsRow.lt h.wai k hk).2, h.tou.trans (tou_of_below hT)⟩
theorem SecAt.next {w W : World} {b g1 c1 n : Nat} {s : St} {wv : Value} {L : List ByteArray} (h : SecAt w W b s (.slice (some ⟨g1, 0, none⟩) n c1) wv L) (i : Nat) (y : ByteArray)
    (hfs : (Value.slice (some ⟨g1, 0, none⟩) n c1).ownBlock ≠ some b) (hap : wv.ownBlock ≠ some g1) : SecAt w (W.setCell ⟨g1, i, none⟩ (.string y)).drew b s (.slice (some ⟨g1, 0, none⟩) n c1) wv (L.set i y) := by
  have hb : b ≠ g1 := fun e => hfs (by subst e; rfl)
  refine ⟨?_, ?_, ?_, ?_⟩
  · exact h.five.block (Below.heap_setCell _ _ _ _ hb)
  · rw [List.map_set]
    exact (own_set h.sec rfl i _).drew
  · exact (own_block h.wai fun k hk => Below.heap_setCell _ _ _ _ (by rintro rfl; exact hap hk)).drew
  · exact (h.tou.set (.inl (.inr (.inl rfl))) i (.string y)).drew 1
theorem own_rebase {w : World} {B base : Nat} {e : TypeId} {size n : Nat} {v : Value} {xs : List Value} (h : w.ownsRow B e size v n xs) (hb : ∀ k, v.ownBlock = some k → base ≤ k) : w.ownsRow base e size v n xs := by
  obtain ⟨h1, h2⟩ := h
  refine ⟨h1, ?_⟩
  rcases h2 with h2 | ⟨g, cap, cur, rfl, _, hh, r⟩
  · exact .inl h2
  · exact .inr ⟨g, cap, cur, rfl, hb g rfl, hh, r⟩
section
variable {P : Program} {ops : Array Oper} {rest : List Oper} {o : Oper} {a : Act} {Q : Exit → Act → World → Prop}
/-- The same, the new block's number a letter. -/
theorem append_two' {W : World} (H : Nat) (hH : W.heap.size = H) (hgd : o.guard = none) (s x : Operand) (t e : TypeId) (z : Value) (bytes : Nat)
    (ho : o.op = .call { callee := .builtin .append, args := #[s, x], argTypes := #[t, t] })
    (ht : P.underlying t = some (.slice e)) (hinfo : (P.info? e).map (fun i => (i.zero, i.size, i.bytes)) = some (some z, 2, bytes)) (hz : z.cells.size = 2) (hb0 : 0 < bytes)
    (v : Value) (n : Nat) (xs : List Value) (y0 y1 : Value) (hs : a.eval s = v) (hx : a.eval x = .slice (some ⟨H, 0, none⟩) 1 1) (h0 : y0.oneCell' = true) (h1 : y1.oneCell' = true)
    (HO : W.ownsRow 0 e 2 v n xs) (hl : (n + 1) * bytes ≤ 140737488355328)
    (h : ∀ v1 w1, w1.ownsRow 0 e 2 v1 (n + 1) (xs ++ [y0, y1]) → (∀ k, v1.ownBlock = some k → v.ownBlock = some k ∨ H ≤ k) → Tou (fun k => v.ownBlock = some k) W w1 → wpList P ops Q rest (a.put o.dst v1) w1) :
    wpList P ops Q (o :: rest) a (W.alloc (.cells #[y0, y1] e)) := by
  subst hH
  exact append_two hgd s x t e z bytes ho ht hinfo hz hb0 v n xs y0 y1 hs hx h0 h1 HO hl h
end
/-- The rest of an address list is told by a number. -/
theorem add_lit0 (g k : Nat) : (⟨g, 0, none⟩ : Addr).add k = ⟨g, k, none⟩ := by unfold Addr.add; split <;> simp_all

set_option maxHeartbeats 1000000 in
theorem crash_any (w : World) (b : Nat) (s : St) (sv wv kv : Value) (keep : List Bool) (tear : Int) (h : DiskAt w b s sv wv) (hok : s.ok 1000000) (hk : Sl Value.bool w kv keep) (hkl : keep.length ≤ 1000000)
    (ht0 : -9223372036854775808 ≤ tear) (ht1 : tear ≤ 9223372036854775807) :
    Calls Try.prog 51 #[.pointer (some ⟨b, 0, none⟩), kv, .int .i64 tear] w fun e w' => e = .returned (.int .i64 0) ∧ DStep w b sv wv (s.crash keep tear) w' := by
  have hlen : s.sec.length ≤ 512 := hok.most
  have hlen2 : 2 ≤ s.sec.length := hok.two
  have hfew := hok.few
  obtain ⟨g1, c1, rfl, _, hg1⟩ := World.ownsRow.form h.rows.sec (by omega)
  obtain ⟨A2, c2, rfl, hc2⟩ := sl_form h.rows.wai
  have G := Lib.hid (given_any _ w b _ _ _ _ _ s.sec.length c1 h.five (by omega))
  rw [decide_eq_true (show 0 < s.sec.length by omega)] at G
  have HS : Hid (SecAt w w b s (.slice (some ⟨g1, 0, none⟩) s.sec.length c1) (.slice A2 s.waits.length c2) s.sec) := Lib.hid ⟨h.five, h.rows.sec, h.rows.wai, Tou.refl _ _⟩
  have HD := Lib.hid h
  have c4 := h.five.c4
  have hwI : (s.waits.length : Int) ≤ 1000000 := by omega
  have hmI : (keep.length : Int) ≤ 1000000 := by omega
  obtain ⟨K, kc, rfl, _, hkeep⟩ := hk
  have HK := Lib.hid hkeep
  clear h hkeep
  go_enter Try.func51, Try.ntmps51
  go_wp2_with (go_at_call 75; (with_reducible refine G.out.mono ?_); rintro e w' ⟨rfl, rfl⟩)
  go_loopw [7, 20] (fun v i W => ∃ k : Nat, k ≤ s.waits.length ∧ i = .int .i64 k ∧ Hid (W.ownsRow w.heap.size 71 2 v (keptL (s.waits.take k) keep).length (wcells (keptL (s.waits.take k) keep)) ∧ Below w.heap.size w W)) (fun _ i _ => s.waits.length - (intOf i).toNat)
  case atStart => exact ⟨0, by omega, rfl, Lib.hid ⟨World.ownsRow_nil _ _ _ _, Below.refl _ _⟩⟩
  case round =>
    obtain ⟨k, hk, rfl, HI⟩ := hrel
    by_cases hlt : k < s.waits.length
    · obtain ⟨g2, rfl⟩ : ∃ g2, A2 = some ⟨g2, 0, none⟩ := by
        obtain ⟨g, c, he, _⟩ := World.ownsRow.form HS.out.wai (by show 0 < s.waits.length; omega)
        simp only [Value.slice.injEq] at he
        exact ⟨g, he.1⟩
      have hw2 := (HS.out.below HI.out.2).wai
      have q0 := own_at hw2 (k * 2) _ (by rw [Nat.mul_comm]; exact (wcells_at s.waits k hlt).1)
      have q1 := own_at hw2 (k * 2 + 1) _ (by rw [Nat.mul_comm]; exact (wcells_at s.waits k hlt).2)
      have hkI : (k : Int) < (s.waits.length : Int) := by omega
      have HT := Lib.hid (keptL_snoc s.waits keep k hlt)
      clear hw2
      obtain ⟨x, hxe⟩ : ∃ x, s.waits[k] = x := ⟨_, rfl⟩
      rw [hxe] at q0 q1 HT
      clear hxe
      have HB1 : ∀ o, Below w.heap.size w (wr.alloc o) := fun o => HI.out.2.alloc HI.out.2.size o
      by_cases hkk : k < keep.length
      · obtain ⟨a, rfl, hcell0⟩ := HK.out k hkk
        have hkkI : (k : Int) < (keep.length : Int) := by omega
        have hcell := cell_below (HI.out.2.trans (below_new wr (.cells #[.int .i64 (x.1 : Int), .string x.2] 71) |>.mono HI.out.2.size)) hcell0
        clear hcell0
        rw [List.getElem?_eq_getElem hkk] at HT
        generalize keep[k] = kb at *
        cases kb
        · go_wp2
          go_roundw
          case measure => simp [intOf]; omega
          case rel => exact ⟨k + 1, by omega, by go_num, Lib.hid ⟨by rw [HT.out, if_neg (by decide), List.append_nil]; exact own_block HI.out.1 fun j hj => (below_new wr _).block j (World.ownsRow.lt HI.out.1 j hj).2, HB1 _⟩⟩
        · go_wp2_with (at_builtin; (refine append_two' (wr.heap.size + 1) (by simp) rfl (.tmp 35) (.tmp 37) 67 71 _ 24 rfl Try.underlying67 info_write rfl (by decide) _ _ _ _ _ rfl rfl rfl rfl (own_rebase (base := 0) (own_block HI.out.1 fun j hj => (below_new wr _).block j (World.ownsRow.lt HI.out.1 j hj).2) fun _ _ => Nat.zero_le _) (by have := keptL_length_le (s.waits.take k) keep; simp at this; omega) ?_; intro v1 w3 hown3 hfr3 ht3))
          go_roundw
          case measure => simp [intOf]; omega
          case rel => exact ⟨k + 1, by omega, by go_num, Lib.hid ⟨by
              rw [HT.out, if_pos rfl, wcells_snoc, List.length_append]
              exact own_rebase hown3 fun j hj => by
                rcases hfr3 j hj with h1 | h1
                · exact (World.ownsRow.lt HI.out.1 j h1).1
                · have := HI.out.2.size; omega, (HB1 _).trans (ht3.below (by have := HI.out.2.size; simp; omega) fun j hj => (World.ownsRow.lt HI.out.1 j hj).1)⟩⟩
      · have hkkI : (keep.length : Int) ≤ (k : Int) := by omega
        rw [List.getElem?_eq_none (by omega)] at HT
        go_wp2
        go_roundw
        case measure => simp [intOf]; omega
        case rel => exact ⟨k + 1, by omega, by go_num, Lib.hid ⟨by rw [HT.out, if_neg (by decide), List.append_nil]; exact own_block HI.out.1 fun j hj => (below_new wr _).block j (World.ownsRow.lt HI.out.1 j hj).2, HB1 _⟩⟩
    · obtain rfl : k = s.waits.length := by omega
      have HJ := HI.out
      rw [List.take_length] at HJ
      obtain ⟨kept, hkept⟩ : ∃ kept, keptL s.waits keep = kept := ⟨_, rfl⟩
      rw [hkept] at HJ
      have HS1 := Lib.hid (HS.out.below HJ.2)
      obtain ⟨A3, c3, rfl, hc3⟩ := sl_form HJ.1
      have HK0 := Lib.hid HJ.1
      have hsz := HJ.2.size
      have hkl2 : kept.length ≤ 1000000 := by rw [← hkept]; exact Nat.le_trans (keptL_length_le _ _) hfew
      have hklI : (kept.length : Int) ≤ 1000000 := by omega
      have HF2 : Hid (∀ y ∈ s.sec, y.size = 128) := Lib.hid hok.full
      have HF : Hid (∀ y ∈ kept, y.1 < s.sec.length ∧ y.2.size = 128) := Lib.hid fun y hy => hok.fits y (keptL_mem (by rw [hkept]; exact hy))
      clear HJ HI hlt
      go_wp2
      go_loopw [42] (fun i W => ∃ k : Nat, k ≤ kept.length ∧ i = .int .i64 k ∧ Hid (W.ownsRow w.heap.size 71 2 (.slice A3 kept.length c3) kept.length (wcells kept) ∧ SecAt w W b s (.slice (some ⟨g1, 0, none⟩) s.sec.length c1) (.slice A2 s.waits.length c2) (crashTo s.sec kept tear k))) (fun i _ => kept.length - (intOf i).toNat)
      case atStart => exact ⟨0, by omega, rfl, Lib.hid ⟨HK0.out, by rw [crashTo_zero]; exact HS1.out⟩⟩
      case round =>
        obtain ⟨k, hk, rfl, HI⟩ := hrel
        by_cases hlt : k < kept.length
        · obtain ⟨g3, hg3, rfl⟩ : ∃ g3, w.heap.size ≤ g3 ∧ A3 = some ⟨g3, 0, none⟩ := by
            obtain ⟨g, c, he, hg, _⟩ := World.ownsRow.form HI.out.1 (by omega)
            simp only [Value.slice.injEq] at he
            exact ⟨g, hg, he.1⟩
          have q0 := own_at HI.out.1 (k * 2) _ (by rw [Nat.mul_comm]; exact (wcells_at kept k hlt).1)
          have q1 := own_at HI.out.1 (k * 2 + 1) _ (by rw [Nat.mul_comm]; exact (wcells_at kept k hlt).2)
          have hkI : (k : Int) < (kept.length : Int) := by omega
          have HT := Lib.hid (crashTo_succ s.sec kept tear k hlt)
          have hx := HF.out _ (List.getElem_mem hlt)
          obtain ⟨x, hxe⟩ : ∃ x, kept[k] = x := ⟨_, rfl⟩
          rw [hxe] at q0 q1 HT hx
          clear hxe
          have hLl : (crashTo s.sec kept tear k).length = s.sec.length := crashTo_length _ _ _ _
          have hLf := full_crashTo s.sec kept tear k HF2.out HF.out
          obtain ⟨L, hL⟩ : ∃ L, crashTo s.sec kept tear k = L := ⟨_, rfl⟩
          rw [hL] at HI HT hLl hLf
          clear hL
          have hx1 : x.1 < L.length := by rw [hLl]; exact hx.1
          have hxI : (x.1 : Int) < (s.sec.length : Int) := by omega
          have hbel := below_new wr (.cells #[.int .i64 (x.1 : Int), .string x.2] 71)
          by_cases htorn : k + 1 = kept.length ∧ 0 < tear ∧ tear < 128
          · obtain ⟨T, rfl⟩ : ∃ T : Nat, tear = (T : Int) := ⟨tear.toNat, by omega⟩
            obtain ⟨hk1, hT0, hT1⟩ := htorn
            obtain ⟨old, hold⟩ : ∃ old, L[x.1] = old := ⟨_, rfl⟩
            have hos : old.size = 128 := by rw [← hold]; exact hLf _ (List.getElem_mem hx1)
            have hoI : (T : Int) ≤ (old.size : Int) := by omega
            have hxT : (T : Int) ≤ (x.2.size : Int) := by have := hx.2; omega
            have hcc : ¬ 9223372036854775807 < min T x.2.size + (old.size - T) := by omega
            have h1J : ((k : Int) == (kept.length : Int) - 1) = true := by simp; omega
            have HT2 : Hid (crashTo s.sec kept T (k + 1) = L.set x.1 (x.2.extract 0 T ++ old.extract T old.size)) := Lib.hid (by
              rw [HT.out, if_pos hk1, List.getD_eq_getElem?_getD, List.getElem?_eq_getElem hx1, hold]
              unfold tornD
              rw [if_pos (by omega)]; rfl)
            clear HT hLf hx hos
            have HV := Lib.hid (HI.out.2.below hbel)
            have hb0 := HV.out.five.c3
            have hc1 := own_at HV.out.sec x.1 _ (getElem?_secs _ x.1 hx1)
            rw [hold] at hc1
            clear hold
            go_wp2
            have n0 : (wr.alloc (.cells #[.int .i64 (x.1 : Int), .string x.2] 71)).cell? ⟨wr.heap.size, 0, none⟩ = some (.int .i64 (x.1 : Int)) := by rw [World.cell?_alloc_new]; rfl
            have n1 : (wr.alloc (.cells #[.int .i64 (x.1 : Int), .string x.2] 71)).cell? ⟨wr.heap.size, 1, none⟩ = some (.string x.2) := by rw [World.cell?_alloc_new]; rfl
            have f1 : (wr.alloc (.cells #[.int .i64 (x.1 : Int), .string x.2] 71)).frozen? ⟨wr.heap.size, 1, none⟩ = false := by
              rw [frozen?_alloc_cells]; unfold World.frozen?; rw [Array.getElem?_eq_none (Nat.le_refl _)]
            obtain ⟨W1, hW1⟩ : ∃ W1, wr.alloc (.cells #[.int .i64 (x.1 : Int), .string x.2] 71) = W1 := ⟨_, rfl⟩
            rw [hW1] at hb0 n0 n1 hc1 f1 hbel ⊢
            go_region
            go_wp2
            obtain ⟨y, hy⟩ : ∃ y, x.2.extract 0 T ++ old.extract T old.size = y := ⟨_, rfl⟩
            rw [hy] at HT2 ⊢
            have m0 : (W1.setCell ⟨wr.heap.size, 1, none⟩ (.string y)).drew.cell? ⟨wr.heap.size, 0, none⟩ = some (.int .i64 (x.1 : Int)) := (World.cell?_setCell_other _ _ _ _ (by simp)).trans n0
            have m1 : (W1.setCell ⟨wr.heap.size, 1, none⟩ (.string y)).drew.cell? ⟨wr.heap.size, 1, none⟩ = some (.string y) := World.cell?_setCell_same _ _ _ n1
            have hbV : Below wr.heap.size wr (W1.setCell ⟨wr.heap.size, 1, none⟩ (.string y)).drew := (hbel.setCell (p := ⟨wr.heap.size, 1, none⟩) (Nat.le_refl _) _).drew
            clear hW1 hb0 hc1 HV n0 n1 f1 hbel hy
            obtain ⟨V, hV⟩ : ∃ V, (W1.setCell ⟨wr.heap.size, 1, none⟩ (.string y)).drew = V := ⟨_, rfl⟩
            rw [hV] at m0 m1 hbV ⊢
            have HV := Lib.hid (HI.out.2.below hbV)
            have hb0 := HV.out.five.c3
            have hfz := own_fz HV.out.sec (g := g1) rfl x.1
            have hc1 : ∃ v, V.cell? ⟨g1, x.1, none⟩ = some v := ⟨_, own_at HV.out.sec x.1 _ (getElem?_secs _ x.1 (by omega))⟩
            obtain ⟨v1, hc1⟩ := hc1
            have HN := Lib.hid (HV.out.next x.1 y HD.out.rows.fs (HD.out.rows.ap g1 rfl))
            have HN2 : Hid ((V.setCell ⟨g1, x.1, none⟩ (.string y)).drew.ownsRow w.heap.size 71 2 (.slice (some ⟨g3, 0, none⟩) kept.length c3) kept.length (wcells kept)) := Lib.hid
              (own_block (own_block HI.out.1 fun j hj => hbV.block j (World.ownsRow.lt HI.out.1 j hj).2) fun j hj => Below.heap_setCell _ _ _ _ (by rintro rfl; have := (World.ownsRow.lt HI.out.1 _ hj).1; omega)).drew
            go_region
            go_wp2
            go_roundw
            case measure => simp [intOf]; omega
            case rel => exact ⟨k + 1, by omega, by go_num, Lib.hid ⟨HN2.out, by rw [HT2.out]; exact HN.out⟩⟩
          · have HT2 : Hid (crashTo s.sec kept tear (k + 1) = L.set x.1 x.2) := Lib.hid (by
              rw [HT.out]
              split
              · congr 1; unfold tornD; rw [if_neg (by omega)]
              · rfl)
            clear HT
            have HV := Lib.hid (HI.out.2.below hbel)
            have hb0 := HV.out.five.c3
            have hfz := own_fz HV.out.sec (g := g1) rfl x.1
            have hc1 := own_at HV.out.sec x.1 _ (getElem?_secs _ x.1 hx1)
            have HN := Lib.hid (HV.out.next x.1 x.2 HD.out.rows.fs (HD.out.rows.ap g1 rfl))
            have HN2 : Hid (((wr.alloc (.cells #[.int .i64 (x.1 : Int), .string x.2] 71)).setCell ⟨g1, x.1, none⟩ (.string x.2)).drew.ownsRow w.heap.size 71 2 (.slice (some ⟨g3, 0, none⟩) kept.length c3) kept.length (wcells kept)) := Lib.hid
              (own_block (own_block HI.out.1 fun j hj => hbel.block j (World.ownsRow.lt HI.out.1 j hj).2) fun j hj => Below.heap_setCell _ _ _ _ (by rintro rfl; have := (World.ownsRow.lt HI.out.1 _ hj).1; omega)).drew
            rcases (show k + 1 < kept.length ∨ (k + 1 = kept.length ∧ tear ≤ 0) ∨ (k + 1 = kept.length ∧ 0 < tear ∧ 128 ≤ tear) by omega) with h1 | ⟨h1, h2⟩ | ⟨h1, h2, h3⟩
            · have h1I : ¬ ((k : Int) = (kept.length : Int) - 1) := by omega
              have h1J : ((k : Int) == (kept.length : Int) - 1) = false := by simp; omega
              go_wp2
              have n0 : (wr.alloc (.cells #[.int .i64 (x.1 : Int), .string x.2] 71)).cell? ⟨wr.heap.size, 0, none⟩ = some (.int .i64 (x.1 : Int)) := by rw [World.cell?_alloc_new]; rfl
              have n1 : (wr.alloc (.cells #[.int .i64 (x.1 : Int), .string x.2] 71)).cell? ⟨wr.heap.size, 1, none⟩ = some (.string x.2) := by rw [World.cell?_alloc_new]; rfl
              obtain ⟨W1, hW1⟩ : ∃ W1, wr.alloc (.cells #[.int .i64 (x.1 : Int), .string x.2] 71) = W1 := ⟨_, rfl⟩
              rw [hW1] at hb0 n0 n1 hfz hc1 HN HN2 ⊢
              go_region
              go_wp2
              go_roundw
              case measure => simp [intOf]; omega
              case rel => exact ⟨k + 1, by omega, by go_num, Lib.hid ⟨HN2.out, by rw [HT2.out]; exact HN.out⟩⟩
            · have h1J : ((k : Int) == (kept.length : Int) - 1) = true := by simp; omega
              go_wp2
              have n0 : (wr.alloc (.cells #[.int .i64 (x.1 : Int), .string x.2] 71)).cell? ⟨wr.heap.size, 0, none⟩ = some (.int .i64 (x.1 : Int)) := by rw [World.cell?_alloc_new]; rfl
              have n1 : (wr.alloc (.cells #[.int .i64 (x.1 : Int), .string x.2] 71)).cell? ⟨wr.heap.size, 1, none⟩ = some (.string x.2) := by rw [World.cell?_alloc_new]; rfl
              obtain ⟨W1, hW1⟩ : ∃ W1, wr.alloc (.cells #[.int .i64 (x.1 : Int), .string x.2] 71) = W1 := ⟨_, rfl⟩
              rw [hW1] at hb0 n0 n1 hfz hc1 HN HN2 ⊢
              go_region
              go_wp2
              go_roundw
              case measure => simp [intOf]; omega
              case rel => exact ⟨k + 1, by omega, by go_num, Lib.hid ⟨HN2.out, by rw [HT2.out]; exact HN.out⟩⟩
            · have h1J : ((k : Int) == (kept.length : Int) - 1) = true := by simp; omega
              go_wp2
              have n0 : (wr.alloc (.cells #[.int .i64 (x.1 : Int), .string x.2] 71)).cell? ⟨wr.heap.size, 0, none⟩ = some (.int .i64 (x.1 : Int)) := by rw [World.cell?_alloc_new]; rfl
              have n1 : (wr.alloc (.cells #[.int .i64 (x.1 : Int), .string x.2] 71)).cell? ⟨wr.heap.size, 1, none⟩ = some (.string x.2) := by rw [World.cell?_alloc_new]; rfl
              obtain ⟨W1, hW1⟩ : ∃ W1, wr.alloc (.cells #[.int .i64 (x.1 : Int), .string x.2] 71) = W1 := ⟨_, rfl⟩
              rw [hW1] at hb0 n0 n1 hfz hc1 HN HN2 ⊢
              go_region
              go_wp2
              go_roundw
              case measure => simp [intOf]; omega
              case rel => exact ⟨k + 1, by omega, by go_num, Lib.hid ⟨HN2.out, by rw [HT2.out]; exact HN.out⟩⟩
        · obtain rfl : k = kept.length := by omega
          have c2' := HI.out.2.five.c2
          have c0' := HI.out.2.five.c0
          have c4' := HI.out.2.five.c4
          have f0 := HI.out.2.five.fz 0
          have f2 := HI.out.2.five.fz 2
          have f4 := HI.out.2.five.fz 4
          have HE := Lib.hid (((HI.out.2.five.s4 (.slice none 0 0)).s0 (.int .i64 0)).s2 (.bool false))
          have HT' := Lib.hid (((HI.out.2.tou.set (.inl (.inl rfl)) 4 (.slice none 0 0)).set (.inl (.inl rfl)) 0 (.int .i64 0)).set (.inl (.inl rfl)) 2 (.bool false))
          have HR' : Hid ((((wr.setCell ⟨b, 4, none⟩ (.slice none 0 0)).setCell ⟨b, 0, none⟩ (.int .i64 0)).setCell ⟨b, 2, none⟩ (.bool false)).ownsRow 0 9 1 (.slice (some ⟨g1, 0, none⟩) s.sec.length c1) s.sec.length ((s.crash keep tear).sec.map Value.string)) := Lib.hid (by
            have h0 := HI.out.2.sec
            rw [crashTo_all] at h0
            show World.ownsRow _ 0 _ 1 _ _ ((crashL s.sec (keptL s.waits keep) tear).map Value.string)
            rw [hkept]
            refine own_block h0 fun j hj => ?_
            have hjb : j ≠ b := by rintro rfl; exact HD.out.rows.fs hj
            rw [Below.heap_setCell _ _ _ _ hjb, Below.heap_setCell _ _ _ _ hjb, Below.heap_setCell _ _ _ _ hjb])
          go_wp2
          go_ret
          refine ⟨rfl, .slice (some ⟨g1, 0, none⟩) s.sec.length c1, .slice none 0 0, ⟨HE.out, ?_, World.ownsRow_nil _ _ _ _, HD.out.rows.fs, by simp [Value.ownBlock], fun k _ => by simp [Value.ownBlock]⟩, ?_, HT'.out⟩
          · rw [show (s.crash keep tear).sec.length = s.sec.length from crashL_length _ _ _]
            exact HR'.out
          · rintro k (hk | hk | hk)
            · exact .inl (.inl hk)
            · exact .inl (.inr (.inl hk))
            · simp [Value.ownBlock] at hk
