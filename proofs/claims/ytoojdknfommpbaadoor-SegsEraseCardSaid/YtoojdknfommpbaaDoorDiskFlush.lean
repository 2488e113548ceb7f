/- The walk of the disk's Flush. -/
import Derived.Test.YtoojdknfommpbaaDoorDiskOp
import Derived.Test.YtoojdknfommpbaaDoorDiskMore
import Derived.StillTailTactics
import Derived.RegionTactic
import Derived.ChangeAlike
namespace Go.Proofs.YtoojdknfommpbaaDoor
open Go.RowKit
set_option maxRecDepth 10000

theorem own_set {w : World} {base : Nat} {e : TypeId} {n : Nat} {v : Value} {xs : List Value} (h : w.ownsRow base e 1 v n xs) {g : Nat} (hg : v.ownBlock = some g) (i : Nat) (y : Value) : (w.setCell ⟨g, i, none⟩ y).ownsRow base e 1 v n (xs.set i y) := by
  obtain ⟨h1, h2⟩ := h
  refine ⟨by simpa using h1, ?_⟩
  rcases h2 with ⟨rfl, hn⟩ | ⟨g', cap, cur, rfl, hb, hh, hc, hm, hs, ht⟩
  · simp [Value.ownBlock] at hg
  · obtain rfl : g' = g := by simpa [Value.ownBlock] using hg
    refine .inr ⟨g', cap, cur.setIfInBounds i y, rfl, hb, ?_, hc, hm, by simpa using hs, ?_⟩
    · rw [Lib.heap_setCell_same hh]
    · rw [Array.toList_setIfInBounds, List.take_set, ht]
theorem own_fz {w : World} {base : Nat} {e : TypeId} {size n : Nat} {v : Value} {xs : List Value} (h : w.ownsRow base e size v n xs) {g : Nat} (hg : v.ownBlock = some g) (i : Nat) : w.frozen? ⟨g, i, none⟩ = false := by
  rcases h.2 with ⟨rfl, hn⟩ | ⟨g', cap, cur, rfl, hb, hh, hc, hm, hs, ht⟩
  · simp [Value.ownBlock] at hg
  · obtain rfl : g' = g := by simpa [Value.ownBlock] using hg
    unfold World.frozen?; rw [hh]; simp
theorem own_at {w : World} {base : Nat} {e : TypeId} {size n g c : Nat} {xs : List Value} (h : w.ownsRow base e size (.slice (some ⟨g, 0, none⟩) n c) n xs) (i : Nat) (y : Value) (hy : xs[i]? = some y) : w.cell? ⟨g, i, none⟩ = some y := by
  have hl : i < xs.length := (List.getElem?_eq_some_iff.1 hy).1
  rw [World.ownsRow.cellAt h i (by rw [← h.1]; exact hl), hy]
theorem getElem?_secs (l : List ByteArray) (i : Nat) (h : i < l.length) : (l.map Value.string)[i]? = some (.string l[i]) := by rw [List.getElem?_map, List.getElem?_eq_getElem h]; rfl
theorem Five.alloc {t : TypeId} {w : World} {b : Nat} {x0 x1 x2 x3 x4 : Value} (h : Five t w b x0 x1 x2 x3 x4) (o : Obj) : Five t (w.alloc o) b x0 x1 x2 x3 x4 := h.below (below_new w o)
/-- What the round of the flush's loop is at. -/
structure FlushAt (w W : World) (b : Nat) (s : St) (sv wv : Value) (k : Nat) : Prop where
  five : Five 117 W b (.int .i64 (s.left : Int)) (.int .i64 (s.done : Int)) (.bool s.dead) sv wv
  sec : W.ownsRow 0 9 1 sv s.sec.length ((applyW s.sec (s.waits.take k)).map Value.string)
  wai : W.ownsRow 0 119 2 wv s.waits.length (wcells s.waits)
  tou : Tou (Foot b sv wv) w W
theorem FlushAt.next {w W W1 : World} {b g1 c1 n k : Nat} {s : St} {wv : Value} (h : FlushAt w W b s (.slice (some ⟨g1, 0, none⟩) n c1) wv k) (hT : Below W.heap.size W W1) (x : Nat × ByteArray) (hk : k < s.waits.length) (hx : s.waits[k] = x)
    (hfs : (Value.slice (some ⟨g1, 0, none⟩) n c1).ownBlock ≠ some b) (hap : wv.ownBlock ≠ some g1) : FlushAt w (W1.setCell ⟨g1, x.1, none⟩ (.string x.2)).drew b s (.slice (some ⟨g1, 0, none⟩) n c1) wv (k + 1) := by
  have hb : b ≠ g1 := fun e => hfs (by subst e; rfl)
  have hs1 : W1.ownsRow 0 9 1 (.slice (some ⟨g1, 0, none⟩) n c1) s.sec.length ((applyW s.sec (s.waits.take k)).map Value.string) := own_block h.sec fun k hk => hT.block k (World.ownsRow.lt h.sec k hk).2
  have hw1 : W1.ownsRow 0 119 2 wv s.waits.length (wcells s.waits) := own_block h.wai fun k hk => hT.block k (World.ownsRow.lt h.wai k hk).2
  refine ⟨?_, ?_, ?_, ?_⟩
  · exact (h.five.below hT).block (Below.heap_setCell _ _ _ _ hb)
  · rw [take_succ' _ _ hk, hx, applyW_snoc, List.map_set]
    exact (own_set hs1 rfl x.1 _).drew
  · exact (own_block hw1 fun k hk => Below.heap_setCell _ _ _ _ (by rintro rfl; exact hap hk)).drew
  · exact ((h.tou.trans ((tou_of_below hT).mono fun k _ hk => hk)).set (.inl (.inr (.inl rfl))) x.1 (.string x.2)).drew 1
theorem flush_any (w : World) (b : Nat) (s : St) (sv wv : Value) (h : DiskAt w b s sv wv) (hok : s.ok 1000000) (hleft : s.left ≤ 9223372036854775807) :
    Calls Tryd.prog 45 #[.pointer (some ⟨b, 0, none⟩)] w fun e w' => e = .returned (.int .i64 s.flush.2) ∧ DStep w b sv wv s.flush.1 w' := by
  have hlen : s.sec.length ≤ 512 := hok.most
  have hlen2 : 2 ≤ s.sec.length := hok.two
  have hf := h.five
  obtain ⟨g1, c1, rfl, _, hg1⟩ := World.ownsRow.form h.rows.sec (by omega)
  have G := Lib.hid (goes_any _ w b _ _ _ s.dead _ s.sec.length c1 hf (by omega))
  rw [show goesE s.sec.length s.dead = if s.dead = true then 13 else 0 by unfold goesE; rw [if_neg (by omega)]] at G
  have HS := Lib.hid h.same
  have HD := Lib.hid h
  have HW : Hid (∃ r : St × Int, r = s.flush) := Lib.hid ⟨_, rfl⟩
  obtain ⟨r, hr⟩ := HW.out
  rw [← hr]
  unfold St.flush at hr
  clear HW h
  by_cases hd : s.dead = true
  · rw [if_pos hd] at hr G
    subst hr
    go_enter Tryd.func45, Tryd.ntmps45
    go_wp2_with (go_at_call 90; (with_reducible refine G.out.mono ?_); rintro e w' ⟨rfl, rfl⟩)
    go_ret
    exact ⟨rfl, HS.out⟩
  · rw [if_neg hd] at hr G
    have hd' : s.dead = false := by simpa using hd
    have hop : s.op.dead = decide (s.left = 1) := by unfold St.op; rw [hd']; simp
    rw [hop] at hr
    rw [hd'] at hf
    have hdone := hok.ops
    have hfew := hok.few
    have HB := Lib.hid (burns_any _ w b s.left s.done _ wv hf hleft hdone)
    clear hf
    by_cases hl1 : s.left = 1
    · rw [decide_eq_true hl1] at hr HB
      rw [if_pos rfl] at hr
      subst hr
      go_enter Tryd.func45, Tryd.ntmps45
      go_wp2_with (first | (go_at_call 90; (with_reducible refine G.out.mono ?_); rintro e w' ⟨rfl, rfl⟩) | (go_at_call 91; (with_reducible refine HB.out.mono ?_); rintro e w2 ⟨rfl, hf2, ht2⟩))
      go_ret
      exact ⟨rfl, _, wv, ⟨by unfold St.op; rw [hl1, hd'] at *; exact hf2, (HD.out.rows.five ht2).of_eq rfl rfl⟩, fun _ hk => .inl hk, ht2.mono fun k _ hk => .inl hk⟩
    · rw [decide_eq_false hl1] at hr HB
      rw [if_neg (by decide)] at hr
      subst hr
      obtain ⟨A2, c2, rfl, hc2⟩ := sl_form HD.out.rows.wai
      have hwI : (s.waits.length : Int) ≤ 1000000 := by omega
      go_enter Tryd.func45, Tryd.ntmps45
      go_wp2_with (first | (go_at_call 90; (with_reducible refine G.out.mono ?_); rintro e w' ⟨rfl, rfl⟩) | (go_at_call 91; (with_reducible refine HB.out.mono ?_); rintro e w2 ⟨rfl, hf2, ht2⟩; have c22 := hf2.c4))
      go_loopw [25] (fun i W => ∃ k : Nat, k ≤ s.waits.length ∧ i = .int .i64 k ∧ Hid (FlushAt w W b { s.op with waits := s.waits } (.slice (some ⟨g1, 0, none⟩) s.sec.length c1) (.slice A2 s.waits.length c2) k)) (fun i _ => s.waits.length - (intOf i).toNat)
      case atStart =>
        have hr2 := HD.out.rows.five ht2
        exact ⟨0, by omega, rfl, Lib.hid ⟨by unfold St.op; simpa [hd', hl1] using hf2, hr2.sec, hr2.wai, ht2.mono fun k _ hk => .inl hk⟩⟩
      case round =>
        obtain ⟨k, hk, rfl, HI⟩ := hrel
        by_cases hlt : k < s.waits.length
        · obtain ⟨g2, rfl⟩ : ∃ g2, A2 = some ⟨g2, 0, none⟩ := by
            obtain ⟨g, c, he, _⟩ := World.ownsRow.form HI.out.wai (by show 0 < s.waits.length; omega)
            simp only [Value.slice.injEq] at he
            exact ⟨g, he.1⟩
          have hw2 := HI.out.wai
          have q0 := own_at hw2 (k * 2) _ (by rw [Nat.mul_comm]; exact (wcells_at s.waits k hlt).1)
          have q1 := own_at hw2 (k * 2 + 1) _ (by rw [Nat.mul_comm]; exact (wcells_at s.waits k hlt).2)
          have hkI : (k : Int) < (s.waits.length : Int) := by omega
          have hx := hok.fits _ (List.getElem_mem hlt)
          obtain ⟨x, hxe⟩ : ∃ x, s.waits[k] = x := ⟨_, rfl⟩
          have HN := Lib.hid (HI.out.next (below_new wr (.cells #[.int .i64 (x.1 : Int), .string x.2] 119)) x hlt hxe HD.out.rows.fs (HD.out.rows.ap g1 rfl))
          rw [hxe] at q0 q1 hx
          clear hxe
          have hsz := HI.out.tou.size
          have hb0 := (HI.out.five.alloc (.cells #[.int .i64 (x.1 : Int), .string x.2] 119)).c3
          have hfz := (own_fz HI.out.sec (g := g1) rfl x.1)
          have hxI : (x.1 : Int) < (s.sec.length : Int) := by omega
          go_wp2
          have n0 : (wr.alloc (.cells #[.int .i64 (x.1 : Int), .string x.2] 119)).cell? ⟨wr.heap.size, 0, none⟩ = some (.int .i64 (x.1 : Int)) := by rw [World.cell?_alloc_new]; rfl
          have n1 : (wr.alloc (.cells #[.int .i64 (x.1 : Int), .string x.2] 119)).cell? ⟨wr.heap.size, 1, none⟩ = some (.string x.2) := by rw [World.cell?_alloc_new]; rfl
          rw [← frozen?_alloc_cells wr #[.int .i64 (x.1 : Int), .string x.2] 119] at hfz
          have hc1 := own_at (HI.out.sec.alloc (.cells #[.int .i64 (x.1 : Int), .string x.2] 119)) x.1 _ (getElem?_secs _ x.1 (by rw [applyW_length]; exact hx.1))
          obtain ⟨W1, hW1⟩ : ∃ W1, wr.alloc (.cells #[.int .i64 (x.1 : Int), .string x.2] 119) = W1 := ⟨_, rfl⟩
          rw [hW1] at hb0 n0 n1 hfz hc1 HN ⊢
          go_region
          go_wp2
          go_roundw
          case measure => simp [intOf]; omega
          case rel => exact ⟨k + 1, by omega, by go_num, HN⟩
        · obtain rfl : k = s.waits.length := by omega
          have c4 := HI.out.five.c4
          have f4 := HI.out.five.fz 4
          go_wp2
          go_ret
          refine ⟨rfl, .slice (some ⟨g1, 0, none⟩) s.sec.length c1, .slice none 0 0, ⟨by have h5 := HI.out.five.s4 (.slice none 0 0); simp only [hop, decide_eq_false hl1] at h5; exact h5, ?_, World.ownsRow_nil _ _ _ _, HD.out.rows.fs, by simp [Value.ownBlock], fun k _ => by simp [Value.ownBlock]⟩, ?_, HI.out.tou.set (.inl (.inl rfl)) 4 _⟩
          · have hs := HI.out.sec
            rw [show ({ s.op with waits := s.waits } : St).waits = s.waits from rfl, List.take_length] at hs
            rw [show ({ left := s.op.left, done := s.op.done, dead := s.op.dead, sec := applyW s.sec s.waits, waits := [] } : St).sec.length = s.sec.length from applyW_length _ _]
            exact own_block hs fun k hk => Below.heap_setCell _ _ _ _ (by rintro rfl; exact HD.out.rows.fs hk)
          · rintro k (hk | hk | hk)
            · exact .inl (.inl hk)
            · exact .inl (.inr (.inl hk))
            · simp [Value.ownBlock] at hk
