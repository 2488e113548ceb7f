/- The walk of the disk's Read: a range over a function. -/
import Derived.Test.YtoojdknfommpbaaDoorDiskCopy
import Derived.RangeFuncFrom
import Derived.RangeFuncLeaves
import Derived.Shelf.Abstract
import Derived.WalkKit
import Derived.OwnWalkIn
import Derived.TacticsInMore
import Derived.LoopNIn
import Derived.LoopIn
namespace Go.Proofs.YtoojdknfommpbaaDoor
open Go.RowKit Go.Shelf
set_option maxRecDepth 10000
attribute [local go_sem] Oper.semAt_some

/-- The data of the writes of a place. -/
def wof (ws : List (Nat × ByteArray)) (at_ : Int) : List ByteArray := (ws.filter fun w => decide ((w.1 : Int) = at_)).map (·.2)
theorem wof_snoc (ws : List (Nat × ByteArray)) (at_ : Int) (k : Nat) (h : k < ws.length) : wof (ws.take (k + 1)) at_ = wof (ws.take k) at_ ++ if (ws[k].1 : Int) = at_ then [ws[k].2] else [] := by
  rw [take_succ' _ _ h]
  unfold wof
  rw [List.filter_append, List.map_append]
  congr 1
  by_cases e : (ws[k].1 : Int) = at_
  · simp [e]
  · simp [e]
theorem wof_take (ws : List (Nat × ByteArray)) (at_ : Int) (k : Nat) : wof (ws.take k) at_ <+: wof ws at_ := by
  refine ⟨wof (ws.drop k) at_, ?_⟩
  unfold wof
  rw [← List.map_append, ← List.filter_append, List.take_append_drop]
theorem wof_last (ws : List (Nat × ByteArray)) (at_ : Int) (init : ByteArray) : (wof ws at_).getLast?.getD init = lastD at_ init ws := by
  suffices h : ∀ ws init, (wof ws at_).foldl (fun _ w => w) init = lastD at_ init ws by
    rw [← h]
    generalize wof ws at_ = l
    induction l generalizing init with
    | nil => rfl
    | cons x l ih =>
      rw [List.foldl_cons, ← ih x]
      cases l with
      | nil => simp
      | cons y l => rw [List.getLast?_cons_cons, List.getLast?_eq_some_getLast (List.cons_ne_nil y l)]; rfl
  intro ws
  induction ws with
  | nil => intro init; rfl
  | cons w ws ih =>
    intro init
    unfold wof lastD at *
    by_cases e : (w.1 : Int) = at_
    · simp [e]; simpa using ih w.2
    · simp [e]; simpa using ih init
theorem wof_length (ws : List (Nat × ByteArray)) (at_ : Int) : (wof ws at_).length ≤ ws.length := by
  unfold wof; rw [List.length_map]; exact List.length_filter_le _ _

set_option maxHeartbeats 1000000 in
theorem of1_in (F : Fence) (n : Nat) (h96 : F.fn 117) (hro : F.round = none) (hn : 1 ≤ n) (l Bd Ba b : Nat) (T : Nat → Prop) (ws : List (Nat × ByteArray)) (at_ : Int) (wv : Value) (J Jx : List ByteArray → World → Prop)
    (hY : ∀ pre x W, J pre W → pre.length < ws.length → YieldAt F (n - 1) Tryd.prog l #[.string x] W fun e W' =>
      (e = .returned (.bool true) ∧ J (pre ++ [x]) W' ∧ Tou T W W') ∨ (e = .returned (.bool false) ∧ Jx (pre ++ [x]) W'))
    (W : World) (hBd : W.cell? ⟨Bd, 0, none⟩ = some (.pointer (some ⟨b, 0, none⟩))) (hBa : W.cell? ⟨Ba, 0, none⟩ = some (.int .i64 at_)) (h4 : W.cell? ⟨b, 4, none⟩ = some wv)
    (hw : W.ownsRow 0 119 2 wv ws.length (wcells ws)) (hlen : ws.length ≤ 1000000) (hTa : ¬ T Ba) (hTw : ∀ k, wv.ownBlock = some k → ¬ T k) (hJ : AbidesFrom W.heap.size J) (h0 : J [] W) :
    CallsIn F n Tryd.prog 117 #[.func (.yield l) #[] #[], .pointer (some ⟨Bd, 0, none⟩), .pointer (some ⟨Ba, 0, none⟩)] W fun e W' => (∃ v, e = .returned v) ∧
      ((∃ ys, ys = wof ws at_ ∧ J ys W') ∨ (∃ pre, pre <+: wof ws at_ ∧ Jx pre W')) := by
  have hltBa := block_lt hBa
  obtain ⟨A2, c2, rfl, _⟩ := sl_form hw
  have hwI : (ws.length : Int) ≤ 1000000 := by omega
  have HW := Lib.hid hw
  have HY := Lib.hid hY
  have HJ := Lib.hid hJ
  clear hw hY hJ
  refine callsIn_of_wp Tryd.func117 rfl h96 ?_ hro
  simp only [Tryd.ntmps117, List.size_toArray, List.length_cons, List.length_nil, Nat.reduceAdd, Nat.reduceSub, Array.replicate_succ, Array.replicate_zero, List.push_toArray, List.append_toArray, List.nil_append, List.cons_append]
  gi_wp2
  gi_loopw [11] (fun i wr => ∃ k : Nat, k ≤ ws.length ∧ i = .int .i64 k ∧ J (wof (ws.take k) at_) wr ∧ Hid (Tou T W wr)) (fun i _ => ws.length - (intOf i).toNat)
  case atStart =>
    exact ⟨0, by omega, rfl, h0, Lib.hid (Tou.refl _ _)⟩
  case round =>
    obtain ⟨k, hk, rfl, hJs, HT⟩ := hrel
    by_cases hlt : k < ws.length
    · obtain ⟨g2, rfl⟩ : ∃ g2, A2 = some ⟨g2, 0, none⟩ := by
        obtain ⟨g, c, he, _⟩ := World.ownsRow.form HW.out (by omega)
        simp only [Value.slice.injEq] at he
        exact ⟨g, he.1⟩
      have hw2 := own_block HW.out fun j hj => HT.out.block j (World.ownsRow.lt HW.out j hj).2 (hTw j hj)
      have q0 := own_at hw2 (k * 2) _ (by rw [Nat.mul_comm]; exact (wcells_at ws k hlt).1)
      have q1 := own_at hw2 (k * 2 + 1) _ (by rw [Nat.mul_comm]; exact (wcells_at ws k hlt).2)
      have hkI : (k : Int) < (ws.length : Int) := by omega
      have HS := Lib.hid (wof_snoc ws at_ k hlt)
      have HTr := wof_length (ws.take k) at_
      clear hw2
      obtain ⟨x, hxe⟩ : ∃ x, ws[k] = x := ⟨_, rfl⟩
      rw [hxe] at q0 q1 HS
      clear hxe
      have hJa : J (wof (ws.take k) at_) (wr.alloc (.cells #[.int .i64 (x.1 : Int), .string x.2] 119)) := HJ.out _ _ _ none hJs (World.grownBy_alloc wr _ none) (fun r e => by cases e)
      have hba : (wr.alloc (.cells #[.int .i64 (x.1 : Int), .string x.2] 119)).cell? ⟨Ba, 0, none⟩ = some (.int .i64 at_) :=
        (World.cell?_of_block (a := ⟨Ba, 0, none⟩) ((HT.out.alloc _).block Ba hltBa hTa)).trans hBa
      have n0 : (wr.alloc (.cells #[.int .i64 (x.1 : Int), .string x.2] 119)).cell? ⟨wr.heap.size, 0, none⟩ = some (.int .i64 (x.1 : Int)) := by rw [World.cell?_alloc_new]; rfl
      have n1 : (wr.alloc (.cells #[.int .i64 (x.1 : Int), .string x.2] 119)).cell? ⟨wr.heap.size, 1, none⟩ = some (.string x.2) := by rw [World.cell?_alloc_new]; rfl
      by_cases he : (x.1 : Int) = at_
      · obtain ⟨fn, tmps, assign, body, hy, hR⟩ := HY.out _ x.2 _ hJa (by rw [List.length_take] at HTr; omega)
        have HSS : Hid (wof (ws.take (k + 1)) at_ = wof (ws.take k) at_ ++ [x.2]) := Lib.hid (by rw [HS.out, if_pos he])
        have HPre := Lib.hid (wof_take ws at_ (k + 1))
        clear HTr HS
        subst he
        gi_wp2
        refine hR.mono ?_
        rintro e W3 (⟨rfl, hJ3, hk3⟩ | ⟨rfl, hJx3⟩)
        · gi_wp2
          go_roundw
          case measure => simp [intOf]; omega
          case rel => exact ⟨k + 1, by omega, by go_num, by rw [HSS.out]; exact hJ3, Lib.hid ((HT.out.alloc _).trans hk3)⟩
        · gi_wp2
          refine bodyPost_ret (results_none rfl _ _ _) rfl ?_
          exact ⟨⟨_, rfl⟩, .inr ⟨_, HPre.out, by rw [HSS.out]; exact hJx3⟩⟩
      · have HSS : Hid (wof (ws.take (k + 1)) at_ = wof (ws.take k) at_) := Lib.hid (by rw [HS.out, if_neg he, List.append_nil])
        have heB : ((x.1 : Int) == at_) = false := by simpa using he
        gi_wp2
        refine ⟨fun _ h => (by cases h), ?_⟩
        gi_wp2
        go_roundw
        case measure => simp [intOf]; omega
        case rel => exact ⟨k + 1, by omega, by go_num, by rw [HSS.out]; exact hJa, Lib.hid (HT.out.alloc _)⟩
    · obtain rfl : k = ws.length := by omega
      rw [List.take_length] at hJs
      gi_wp2
      go_end0
      exact ⟨⟨_, rfl⟩, .inl ⟨_, rfl, hJs⟩⟩
theorem of_any (p : Option Addr) (at_ : Int) (w : World) : Calls Tryd.prog 96 #[.pointer p, .int .i64 at_] w fun e w' =>
    e = .returned (.func (.func 117) #[] #[.pointer (some ⟨w.heap.size, 0, none⟩), .pointer (some ⟨w.heap.size + 1, 0, none⟩)]) ∧ w' = (w.alloc (.cells #[.pointer p] 57)).alloc (.cells #[.int .i64 at_] 3) := by
  go_enter Tryd.func96, Tryd.ntmps96
  go_wp2
  go_ret
  exact ⟨rfl, rfl⟩
theorem dread_any (w : World) (b : Nat) (s : St) (sv wv : Value) (at_ : Int) (h : DiskAt w b s sv wv) (hok : s.ok 1000000) (ha0 : -9223372036854775808 ≤ at_) (ha1 : at_ ≤ 9223372036854775807) :
    Calls Tryd.prog 47 #[.pointer (some ⟨b, 0, none⟩), .int .i64 at_] w fun e w' => e = .returned (.tuple #[.string (s.read at_).1, .int .i64 (s.read at_).2]) ∧ Below w.heap.size w w' := by
  have hlen : s.sec.length ≤ 512 := hok.most
  have hlen2 : 2 ≤ s.sec.length := hok.two
  obtain ⟨g1, c1, rfl, _, hg1⟩ := World.ownsRow.form h.rows.sec (by omega)
  have G := Lib.hid (goes_any _ w b _ _ _ s.dead _ s.sec.length c1 h.five (by omega))
  rw [show goesE s.sec.length s.dead = if s.dead = true then 13 else 0 by unfold goesE; rw [if_neg (by omega)]] at G
  have HD := Lib.hid h
  have c3 := h.five.c3
  have hsI : (s.sec.length : Int) ≤ 512 := by omega
  have HW : Hid (∃ r : ByteArray × Int, r = s.read at_) := Lib.hid ⟨_, rfl⟩
  obtain ⟨r, hr⟩ := HW.out
  rw [← hr]
  unfold St.read at hr
  clear HW h
  by_cases hd : s.dead = true
  · rw [if_pos hd] at hr G
    subst hr
    go_enter Tryd.func47, Tryd.ntmps47
    go_wp2_with (go_at_call 90; (with_reducible refine G.out.mono ?_); rintro e w' ⟨rfl, rfl⟩)
    go_ret2
    exact ⟨rfl, Below.refl _ _⟩
  · rw [if_neg hd] at hr G
    have hd' : s.dead = false := by simpa using hd
    by_cases hr1 : at_ < 0
    · rw [if_pos (.inl hr1)] at hr
      subst hr
      go_enter Tryd.func47, Tryd.ntmps47
      go_wp2_with (go_at_call 90; (with_reducible refine G.out.mono ?_); rintro e w' ⟨rfl, rfl⟩)
      go_ret2
      exact ⟨rfl, Below.refl _ _⟩
    · by_cases hr2 : (s.sec.length : Int) ≤ at_
      · rw [if_pos (.inr hr2)] at hr
        subst hr
        go_enter Tryd.func47, Tryd.ntmps47
        go_wp2_with (go_at_call 90; (with_reducible refine G.out.mono ?_); rintro e w' ⟨rfl, rfl⟩)
        go_ret2
        exact ⟨rfl, Below.refl _ _⟩
      · rw [if_neg (by omega)] at hr
        have hr3 : 0 ≤ at_ := by omega
        have hr4 : at_ < (s.sec.length : Int) := by omega
        obtain ⟨a, rfl⟩ : ∃ a : Nat, at_ = a := ⟨at_.toNat, by omega⟩
        have haL : a < s.sec.length := by omega
        have hcs := own_at HD.out.rows.sec a _ (getElem?_secs _ a haL)
        rw [Int.toNat_natCast, List.getD_eq_getElem?_getD, List.getElem?_eq_getElem haL] at hr
        obtain ⟨s0, hs0⟩ : ∃ s0, s.sec[a] = s0 := ⟨_, rfl⟩
        rw [hs0] at hr hcs
        clear hs0
        have HR := Lib.hid hr
        have hwf := hok.few
        refine (callsIn_wide (n := 8)).1 ?_
        refine callsIn_of_wp_marks Tryd.func47 rfl trivial ?_ rfl
        simp only [Tryd.ntmps47, List.size_toArray, List.length_cons, List.length_nil, Nat.reduceAdd, Nat.reduceSub, Array.replicate_succ, Array.replicate_zero, List.push_toArray, List.append_toArray, List.nil_append, List.cons_append]
        clear hr
        gi_wp2_with (first | (refine ⟨trivial, ?_⟩; gi_at_call 90; (with_reducible refine (callsIn_wide.2 G.out).mono ?_); rintro e w' ⟨rfl, rfl⟩) | (refine ⟨trivial, ?_⟩; gi_at_call 96; (with_reducible refine (callsIn_wide.2 (of_any _ _ _)).mono ?_); rintro e w' ⟨rfl, rfl⟩))
        have HD5 : Hid (∀ W, Below w.heap.size w W → W.cell? ⟨b, 4, none⟩ = some wv ∧ W.ownsRow 0 119 2 wv s.waits.length (wcells s.waits)) := Lib.hid fun W hW =>
          ⟨cell_below hW HD.out.five.c4, own_block HD.out.rows.wai fun k hk => hW.block k (HD.out.rows.lt k (.inr hk))⟩
        have HB0 : Hid (Below w.heap.size w (((w.alloc (.cells #[.string s0] 9)).alloc (.cells #[.pointer (some ⟨b, 0, none⟩)] 57)).alloc (.cells #[.int .i64 (a : Int)] 3))) := Lib.hid (below_alloc (below_alloc (below_alloc (Below.refl _ _) _) _) _)
        have hx0 : (((w.alloc (.cells #[.string s0] 9)).alloc (.cells #[.pointer (some ⟨b, 0, none⟩)] 57)).alloc (.cells #[.int .i64 (a : Int)] 3)).heap[w.heap.size]? = some (.cells #[.string s0] 9 (0, 0)) :=
          ((below_new _ _).block _ (by simp; omega)).trans (((below_new _ _).block _ (by simp)).trans (World.alloc_heap_new w _))
        have hx1 : (((w.alloc (.cells #[.string s0] 9)).alloc (.cells #[.pointer (some ⟨b, 0, none⟩)] 57)).alloc (.cells #[.int .i64 (a : Int)] 3)).heap[w.heap.size + 1]? = some (.cells #[.pointer (some ⟨b, 0, none⟩)] 57 (0, 0)) := by
          have := World.alloc_heap_new (w.alloc (.cells #[.string s0] 9)) (.cells #[.pointer (some ⟨b, 0, none⟩)] 57)
          rw [World.size_alloc] at this
          exact ((below_new _ _).block _ (by simp)).trans this
        have hx2 : (((w.alloc (.cells #[.string s0] 9)).alloc (.cells #[.pointer (some ⟨b, 0, none⟩)] 57)).alloc (.cells #[.int .i64 (a : Int)] 3)).heap[w.heap.size + 1 + 1]? = some (.cells #[.int .i64 (a : Int)] 3 (0, 0)) := by
          have := World.alloc_heap_new ((w.alloc (.cells #[.string s0] 9)).alloc (.cells #[.pointer (some ⟨b, 0, none⟩)] 57)) (.cells #[.int .i64 (a : Int)] 3)
          rw [World.size_alloc, World.size_alloc] at this
          exact this
        have hsz3 : (((w.alloc (.cells #[.string s0] 9)).alloc (.cells #[.pointer (some ⟨b, 0, none⟩)] 57)).alloc (.cells #[.int .i64 (a : Int)] 3)).heap.size = w.heap.size + 3 := by simp
        obtain ⟨W3, hW3⟩ : ∃ W3, ((w.alloc (.cells #[.string s0] 9)).alloc (.cells #[.pointer (some ⟨b, 0, none⟩)] 57)).alloc (.cells #[.int .i64 (a : Int)] 3) = W3 := ⟨_, rfl⟩
        rw [hW3] at HB0 hx0 hx1 hx2 hsz3 ⊢
        clear hW3
        refine wpIn_rangeFunc_ownF (encs := fun x : ByteArray => #[.string x]) (Kp := Tou fun k => k = w.heap.size ∨ W3.heap.size ≤ k) (S := fun ys => ys = wof s.waits a) (Sp := fun pre => pre <+: wof s.waits a) (N := s.waits.length) (w0 := W3)
          rfl (by omega) (gf := 117) (lb := #[.pointer (some ⟨w.heap.size + 1, 0, none⟩), .pointer (some ⟨w.heap.size + 1 + 1, 0, none⟩)]) rfl trivial (enters_of Tryd.func117 (by kernel_rfl) rfl)
          (fun l J Jx W hW hJ _ hY h0 => of1_in Fence.wide 7 trivial rfl (by omega) l (w.heap.size + 1) (w.heap.size + 1 + 1) b _ s.waits a wv J Jx hY W
            ((World.cell?_of_block (a := ⟨w.heap.size + 1, 0, none⟩) (hW.block (w.heap.size + 1) (by omega))).trans (by unfold World.cell?; rw [hx1]; rfl))
            ((World.cell?_of_block (a := ⟨w.heap.size + 1 + 1, 0, none⟩) (hW.block (w.heap.size + 1 + 1) (by omega))).trans (by unfold World.cell?; rw [hx2]; rfl))
            (HD5.out W (HB0.out.trans (hW.mono (by omega)))).1 (HD5.out W (HB0.out.trans (hW.mono (by omega)))).2 hwf (by omega)
            (fun k hk => by have := HD.out.rows.lt k (.inr hk); omega) hJ h0)
          (fun h k => h.trans k) (fun W l o o' hl h ho hw => ?hKb) (Below.refl _ _) (fun _ => rfl)
          (fun pre W => (W.cell? ⟨w.heap.size, 0, none⟩ = some (.string (pre.getLast?.getD s0)) ∧ W.frozen? ⟨w.heap.size, 0, none⟩ = false) ∧ Below w.heap.size w W)
          (fun _ _ _ => False)
          (OwnFrom.and (Own.from (fun s A B row hs hg hr => ⟨cell_kept hs.1 hg hr, (frozen_kept hs.1 hg hr).trans hs.2⟩) _) (ownFrom_below (Nat.le_refl _) (by omega)))
          (fun _ _ _ _ _ hs _ _ => hs)
          ⟨⟨by unfold World.cell?; rw [hx0]; rfl, by unfold World.frozen?; rw [hx0]; simp⟩, HB0.out⟩
          (fun x => { tmps := #[Value.pointer (some { block := b, off := 0 }), Value.int IntKind.i64 ↑a, undef, undef,
        Value.string { data := #[] }, Value.int IntKind.i64 0, Value.int IntKind.i64 0,
        Value.pointer (some { block := w.heap.size, off := 0 }), .string x, Value.pointer (some { block := b, off := 0 }),
        Value.int IntKind.i64 0, Value.int IntKind.i64 0, Value.bool false, undef, Value.int IntKind.i64 ↑a,
        Value.bool (decide ((a : Int) < 0)), Value.bool (decide ((a : Int) < 0)), Value.int IntKind.i64 ↑a,
        Value.pointer (some { block := b, off := 0 }), Value.pointer (some { block := b, off := 0 }),
        Value.pointer (some { block := b, off := 3 }), Value.slice (some { block := g1, off := 0 }) s.sec.length c1,
        Value.int IntKind.i64 ↑s.sec.length, Value.bool false, Value.bool (decide ((a : Int) < 0)),
        Value.pointer (some { block := b, off := 0 }), Value.pointer (some { block := b, off := 0 }),
        Value.pointer (some { block := b, off := 3 }), Value.slice (some { block := g1, off := 0 }) s.sec.length c1,
        Value.int IntKind.i64 ↑a, Value.pointer (some { block := g1, off := a }), Value.string s0,
        Value.pointer (some { block := b, off := 0 }), Value.int IntKind.i64 ↑a,
        Value.func (Fn.func 117) #[]
          #[Value.pointer (some { block := w.heap.size + 1, off := 0 }),
            Value.pointer (some { block := w.heap.size + 1 + 1, off := 0 })],
        .string x, undef, undef], defers := [] }) ?assign ?body ?done ?stop
        case hKb => exact ⟨rfl, rfl, rfl, (grownBy_putObj' W l o').size, fun k hk hF => (grownBy_putObj' W l o').block k hk fun e => hF (.inr (by cases e; omega))⟩
        case assign =>
          intro l x W K hK
          gi_wp2
          exact hK
        case body =>
          rintro l pre x W ⟨⟨hc, hf⟩, hB⟩ _
          gi_wp2
          refine ⟨KeepsOthers.setCell _ _ _, (Tou.refl _ W).set (.inl (.inl rfl)) 0 _, ⟨?_, by rw [World.frozen?_setCell]; exact hf⟩, hB.setCell (p := ⟨w.heap.size, 0, none⟩) (Nat.le_refl _) _⟩
          rw [List.getLast?_concat]
          exact World.cell?_setCell_same _ _ _ hc
        case done =>
          rintro D ys W hD rfl ⟨⟨hc, _⟩, hB⟩ hK
          gi_wp2
          refine ⟨by simp, .inl ⟨_, _, rfl, run_takeDeferred hK, ?_⟩⟩
          refine ⟨_, results_tmp2 rfl _ _ _, ?_, hB.trans (belowK_b (w := w) (Nat.le_refl _) W D _ _ (by omega) hK rfl rfl)⟩
          rw [HR.out, wof_last]; rfl
        case stop =>
          rintro D c pre W _ _ h _
          exact h.elim
end Go.Proofs.YtoojdknfommpbaaDoor
