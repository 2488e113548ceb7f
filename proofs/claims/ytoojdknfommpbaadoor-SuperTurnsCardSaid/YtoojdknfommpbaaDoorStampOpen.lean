/- The walk of stamp.Open. -/
import Derived.Test.YtoojdknfommpbaaDoorStampSealRef
import Derived.Handy
import Derived.Deep.CutRange
namespace Go.Proofs.YtoojdknfommpbaaDoor
open Go.RowKit
set_option maxRecDepth 10000

def openX (l : List UInt8) : Stp := if OpenOk l then stOf l else Stp.zero
def openS (l : List UInt8) : List UInt8 := if OpenOk l then bodyOf l else []
def openE (l : List UInt8) : Int := if OpenOk l then 0 else 12
/-- What Open says. -/
def OpenPost (w : World) (l : List UInt8) (e : Ending) (w' : World) : Prop :=
  e = .returned (.tuple #[(openX l).val, .string (mkS (openS l)), .int .i64 (openE l)]) ∧ Below w.heap.size w w'
theorem openPost_bad {w w' : World} {l : List UInt8} {e : Ending} (h : ¬ OpenOk l) (he : e = .returned (.tuple #[Stp.zero.val, .string (mkS []), .int .i64 12])) (hb : Below w.heap.size w w') : OpenPost w l e w' := by
  unfold OpenPost openX openS openE
  rw [if_neg h, if_neg h, if_neg h]; exact ⟨he, hb⟩
theorem openPost_ok {w w' : World} {l : List UInt8} {e : Ending} (h : OpenOk l) (he : e = .returned (.tuple #[(stOf l).val, .string (mkS (bodyOf l)), .int .i64 0])) (hb : Below w.heap.size w w') : OpenPost w l e w' := by
  unfold OpenPost openX openS openE
  rw [if_pos h, if_pos h, if_pos h]; exact ⟨he, hb⟩
theorem below_set3 {B : Nat} {w W : World} (h : Below B w W) {b : Nat} (hb : B ≤ b) (x y z : Value) : Below B w (((W.setCell ⟨b, 0, none⟩ x).setCell ⟨b, 1, none⟩ y).setCell ⟨b, 2, none⟩ z) :=
  ((h.setCell hb _).setCell hb _).setCell hb _
theorem after3 {W : World} {b : Nat} {x y z : Value} {T : TypeId} (h : W.heap[b]? = some (.cells #[x, y, z] T (0, 0))) (x' y' z' : Value) :
    (((W.setCell ⟨b, 0, none⟩ x').setCell ⟨b, 1, none⟩ y').setCell ⟨b, 2, none⟩ z').heap[b]? = some (.cells #[x', y', z'] T (0, 0)) := by
  have h1 := Lib.heap_setCell_same (i := 0) h x'
  have h2 := Lib.heap_setCell_same (i := 1) h1 y'
  have h3 := Lib.heap_setCell_same (i := 2) h2 z'
  rw [h3]; rfl
theorem far3 {W : World} {b r : Nat} (h : r ≠ b) (x y z : Value) : (((W.setCell ⟨b, 0, none⟩ x).setCell ⟨b, 1, none⟩ y).setCell ⟨b, 2, none⟩ z).heap[r]? = W.heap[r]? := by
  rw [Below.heap_setCell _ _ _ _ h, Below.heap_setCell _ _ _ _ h, Below.heap_setCell _ _ _ _ h]
theorem cells3 {W : World} {b : Nat} {x y z : Value} {T : TypeId} (h : W.heap[b]? = some (.cells #[x, y, z] T (0, 0))) :
    W.cell? ⟨b, 0, none⟩ = some x ∧ W.cell? ⟨b, 1, none⟩ = some y ∧ W.cell? ⟨b, 2, none⟩ = some z := by
  unfold World.cell?; rw [h]; exact ⟨rfl, rfl, rfl⟩
theorem free3 {W : World} {b : Nat} {x y z : Value} {T : TypeId} (h : W.heap[b]? = some (.cells #[x, y, z] T (0, 0))) :
    W.frozen? ⟨b, 0, none⟩ = false ∧ W.frozen? ⟨b, 1, none⟩ = false ∧ W.frozen? ⟨b, 2, none⟩ = false := by
  unfold World.frozen?; rw [h]; exact ⟨rfl, rfl, rfl⟩
theorem blk_after {X W' : World} {o : Obj} (h : Below (X.alloc o).heap.size (X.alloc o) W') : W'.heap[X.heap.size]? = some o :=
  (h.block _ (by show X.heap.size < (X.heap.push o).size; simp)).trans (by show (X.heap.push o)[X.heap.size]? = _; simp)
theorem below_drew {w W : World} {n : Nat} (h : Below (w.drewN n).heap.size (w.drewN n) W) : Below w.heap.size w W := ⟨h.os, h.tape, h.output, h.size, h.block⟩
theorem blk_after_drew {X W' : World} {o : Obj} (h : Below (X.alloc o).drew.heap.size (X.alloc o).drew W') : W'.heap[X.heap.size]? = some o := blk_after (X := X) (below_drew1 h)
theorem blk_keep {W W' : World} {b : Nat} {o : Obj} (z : W.heap[b]? = some o) (h : Below W.heap.size W W') : W'.heap[b]? = some o :=
  (h.block _ (Array.getElem?_eq_some_iff.1 z).1).trans z
/-- The result's own cells, not yet written. -/
def OS (w W : World) : Prop := W.heap[w.heap.size]? = some (.cells #[.int .i64 0, .int .i64 0, .int .i64 0] 23 (0, 0)) ∧ Below w.heap.size w W
theorem OS.below {w W W' : World} (h : OS w W) (hb : Below W.heap.size W W') : OS w W' := ⟨blk_keep h.1 hb, below_next h.2 hb⟩
theorem OS.lt {w W : World} (h : OS w W) : w.heap.size < W.heap.size := (Array.getElem?_eq_some_iff.1 h.1).1
theorem OS.set {w W : World} (h : OS w W) {b : Nat} (hb : w.heap.size < b) (x y z : Value) : OS w (((W.setCell ⟨b, 0, none⟩ x).setCell ⟨b, 1, none⟩ y).setCell ⟨b, 2, none⟩ z) :=
  ⟨(far3 (by omega) _ _ _).trans h.1, below_set3 h.2 (by omega) _ _ _⟩
/-- The result's own cells and a box with a stamp. -/
def OB (w : World) (b : Nat) (x y z : Int) (W : World) : Prop := W.heap[b]? = some (.cells #[.int .i64 x, .int .i64 y, .int .i64 z] 23 (0, 0)) ∧ OS w W
theorem OB.below {w W W' : World} {b : Nat} {x y z : Int} (h : OB w b x y z W) (hb : Below W.heap.size W W') : OB w b x y z W' := ⟨blk_keep h.1 hb, h.2.below hb⟩
theorem OB.os {w W : World} {b : Nat} {x y z : Int} (h : OB w b x y z W) : OS w W := h.2
theorem OB.facts {w W : World} {b : Nat} {x y z : Int} (h : OB w b x y z W) :
    (W.cell? ⟨b, 0, none⟩ = some (.int .i64 x) ∧ W.cell? ⟨b, 1, none⟩ = some (.int .i64 y) ∧ W.cell? ⟨b, 2, none⟩ = some (.int .i64 z)) ∧
    (W.cell? ⟨w.heap.size, 0, none⟩ = some (.int .i64 0) ∧ W.cell? ⟨w.heap.size, 1, none⟩ = some (.int .i64 0) ∧ W.cell? ⟨w.heap.size, 2, none⟩ = some (.int .i64 0)) ∧
    (W.frozen? ⟨w.heap.size, 0, none⟩ = false ∧ W.frozen? ⟨w.heap.size, 1, none⟩ = false ∧ W.frozen? ⟨w.heap.size, 2, none⟩ = false) := ⟨cells3 h.1, cells3 h.2.1, free3 h.2.1⟩

theorem open_bad (l : List UInt8) (w : World) (hbad : ¬ l.length = 128 ∨ ¬ l.take 8 = l.drop 120) :
    Calls Tryd.prog 20 #[.string (mkS l)] w fun e w' => e = .returned (.tuple #[Stp.zero.val, .string (mkS []), .int .i64 12]) ∧ Below w.heap.size w w' := by
  obtain ⟨S0, hS0⟩ : ∃ S0, mkS l = S0 := ⟨_, rfl⟩
  have HS0 := Lib.hid hS0
  have hz : S0.size = l.length := by rw [← hS0, mkS_size]
  rw [hS0]; clear hS0
  have hb0 := Lib.hid (below_new w (.cells #[.int .i64 0, .int .i64 0, .int .i64 0] 23))
  by_cases h128 : l.length = 128
  · have h1 : (S0.size : Int) = 128 := by omega
    have hf : ∀ W : World, (Instr.slice 9 (.string S0) none (some (.int .i64 8)) none).run Tryd.prog W = .ok (.string (mkS (l.take 8))) W := fun W => by
      rw [run_slice_string_h W 9 S0 Tryd.underlying9 .i64 8 (by omega) (by omega), ← HS0.out, mkS_extract]; rfl
    have ho : ∀ W : World, (Instr.slice 9 (.string S0) (some (.int .i64 120)) none none).run Tryd.prog W = .ok (.string (mkS (l.drop 120))) W := fun W => by
      rw [run_slice_string_l W 9 S0 Tryd.underlying9 .i64 120 (by omega) (by omega), ← HS0.out, mkS_extract, mkS_size, List.take_length]; rfl
    have hne := str_ne (a := mkS (l.take 8)) (b := mkS (l.drop 120)) (fun e => by
      rcases hbad with h | h
      · exact h h128
      · exact h (by rw [← bl_mkS (l.take 8), e, bl_mkS]))
    generalize mkS (l.take 8) = A at *
    generalize mkS (l.drop 120) = B at *
    clear hbad hz h128
    go_enter Tryd.func20, Tryd.ntmps20
    go_wp2
    go_quiet (fail)
    go_wp2
    go_returns
    exact ⟨rfl, below_set3 (below_drewN hb0.out _) (Nat.le_refl _) _ _ _⟩
  · have h1 : (((S0.size : Int)) != 128) = true := by simp; omega
    clear hbad hz h128
    go_enter Tryd.func20, Tryd.ntmps20
    go_wp2
    go_quiet (fail)
    go_wp2
    go_returns
    exact ⟨rfl, below_set3 (below_drewN hb0.out _) (Nat.le_refl _) _ _ _⟩
set_option maxHeartbeats 4000000 in
theorem open_any (l : List UInt8) (w : World) : Calls Tryd.prog 20 #[.string (mkS l)] w (OpenPost w l) := by
  by_cases h128 : l.length = 128
  case neg => exact (open_bad l w (.inl h128)).mono fun e w' ⟨he, hb⟩ => openPost_bad (fun h => h128 h.1) he hb
  have hiff := openOk_iff h128
  by_cases hmk : l.take 8 = l.drop 120
  case neg => exact (open_bad l w (.inr hmk)).mono fun e w' ⟨he, hb⟩ => openPost_bad (fun h => hmk (hiff.1 h).1) he hb
  obtain ⟨S0, hS0⟩ : ∃ S0, mkS l = S0 := ⟨_, rfl⟩
  have HS0 := Lib.hid hS0
  have hz : S0.size = 128 := by rw [← hS0, mkS_size]; exact h128
  rw [hS0]; clear hS0
  have h1 : (S0.size : Int) = 128 := by omega
  have hf : ∀ W : World, (Instr.slice 9 (.string S0) none (some (.int .i64 8)) none).run Tryd.prog W = .ok (.string (mkS (l.take 8))) W := fun W => by
    rw [run_slice_string_h W 9 S0 Tryd.underlying9 .i64 8 (by omega) (by omega), ← HS0.out, mkS_extract]; rfl
  have ho : ∀ W : World, (Instr.slice 9 (.string S0) (some (.int .i64 120)) none none).run Tryd.prog W = .ok (.string (mkS (l.take 8))) W := fun W => by
    rw [run_slice_string_l W 9 S0 Tryd.underlying9 .i64 120 (by omega) (by omega), ← HS0.out, mkS_extract, mkS_size, List.take_length, hmk]; rfl
  generalize mkS (l.take 8) = A8 at *
  have mid : ∀ (a b : Nat), a ≤ b → b ≤ 128 → ∀ W : World, (Instr.slice 9 (.string S0) (some (.int .i64 (a : Int))) (some (.int .i64 (b : Int))) none).run Tryd.prog W = .ok (.string (mkS ((l.take b).drop a))) W := fun a b hab hb W => by
    rw [run_slice_string W 9 S0 .i64 .i64 (a : Int) (b : Int) Tryd.underlying9 (by omega) (by omega) (by omega), ← HS0.out, mkS_extract]; rfl
  have f6 : ∀ W : World, (Instr.slice 9 (.string S0) none (some (.int .i64 6)) none).run Tryd.prog W = .ok (.string (mkS (l.take 6))) W := fun W => by
    rw [run_slice_string_h W 9 S0 Tryd.underlying9 .i64 6 (by omega) (by omega), ← HS0.out, mkS_extract]; rfl
  have f12 : ∀ W : World, (Instr.slice 9 (.string S0) none (some (.int .i64 12)) none).run Tryd.prog W = .ok (.string (mkS (l.take 12))) W := fun W => by
    rw [run_slice_string_h W 9 S0 Tryd.underlying9 .i64 12 (by omega) (by omega), ← HS0.out, mkS_extract]; rfl
  have f68 : ∀ W : World, (Instr.slice 9 (.string S0) (some (.int .i64 6)) (some (.int .i64 8)) none).run Tryd.prog W = .ok (.string (mkS ((l.take 8).drop 6))) W := mid 6 8 (by omega) (by omega)
  have f810 : ∀ W : World, (Instr.slice 9 (.string S0) (some (.int .i64 8)) (some (.int .i64 10)) none).run Tryd.prog W = .ok (.string (mkS ((l.take 10).drop 8))) W := mid 8 10 (by omega) (by omega)
  have f1012 : ∀ W : World, (Instr.slice 9 (.string S0) (some (.int .i64 10)) (some (.int .i64 12)) none).run Tryd.prog W = .ok (.string (mkS ((l.take 12).drop 10))) W := mid 10 12 (by omega) (by omega)
  have f1216 : ∀ W : World, (Instr.slice 9 (.string S0) (some (.int .i64 12)) (some (.int .i64 16)) none).run Tryd.prog W = .ok (.string (mkS ((l.take 16).drop 12))) W := mid 12 16 (by omega) (by omega)
  have len : ∀ (a b : Nat), a ≤ b → b ≤ 128 → ((l.take b).drop a).length = b - a := fun a b _ hb => len_mid h128 a b hb
  have hl6 : (l.take 6).length = 6 := by rw [List.length_take, h128]; rfl
  obtain ⟨x, hx⟩ : ∃ x, rdT (l.take 6) = x := ⟨_, rfl⟩
  obtain ⟨y, hy⟩ : ∃ y, rdT ((l.take 8).drop 6) = y := ⟨_, rfl⟩
  obtain ⟨z, hzz⟩ : ∃ z, rdT ((l.take 10).drop 8) = z := ⟨_, rfl⟩
  obtain ⟨n, hn⟩ : ∃ n, lenOf l = n := ⟨_, rfl⟩
  have hn' : rdT ((l.take 12).drop 10) = n := hn
  have hst : stOf l = ⟨x, y, z⟩ := by unfold stOf; rw [hx, hy, hzz]
  have CG : ∀ (m : List UInt8) (k : Nat), m.length ≤ 6 → rdT m = k → Hid (∀ W, OS w W → Calls Tryd.prog 64 #[.string (mkS m)] W fun e w' => e = .returned (.int .i64 (k : Int)) ∧ OS w w' ∧ Below W.heap.size W w') := fun m k hm hk => Lib.hid fun W hW =>
    (get_any (mkS m) W (by rw [mkS_size]; exact hm)).mono fun e w' ⟨he, hb⟩ => ⟨by rw [he, bl_mkS, hk], hW.below hb, hb⟩
  have G1 := CG _ _ (by omega) hx
  have G2 := CG _ _ (by rw [len 6 8 (by omega) (by omega)]; omega) hy
  have G3 := CG _ _ (by rw [len 8 10 (by omega) (by omega)]; omega) hzz
  have G4 := CG _ _ (by rw [len 10 12 (by omega) (by omega)]; omega) hn'
  have hnlt : n < 65536 := by
    have := rdT_lt ((l.take 12).drop 10)
    rw [len 10 12 (by omega) (by omega), hn'] at this; exact this
  have hnI : (n : Int) < 65536 := by omega
  have hxlt : x < 281474976710656 := by have := rdT_lt (l.take 6); rw [hl6, hx, pow256] at this; exact this
  have HMid := Lib.hid mid
  have HLen := Lib.hid len
  clear CG hx hy hzz hn' hl6 mid len
  generalize mkS (l.take 6) = P6 at *
  generalize mkS ((l.take 8).drop 6) = P8 at *
  generalize mkS ((l.take 10).drop 8) = P10 at *
  generalize mkS ((l.take 12).drop 10) = P12 at *
  rw [hst] at hiff
  have HI := Lib.hid hiff
  have HSt := Lib.hid hst
  have HN := Lib.hid hn
  have H128 := Lib.hid h128
  have HMk := Lib.hid hmk
  have hb0 := Lib.hid (below_new w (.cells #[.int .i64 0, .int .i64 0, .int .i64 0] 23))
  have o0 : OS w (w.alloc (.cells #[.int .i64 0, .int .i64 0, .int .i64 0] 23)) := ⟨by show (w.heap.push _)[w.heap.size]? = _; simp, hb0.out⟩
  have O0 := Lib.hid o0
  clear hiff hst hn h128 hmk o0 hz
  go_enter Tryd.func20, Tryd.ntmps20
  go_wp2
  go_quiet (fail)
  go_wp2_with fail
  generalize hW0 : (w.alloc (.cells #[.int .i64 0, .int .i64 0, .int .i64 0] 23)).drewN _ = W0
  have o1 : OS w W0.drew := by rw [← hW0]; exact ⟨O0.out.1, (below_drewN O0.out.2 _).drew⟩
  clear hW0 O0
  go_cut [5] from 8 to 63 (fun v W => ∃ b : Nat, v = .pointer (some ⟨b, 0, none⟩) ∧ Hid (OB w b x y z W))
  case first =>
    -- the first part
    go_region_with (first
      | (go_at_call 64; (with_reducible refine (G1.out _ (by first | (with_reducible assumption) | (exact OS.below (by with_reducible assumption) (below_new _ _)))).mono ?_); rintro e w1 ⟨rfl, o2, h2⟩; (first | (have z1 := Lib.hid (blk_after_drew h2); clear h2) | (clear h2) | (clear h3) | (clear h4)))
      | (go_at_call 64; (with_reducible refine (G2.out _ (by first | (with_reducible assumption) | (exact OS.below (by with_reducible assumption) (below_new _ _)))).mono ?_); rintro e w2 ⟨rfl, o3, h3⟩; (first | (have z2 := Lib.hid (blk_keep z1.out h3); clear h3) | (have z2 := Lib.hid (blk_after h3); clear h3) | (clear h2) | (clear h3) | (clear h4)))
      | (go_at_call 64; (with_reducible refine (G3.out _ (by first | (with_reducible assumption) | (exact OS.below (by with_reducible assumption) (below_new _ _)))).mono ?_); rintro e w3 ⟨rfl, o4, h4⟩; (first | (have z3 := blk_keep z2.out h4; have g := cells3 z3; have g' := free3 z3; obtain ⟨g0, g1, g2⟩ := g; obtain ⟨e0, e1, e2⟩ := g'; have Z3 := Lib.hid z3; clear z3 h4) | (have z3 := blk_after h4; have g := cells3 z3; have g' := free3 z3; obtain ⟨g0, g1, g2⟩ := g; obtain ⟨e0, e1, e2⟩ := g'; have Z3 := Lib.hid z3; clear z3 h4) | (clear h2) | (clear h3) | (clear h4))))
    all_goals
      go_wp2_with fail
      go_meet
      case rel => first
        | exact ⟨_, rfl, Lib.hid ⟨after3 Z3.out _ _ _, o4.set o3.lt _ _ _⟩⟩
        | exact ⟨_, rfl, Lib.hid ⟨after3 Z3.out _ _ _, o4.set o2.lt _ _ _⟩⟩
        | exact ⟨_, rfl, Lib.hid ⟨after3 Z3.out _ _ _, o4.set o1.lt _ _ _⟩⟩
        | exact ⟨_, rfl, Lib.hid ⟨by show (w3.heap.push _)[w3.heap.size]? = _; simp, o4.below (below_new _ _)⟩⟩
  case rest =>
    obtain ⟨b, rfl, HOB⟩ := hcut
    clear G1 G2 G3 f6 f68 f810 hf ho o1
    have CF := Lib.hid fun W => fit_any ⟨x, y, z⟩ W
    unfold Stp.val at CF
    simp only at CF
    by_cases hfit : Stp.fit ⟨x, y, z⟩
    case neg =>
      have HNo : Hid (¬ OpenOk l) := Lib.hid fun h => hfit (HI.out.1 h).2.1
      rw [decide_eq_false hfit] at CF
      clear hfit
      go_wp2_with (first | (go_at_call 64; (with_reducible refine (G4.out _ HOB.out.os).mono ?_); rintro e w4 ⟨rfl, _, h4⟩; have HO4 := Lib.hid (HOB.out.below h4); have k4 := HO4.out.facts; obtain ⟨⟨a0, a1, a2⟩, ⟨r0, r1, r2⟩, ⟨e0, e1, e2⟩⟩ := k4; clear h4) | (go_at_call 15; (with_reducible refine (CF.out _).mono ?_); rintro e w5 ⟨rfl, h5⟩; have HO5 := Lib.hid (HO4.out.below h5); have k5 := HO5.out.facts; obtain ⟨⟨a0, a1, a2⟩, ⟨r0, r1, r2⟩, ⟨e0, e1, e2⟩⟩ := k5; clear h5))
      generalize hW9 : (((w5.setCell _ _).setCell _ _).setCell _ _) = W9
      have q9 := after3 HO5.out.2.1 (.int .i64 0) (.int .i64 0) (.int .i64 0)
      have b9 := below_set3 HO5.out.2.2 (Nat.le_refl w.heap.size) (.int .i64 0) (.int .i64 0) (.int .i64 0)
      rw [hW9] at q9 b9
      obtain ⟨g0, g1, g2⟩ := cells3 q9
      (try simp only [Exit.inBlock, Exit.then])
      refine bodyPost_ret (by simp [results, Tryd.results20, go_sem, g0, g1, g2]; try rfl) rfl ?_
      exact openPost_bad HNo.out rfl b9
    rw [decide_eq_true hfit] at CF
    by_cases hn104 : n ≤ 104
    case neg =>
      have hn2 : 104 < (n : Int) := by omega
      have HNo : Hid (¬ OpenOk l) := Lib.hid fun h => hn104 (by rw [← HN.out]; exact (HI.out.1 h).2.2.1)
      clear hfit hn104
      go_wp2_with (first | (go_at_call 64; (with_reducible refine (G4.out _ HOB.out.os).mono ?_); rintro e w4 ⟨rfl, _, h4⟩; have HO4 := Lib.hid (HOB.out.below h4); have k4 := HO4.out.facts; obtain ⟨⟨a0, a1, a2⟩, ⟨r0, r1, r2⟩, ⟨e0, e1, e2⟩⟩ := k4; clear h4) | (go_at_call 15; (with_reducible refine (CF.out _).mono ?_); rintro e w5 ⟨rfl, h5⟩; have HO5 := Lib.hid (HO4.out.below h5); have k5 := HO5.out.facts; obtain ⟨⟨a0, a1, a2⟩, ⟨r0, r1, r2⟩, ⟨e0, e1, e2⟩⟩ := k5; clear h5))
      generalize hW9 : (((w5.setCell _ _).setCell _ _).setCell _ _) = W9
      have q9 := after3 HO5.out.2.1 (.int .i64 0) (.int .i64 0) (.int .i64 0)
      have b9 := below_set3 HO5.out.2.2 (Nat.le_refl w.heap.size) (.int .i64 0) (.int .i64 0) (.int .i64 0)
      rw [hW9] at q9 b9
      obtain ⟨g0, g1, g2⟩ := cells3 q9
      (try simp only [Exit.inBlock, Exit.then])
      refine bodyPost_ret (by simp [results, Tryd.results20, go_sem, g0, g1, g2]; try rfl) rfl ?_
      exact openPost_bad HNo.out rfl b9
    have hn2 : (n : Int) ≤ 104 := by omega
    have hdn : decide (104 < (n : Int)) = false := decide_eq_false (by omega)
    have fr : ∀ W : World, (Instr.slice 9 (.string S0) (some (.int .i64 (16 + (n : Int)))) (some (.int .i64 120)) none).run Tryd.prog W = .ok (.string (mkS ((l.take 120).drop (16 + n)))) W := fun W => by
      have := HMid.out (16 + n) 120 (by omega) (by omega) W
      rw [show ((16 + n : Nat) : Int) = 16 + (n : Int) by omega] at this; exact this
    have fb : ∀ W : World, (Instr.slice 9 (.string S0) (some (.int .i64 16)) (some (.int .i64 (16 + (n : Int)))) none).run Tryd.prog W = .ok (.string (mkS (bodyOf l))) W := fun W => by
      have := HMid.out 16 (16 + n) (by omega) (by omega) W
      rw [show ((16 + n : Nat) : Int) = 16 + (n : Int) by omega] at this
      unfold bodyOf; rw [HN.out]; exact this
    have CR := Lib.hid fun W => rest_any (mkS ((l.take 120).drop (16 + n))) W (by rw [mkS_size, HLen.out _ _ (by omega) (by omega)]; omega)
    rw [bl_mkS, mkS_size, HLen.out _ _ (by omega) (by omega), show 120 - (16 + n) = 104 - n by omega] at CR
    generalize mkS ((l.take 120).drop (16 + n)) = RS at *
    by_cases hrest : (l.take 120).drop (16 + n) = zer (104 - n)
    case neg =>
      have HNo : Hid (¬ OpenOk l) := Lib.hid fun h => hrest (by rw [← HN.out]; exact (HI.out.1 h).2.2.2.1)
      rw [decide_eq_false hrest] at CR
      clear hfit hrest
      go_wp2_with (first | (go_at_call 64; (with_reducible refine (G4.out _ HOB.out.os).mono ?_); rintro e w4 ⟨rfl, _, h4⟩; have HO4 := Lib.hid (HOB.out.below h4); have k4 := HO4.out.facts; obtain ⟨⟨a0, a1, a2⟩, ⟨r0, r1, r2⟩, ⟨e0, e1, e2⟩⟩ := k4; clear h4) | (go_at_call 15; (with_reducible refine (CF.out _).mono ?_); rintro e w5 ⟨rfl, h5⟩; have HO5 := Lib.hid (HO4.out.below h5); clear h5) | (go_at_call 65; (with_reducible refine (CR.out _).mono ?_); rintro e w6 ⟨rfl, h6⟩; have HO6 := Lib.hid (HO5.out.below h6); have k6 := HO6.out.facts; obtain ⟨⟨a0, a1, a2⟩, ⟨r0, r1, r2⟩, ⟨e0, e1, e2⟩⟩ := k6; clear h6))
      generalize hW9 : (((w6.setCell _ _).setCell _ _).setCell _ _) = W9
      have q9 := after3 HO6.out.2.1 (.int .i64 0) (.int .i64 0) (.int .i64 0)
      have b9 := below_set3 HO6.out.2.2 (Nat.le_refl w.heap.size) (.int .i64 0) (.int .i64 0) (.int .i64 0)
      rw [hW9] at q9 b9
      obtain ⟨g0, g1, g2⟩ := cells3 q9
      (try simp only [Exit.inBlock, Exit.then])
      refine bodyPost_ret (by simp [results, Tryd.results20, go_sem, g0, g1, g2]; try rfl) rfl ?_
      exact openPost_bad HNo.out rfl b9
    rw [decide_eq_true hrest] at CR
    obtain ⟨BD, hBD⟩ : ∃ BD, mkS (bodyOf l) = BD := ⟨_, rfl⟩
    obtain ⟨H12, hH12⟩ : ∃ H12, mkS (l.take 12) = H12 := ⟨_, rfl⟩
    obtain ⟨M4, hM4⟩ : ∃ M4, mkS ((l.take 16).drop 12) = M4 := ⟨_, rfl⟩
    rw [hBD] at fb
    rw [hH12] at f12
    rw [hM4] at f1216
    have hBDs : BD.size = n := by rw [← hBD, mkS_size, bodyOf_length H128.out (by rw [HN.out]; exact hn104), HN.out]
    have hHs : H12.size = 12 := by rw [← hH12, mkS_size, List.length_take, H128.out]; rfl
    have CS := Lib.hid fun W => sum_any H12 W (by omega)
    obtain ⟨X, hX⟩ : ∃ X, sumB (bl H12) = X := ⟨_, rfl⟩
    rw [hX] at CS
    have CM := Lib.hid fun W => more_any X BD W (by omega)
    obtain ⟨Y, hY⟩ : ∃ Y, moreB X (bl BD) = Y := ⟨_, rfl⟩
    rw [hY] at CM
    obtain ⟨O, hO⟩ : ∃ O, octS Y = O := ⟨_, rfl⟩
    have CO : Hid (∀ B W0, Below B.heap.size B W0 → Calls Tryd.prog 58 #[.int .u32 (W Y)] W0 fun e w' => e = .returned (.string O) ∧ Below B.heap.size B w') := Lib.hid fun B W0 h => (octets_any Y W0).mono fun e w' ⟨he, hb⟩ => ⟨by rw [← hO]; exact he, below_next h hb⟩
    have hcond : octetsB (moreB (sumB (l.take 12)) (bodyOf l)) = (l.take 16).drop 12 ↔ O = M4 := by
      have e1 : octetsB (moreB (sumB (l.take 12)) (bodyOf l)) = bl O := by
        rw [← hO, bl_octS, ← hY, ← hX, ← hBD, ← hH12, bl_mkS, bl_mkS]
      rw [e1, ← hM4]
      exact ⟨fun h => bl_inj (by rw [h, bl_mkS]), fun h => by rw [h, bl_mkS]⟩
    have hok : OpenOk l ↔ O = M4 := by
      rw [HI.out, HN.out, hcond]
      exact ⟨fun h => h.2.2.2.2, fun h => ⟨HMk.out, hfit, hn104, hrest, h⟩⟩
    have HBd := Lib.hid hBD
    clear hcond hBD hH12 hM4 hX hY hO hfit hrest hHs hBDs
    by_cases hcmp : O = M4
    · have HOk := Lib.hid (hok.2 hcmp)
      have hc1 := str_eq hcmp
      clear hok hcmp
      go_wp2_with (first | (go_at_call 64; (with_reducible refine (G4.out _ HOB.out.os).mono ?_); rintro e w4 ⟨rfl, _, h4⟩; have HO4 := Lib.hid (HOB.out.below h4); have k4 := HO4.out.facts; obtain ⟨⟨a0, a1, a2⟩, ⟨r0, r1, r2⟩, ⟨e0, e1, e2⟩⟩ := k4; clear h4) | (go_at_call 15; (with_reducible refine (CF.out _).mono ?_); rintro e w5 ⟨rfl, h5⟩; have HO5 := Lib.hid (HO4.out.below h5); clear h5) | (go_at_call 65; (with_reducible refine (CR.out _).mono ?_); rintro e w6 ⟨rfl, h6⟩; have HO6 := Lib.hid (HO5.out.below h6); clear h6))
      refine wp_region_grow (by kernel_rfl) (by kernel_rfl) ?_
      repeat (refine wpQuiet_step (fun K hK => ?_); go_simp; first | (refine hK _ ?_; clear hK K) | (refine ⟨_, fun _ _ => rfl, hK _ ?_⟩; clear hK K) | (apply Exists.intro; refine ⟨fun _ _ => ?_, hK _ ?_⟩; (first | (go_at_call 60; exact (CS.out _).mono fun e w' ⟨he, hw⟩ => ⟨he, hw ▸ ‹Below _ _ _›⟩) | (go_at_call 59; exact (CM.out _).mono fun e w' ⟨he, hw⟩ => ⟨he, hw ▸ ‹Below _ _ _›⟩) | (go_at_call 58; exact CO.out w6 _ ‹Below _ _ _›)); clear hK K))
      refine wpQuiet_nil ?_
      intro w7 hb7
      have HO7 := Lib.hid (HO6.out.below hb7)
      have k7 := HO7.out.facts
      obtain ⟨⟨a0, a1, a2⟩, ⟨r0, r1, r2⟩, ⟨e0, e1, e2⟩⟩ := k7
      go_wp2
      generalize hW9 : (((w7.setCell _ _).setCell _ _).setCell _ _) = W9
      have q9 := after3 HO7.out.2.1 (.int .i64 x) (.int .i64 y) (.int .i64 z)
      have b9 := below_set3 HO7.out.2.2 (Nat.le_refl w.heap.size) (.int .i64 x) (.int .i64 y) (.int .i64 z)
      rw [hW9] at q9 b9
      obtain ⟨g0, g1, g2⟩ := cells3 q9
      (try simp only [Exit.inBlock, Exit.then])
      refine bodyPost_ret (by simp [results, Tryd.results20, go_sem, g0, g1, g2]; try rfl) rfl ?_
      exact openPost_ok HOk.out (by rw [HSt.out, HBd.out]; rfl) b9
    · have HNo : Hid (¬ OpenOk l) := Lib.hid fun h => hcmp (hok.1 h)
      have hc1 := str_ne hcmp
      clear hok hcmp
      go_wp2_with (first | (go_at_call 64; (with_reducible refine (G4.out _ HOB.out.os).mono ?_); rintro e w4 ⟨rfl, _, h4⟩; have HO4 := Lib.hid (HOB.out.below h4); have k4 := HO4.out.facts; obtain ⟨⟨a0, a1, a2⟩, ⟨r0, r1, r2⟩, ⟨e0, e1, e2⟩⟩ := k4; clear h4) | (go_at_call 15; (with_reducible refine (CF.out _).mono ?_); rintro e w5 ⟨rfl, h5⟩; have HO5 := Lib.hid (HO4.out.below h5); clear h5) | (go_at_call 65; (with_reducible refine (CR.out _).mono ?_); rintro e w6 ⟨rfl, h6⟩; have HO6 := Lib.hid (HO5.out.below h6); clear h6))
      refine wp_region_grow (by kernel_rfl) (by kernel_rfl) ?_
      repeat (refine wpQuiet_step (fun K hK => ?_); go_simp; first | (refine hK _ ?_; clear hK K) | (refine ⟨_, fun _ _ => rfl, hK _ ?_⟩; clear hK K) | (apply Exists.intro; refine ⟨fun _ _ => ?_, hK _ ?_⟩; (first | (go_at_call 60; exact (CS.out _).mono fun e w' ⟨he, hw⟩ => ⟨he, hw ▸ ‹Below _ _ _›⟩) | (go_at_call 59; exact (CM.out _).mono fun e w' ⟨he, hw⟩ => ⟨he, hw ▸ ‹Below _ _ _›⟩) | (go_at_call 58; exact CO.out w6 _ ‹Below _ _ _›)); clear hK K))
      refine wpQuiet_nil ?_
      intro w7 hb7
      have HO7 := Lib.hid (HO6.out.below hb7)
      have k7 := HO7.out.facts
      obtain ⟨⟨a0, a1, a2⟩, ⟨r0, r1, r2⟩, ⟨e0, e1, e2⟩⟩ := k7
      go_wp2
      generalize hW9 : (((w7.setCell _ _).setCell _ _).setCell _ _) = W9
      have q9 := after3 HO7.out.2.1 (.int .i64 0) (.int .i64 0) (.int .i64 0)
      have b9 := below_set3 HO7.out.2.2 (Nat.le_refl w.heap.size) (.int .i64 0) (.int .i64 0) (.int .i64 0)
      rw [hW9] at q9 b9
      obtain ⟨g0, g1, g2⟩ := cells3 q9
      (try simp only [Exit.inBlock, Exit.then])
      refine bodyPost_ret (by simp [results, Tryd.results20, go_sem, g0, g1, g2]; try rfl) rfl ?_
      exact openPost_bad HNo.out rfl b9
end Go.Proofs.YtoojdknfommpbaaDoor
