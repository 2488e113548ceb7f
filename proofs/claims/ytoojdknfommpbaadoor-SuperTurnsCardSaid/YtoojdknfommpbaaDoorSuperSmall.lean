/- The walks of super's Slot and Same, of draymanref07's Slot, Same and Few. -/
import Derived.Test.YtoojdknfommpbaaDoorSuperDecPure
namespace Go.Proofs.YtoojdknfommpbaaDoor
open Go.RowKit
set_option maxRecDepth 10000

def slotN (n : Int) : Int := if n.tmod 2 = 0 then 0 else 1
theorem slot_any (n : Int) (w : World) : Calls Tryd.prog 34 #[.int .i64 n] w fun e w' => e = .returned (.int .i64 (slotN n)) ∧ w = w' := by
  obtain ⟨z, hz⟩ : ∃ z, n.tmod 2 = z := ⟨_, rfl⟩
  have HZ : Hid (slotN n = if z = 0 then 0 else 1) := Lib.hid (by unfold slotN; rw [hz])
  by_cases h0 : z = 0
  · rw [h0] at hz
    have HR : Hid (slotN n = 0) := Lib.hid (by rw [HZ.out, if_pos h0])
    clear h0
    go_enter Tryd.func34, Tryd.ntmps34
    go_wp2
    go_ret
    exact ⟨ret_int HR.out.symm, rfl⟩
  · have hzB : (z == 0) = false := by simpa using h0
    have HR : Hid (slotN n = 1) := Lib.hid (by rw [HZ.out, if_neg h0])
    clear h0
    go_enter Tryd.func34, Tryd.ntmps34
    go_wp2
    go_ret
    exact ⟨ret_int HR.out.symm, rfl⟩
theorem slot_ref (n : Int) (w : World) : Calls Tryd.prog 35 #[.int .i64 n] w fun e w' => e = .returned (.int .i64 (slotN n)) ∧ w = w' := by
  obtain ⟨z, hz⟩ : ∃ z, n.tmod 2 = z := ⟨_, rfl⟩
  have HZ : Hid (slotN n = if z = 0 then 0 else 1) := Lib.hid (by unfold slotN; rw [hz])
  by_cases h0 : z = 0
  · rw [h0] at hz
    have HR : Hid (slotN n = 0) := Lib.hid (by rw [HZ.out, if_pos h0])
    clear h0
    go_enter Tryd.func35, Tryd.ntmps35
    go_wp2
    go_ret
    exact ⟨ret_int HR.out.symm, rfl⟩
  · have hzB : (z == 0) = false := by simpa using h0
    have HR : Hid (slotN n = 1) := Lib.hid (by rw [HZ.out, if_neg h0])
    clear h0
    go_enter Tryd.func35, Tryd.ntmps35
    go_wp2
    go_ret
    exact ⟨ret_int HR.out.symm, rfl⟩
def Sup.few (x : Sup) : Prop := x.check.length ≤ 80 ∧ x.log.length ≤ 80
instance (x : Sup) : Decidable x.few := by unfold Sup.few; exact inferInstance
theorem sfew_any (x : Sup) (v : Value) (w : World) (hx : SupIn w x v) : Calls Tryd.prog 25 #[v] w fun e w' => e = .returned (.bool (decide x.few)) ∧ Below w.heap.size w w' := by
  obtain ⟨A, c, B, d, rfl, h1, h2⟩ := hx
  obtain ⟨n, hn⟩ : ∃ n, x.check.length = n := ⟨_, rfl⟩
  obtain ⟨m, hm⟩ : ∃ m, x.log.length = m := ⟨_, rfl⟩
  have HB0 := Lib.hid (below_new w (.cells #[.int .i64 x.gen, .int .i64 x.base, .int .i64 x.size, .int .i64 x.cgen, .slice A n c, .slice B m d] 41))
  obtain ⟨b1, hb1⟩ : ∃ b, decide ((n : Int) ≤ 80) = b := ⟨_, rfl⟩
  obtain ⟨b2, hb2⟩ : ∃ b, decide ((m : Int) ≤ 80) = b := ⟨_, rfl⟩
  have HR : Hid (decide x.few = (b1 && b2)) := Lib.hid (by
    rw [← hb1, ← hb2, ← Bool.decide_and]; apply decide_eq_decide.2; unfold Sup.few; omega)
  rw [HR.out, hn, hm]
  clear h1 h2 hn hm
  obtain ⟨gen, base, size, cgen, chk, lg⟩ := x
  unfold SupV
  simp only at *
  cases b1
  · go_enter Tryd.func25, Tryd.ntmps25
    go_wp2
    go_ret
    exact ⟨rfl, HB0.out⟩
  · go_enter Tryd.func25, Tryd.ntmps25
    go_wp2
    go_ret
    exact ⟨rfl, HB0.out⟩
def sameS (x y : Sup) : Prop := x.gen = y.gen ∧ x.base = y.base ∧ x.size = y.size ∧ x.cgen = y.cgen ∧ x.check = y.check ∧ x.log = y.log
instance (x y : Sup) : Decidable (sameS x y) := by unfold sameS; exact inferInstance
theorem sameS_iff {x y : Sup} : sameS x y ↔ x = y := by
  cases x; cases y; unfold sameS; simp
/-- Two boxes of the call's own. -/
def S2 (w : World) (x y : Sup) (cv lv cu lu : Value) (W : World) : Prop :=
  W.heap[w.heap.size]? = some (.cells #[.int .i64 x.gen, .int .i64 x.base, .int .i64 x.size, .int .i64 x.cgen, cv, lv] 41 (0, 0)) ∧
  W.heap[w.heap.size + 1]? = some (.cells #[.int .i64 y.gen, .int .i64 y.base, .int .i64 y.size, .int .i64 y.cgen, cu, lu] 41 (0, 0)) ∧ Below w.heap.size w W
theorem S2.below {w W W' : World} {x y : Sup} {cv lv cu lu : Value} (h : S2 w x y cv lv cu lu W) (hb : Below W.heap.size W W') : S2 w x y cv lv cu lu W' := ⟨blk_keep h.1 hb, blk_keep h.2.1 hb, below_next h.2.2 hb⟩
theorem S2.bel {w W : World} {x y : Sup} {cv lv cu lu : Value} (h : S2 w x y cv lv cu lu W) : Below w.heap.size w W := h.2.2
theorem S2.new (w : World) (x y : Sup) (cv lv cu lu : Value) : S2 w x y cv lv cu lu ((w.alloc (.cells #[.int .i64 x.gen, .int .i64 x.base, .int .i64 x.size, .int .i64 x.cgen, cv, lv] 41)).alloc (.cells #[.int .i64 y.gen, .int .i64 y.base, .int .i64 y.size, .int .i64 y.cgen, cu, lu] 41)) := by
  generalize hA : w.alloc (.cells #[.int .i64 x.gen, .int .i64 x.base, .int .i64 x.size, .int .i64 x.cgen, cv, lv] 41) = A
  have sA : A.heap.size = w.heap.size + 1 := by rw [← hA]; simp
  have zA : A.heap[w.heap.size]? = some (.cells #[.int .i64 x.gen, .int .i64 x.base, .int .i64 x.size, .int .i64 x.cgen, cv, lv] 41 (0, 0)) := by rw [← hA]; show (w.heap.push _)[w.heap.size]? = _; simp
  have bA : Below w.heap.size w A := by rw [← hA]; exact below_new _ _
  refine ⟨blk_keep zA (below_new A _), ?_, below_next bA (below_new A _)⟩
  rw [← sA]; show (A.heap.push _)[A.heap.size]? = _; simp
set_option maxHeartbeats 1000000 in
theorem ssame_any (x y : Sup) (v u : Value) (w : World) (hx : SupIn w x v) (hy : SupIn w y u) (hl : x.check.length ≤ 1000 ∧ x.log.length ≤ 1000 ∧ y.check.length ≤ 1000 ∧ y.log.length ≤ 1000) :
    Calls Tryd.prog 36 #[v, u] w fun e w' => e = .returned (.bool (decide (sameS x y))) ∧ Below w.heap.size w w' := by
  obtain ⟨A, c, B, d, rfl, h1, h2⟩ := hx
  obtain ⟨C, e, D, f, rfl, h3, h4⟩ := hy
  have HX0 := Lib.hid (S2.new w x y (.slice A x.check.length c) (.slice B x.log.length d) (.slice C y.check.length e) (.slice D y.log.length f))
  have EC : Hid (∀ W, S2 w x y (.slice A x.check.length c) (.slice B x.log.length d) (.slice C y.check.length e) (.slice D y.log.length f) W → Calls Tryd.prog 83 #[.slice A x.check.length c, .slice C y.check.length e] W fun e' w' => e' = .returned (.bool (decide (x.check = y.check))) ∧ S2 w x y (.slice A x.check.length c) (.slice B x.log.length d) (.slice C y.check.length e) (.slice D y.log.length f) w') := Lib.hid fun W h =>
    (ieq_any _ _ x.check y.check W (h1.below h.bel) (h3.below h.bel) (by omega) (by omega)).mono fun e' w' ⟨he, hb⟩ => ⟨he, h.below hb⟩
  have EL : Hid (∀ W, S2 w x y (.slice A x.check.length c) (.slice B x.log.length d) (.slice C y.check.length e) (.slice D y.log.length f) W → Calls Tryd.prog 83 #[.slice B x.log.length d, .slice D y.log.length f] W fun e' w' => e' = .returned (.bool (decide (x.log = y.log))) ∧ S2 w x y (.slice A x.check.length c) (.slice B x.log.length d) (.slice C y.check.length e) (.slice D y.log.length f) w') := Lib.hid fun W h =>
    (ieq_any _ _ x.log y.log W (h2.below h.bel) (h4.below h.bel) (by omega) (by omega)).mono fun e' w' ⟨he, hb⟩ => ⟨he, h.below hb⟩
  have FA : Hid (∀ W, S2 w x y (.slice A x.check.length c) (.slice B x.log.length d) (.slice C y.check.length e) (.slice D y.log.length f) W → (W.cell? ⟨w.heap.size, 4, none⟩ = some (.slice A x.check.length c) ∧ W.cell? ⟨w.heap.size, 5, none⟩ = some (.slice B x.log.length d)) ∧ W.cell? ⟨w.heap.size + 1, 4, none⟩ = some (.slice C y.check.length e) ∧ W.cell? ⟨w.heap.size + 1, 5, none⟩ = some (.slice D y.log.length f)) := Lib.hid fun W h =>
    ⟨⟨(cells6 h.1).2.2.2.2.1, (cells6 h.1).2.2.2.2.2⟩, (cells6 h.2.1).2.2.2.2.1, (cells6 h.2.1).2.2.2.2.2⟩
  obtain ⟨b1, hb1⟩ : ∃ b, (x.gen != y.gen) = b := ⟨_, rfl⟩
  obtain ⟨b2, hb2⟩ : ∃ b, (x.base != y.base) = b := ⟨_, rfl⟩
  obtain ⟨b3, hb3⟩ : ∃ b, (x.size != y.size) = b := ⟨_, rfl⟩
  obtain ⟨b4, hb4⟩ : ∃ b, (x.cgen != y.cgen) = b := ⟨_, rfl⟩
  obtain ⟨b5, hb5⟩ : ∃ b, decide (x.check = y.check) = b := ⟨_, rfl⟩
  obtain ⟨b6, hb6⟩ : ∃ b, decide (x.log = y.log) = b := ⟨_, rfl⟩
  have HR : Hid (decide (sameS x y) = (!b1 && !b2 && !b3 && !b4 && b5 && b6)) := Lib.hid (by
    rw [← hb1, ← hb2, ← hb3, ← hb4, ← hb5, ← hb6, Bool.eq_iff_iff, decide_eq_true_iff]
    unfold sameS
    simp only [Bool.and_eq_true, decide_eq_true_eq, Bool.not_eq_true', bne_eq_false_iff_eq]
    constructor
    · rintro ⟨q1, q2, q3, q4, q5, q6⟩; exact ⟨⟨⟨⟨⟨q1, q2⟩, q3⟩, q4⟩, q5⟩, q6⟩
    · rintro ⟨⟨⟨⟨⟨q1, q2⟩, q3⟩, q4⟩, q5⟩, q6⟩; exact ⟨q1, q2, q3, q4, q5, q6⟩)
  rw [hb5] at EC
  rw [hb6] at EL
  rw [HR.out]
  clear h1 h2 h3 h4 hl hb5 hb6 HR
  generalize x.check.length = n1 at *
  generalize x.log.length = n2 at *
  generalize y.check.length = n3 at *
  generalize y.log.length = n4 at *
  obtain ⟨x1, x2, x3, x4, x5, x6⟩ := x
  obtain ⟨y1, y2, y3, y4, y5, y6⟩ := y
  unfold SupV at *
  simp only at *
  cases b1
  · cases b2
    · cases b3
      · cases b4
        · cases b5
          · go_enter Tryd.func36, Tryd.ntmps36
            go_wp2_with (first | (go_at_call 83; have hq := Z1; (with_reducible refine (EL.out _ hq.out).mono ?_); rintro e' w2 ⟨rfl, z2⟩; clear hq) | (go_at_call 83; (with_reducible refine (EC.out _ HX0.out).mono ?_); rintro e' w1 ⟨rfl, z1⟩; have q1 := FA.out _ z1; obtain ⟨⟨c0, c1⟩, c2, c3⟩ := q1; have Z1 := Lib.hid z1; clear z1))
            go_ret
            exact ⟨rfl, Z1.out.bel⟩
          · go_enter Tryd.func36, Tryd.ntmps36
            go_wp2_with (first | (go_at_call 83; have hq := Z1; (with_reducible refine (EL.out _ hq.out).mono ?_); rintro e' w2 ⟨rfl, z2⟩; clear hq) | (go_at_call 83; (with_reducible refine (EC.out _ HX0.out).mono ?_); rintro e' w1 ⟨rfl, z1⟩; have q1 := FA.out _ z1; obtain ⟨⟨c0, c1⟩, c2, c3⟩ := q1; have Z1 := Lib.hid z1; clear z1))
            go_ret
            exact ⟨rfl, z2.bel⟩
        · go_enter Tryd.func36, Tryd.ntmps36
          go_wp2_with (first | (go_at_call 83; have hq := Z1; (with_reducible refine (EL.out _ hq.out).mono ?_); rintro e' w2 ⟨rfl, z2⟩; clear hq) | (go_at_call 83; (with_reducible refine (EC.out _ HX0.out).mono ?_); rintro e' w1 ⟨rfl, z1⟩; have q1 := FA.out _ z1; obtain ⟨⟨c0, c1⟩, c2, c3⟩ := q1; have Z1 := Lib.hid z1; clear z1))
          go_ret
          exact ⟨rfl, HX0.out.bel⟩
      · go_enter Tryd.func36, Tryd.ntmps36
        go_wp2_with (first | (go_at_call 83; have hq := Z1; (with_reducible refine (EL.out _ hq.out).mono ?_); rintro e' w2 ⟨rfl, z2⟩; clear hq) | (go_at_call 83; (with_reducible refine (EC.out _ HX0.out).mono ?_); rintro e' w1 ⟨rfl, z1⟩; have q1 := FA.out _ z1; obtain ⟨⟨c0, c1⟩, c2, c3⟩ := q1; have Z1 := Lib.hid z1; clear z1))
        go_ret
        exact ⟨rfl, HX0.out.bel⟩
    · go_enter Tryd.func36, Tryd.ntmps36
      go_wp2_with (first | (go_at_call 83; have hq := Z1; (with_reducible refine (EL.out _ hq.out).mono ?_); rintro e' w2 ⟨rfl, z2⟩; clear hq) | (go_at_call 83; (with_reducible refine (EC.out _ HX0.out).mono ?_); rintro e' w1 ⟨rfl, z1⟩; have q1 := FA.out _ z1; obtain ⟨⟨c0, c1⟩, c2, c3⟩ := q1; have Z1 := Lib.hid z1; clear z1))
      go_ret
      exact ⟨rfl, HX0.out.bel⟩
  · go_enter Tryd.func36, Tryd.ntmps36
    go_wp2_with (first | (go_at_call 83; have hq := Z1; (with_reducible refine (EL.out _ hq.out).mono ?_); rintro e' w2 ⟨rfl, z2⟩; clear hq) | (go_at_call 83; (with_reducible refine (EC.out _ HX0.out).mono ?_); rintro e' w1 ⟨rfl, z1⟩; have q1 := FA.out _ z1; obtain ⟨⟨c0, c1⟩, c2, c3⟩ := q1; have Z1 := Lib.hid z1; clear z1))
    go_ret
    exact ⟨rfl, HX0.out.bel⟩
set_option maxHeartbeats 1000000 in
theorem ssame_ref (x y : Sup) (v u : Value) (w : World) (hx : SupIn w x v) (hy : SupIn w y u) (hl : x.check.length ≤ 1000 ∧ x.log.length ≤ 1000 ∧ y.check.length ≤ 1000 ∧ y.log.length ≤ 1000) :
    Calls Tryd.prog 31 #[v, u] w fun e w' => e = .returned (.bool (decide (sameS x y))) ∧ Below w.heap.size w w' := by
  obtain ⟨A, c, B, d, rfl, h1, h2⟩ := hx
  obtain ⟨C, e, D, f, rfl, h3, h4⟩ := hy
  have HX0 := Lib.hid (S2.new w x y (.slice A x.check.length c) (.slice B x.log.length d) (.slice C y.check.length e) (.slice D y.log.length f))
  have EC : Hid (∀ W, S2 w x y (.slice A x.check.length c) (.slice B x.log.length d) (.slice C y.check.length e) (.slice D y.log.length f) W → Calls Tryd.prog 81 #[.slice A x.check.length c, .slice C y.check.length e] W fun e' w' => e' = .returned (.bool (decide (x.check = y.check))) ∧ S2 w x y (.slice A x.check.length c) (.slice B x.log.length d) (.slice C y.check.length e) (.slice D y.log.length f) w') := Lib.hid fun W h =>
    (isame_any _ _ x.check y.check W (h1.below h.bel) (h3.below h.bel) (by omega) (by omega)).mono fun e' w' ⟨he, hb⟩ => ⟨he, h.below hb⟩
  have EL : Hid (∀ W, S2 w x y (.slice A x.check.length c) (.slice B x.log.length d) (.slice C y.check.length e) (.slice D y.log.length f) W → Calls Tryd.prog 81 #[.slice B x.log.length d, .slice D y.log.length f] W fun e' w' => e' = .returned (.bool (decide (x.log = y.log))) ∧ S2 w x y (.slice A x.check.length c) (.slice B x.log.length d) (.slice C y.check.length e) (.slice D y.log.length f) w') := Lib.hid fun W h =>
    (isame_any _ _ x.log y.log W (h2.below h.bel) (h4.below h.bel) (by omega) (by omega)).mono fun e' w' ⟨he, hb⟩ => ⟨he, h.below hb⟩
  have FA : Hid (∀ W, S2 w x y (.slice A x.check.length c) (.slice B x.log.length d) (.slice C y.check.length e) (.slice D y.log.length f) W → (W.cell? ⟨w.heap.size, 4, none⟩ = some (.slice A x.check.length c) ∧ W.cell? ⟨w.heap.size, 5, none⟩ = some (.slice B x.log.length d)) ∧ W.cell? ⟨w.heap.size + 1, 4, none⟩ = some (.slice C y.check.length e) ∧ W.cell? ⟨w.heap.size + 1, 5, none⟩ = some (.slice D y.log.length f)) := Lib.hid fun W h =>
    ⟨⟨(cells6 h.1).2.2.2.2.1, (cells6 h.1).2.2.2.2.2⟩, (cells6 h.2.1).2.2.2.2.1, (cells6 h.2.1).2.2.2.2.2⟩
  obtain ⟨b1, hb1⟩ : ∃ b, (x.gen == y.gen) = b := ⟨_, rfl⟩
  obtain ⟨b2, hb2⟩ : ∃ b, (x.base == y.base) = b := ⟨_, rfl⟩
  obtain ⟨b3, hb3⟩ : ∃ b, (x.size == y.size) = b := ⟨_, rfl⟩
  obtain ⟨b4, hb4⟩ : ∃ b, (x.cgen == y.cgen) = b := ⟨_, rfl⟩
  obtain ⟨b5, hb5⟩ : ∃ b, decide (x.check = y.check) = b := ⟨_, rfl⟩
  obtain ⟨b6, hb6⟩ : ∃ b, decide (x.log = y.log) = b := ⟨_, rfl⟩
  have HR : Hid (decide (sameS x y) = (b1 && b2 && b3 && b4 && b5 && b6)) := Lib.hid (by
    rw [← hb1, ← hb2, ← hb3, ← hb4, ← hb5, ← hb6, Bool.eq_iff_iff, decide_eq_true_iff]
    unfold sameS
    simp only [Bool.and_eq_true, decide_eq_true_eq, beq_iff_eq]
    constructor
    · rintro ⟨q1, q2, q3, q4, q5, q6⟩; exact ⟨⟨⟨⟨⟨q1, q2⟩, q3⟩, q4⟩, q5⟩, q6⟩
    · rintro ⟨⟨⟨⟨⟨q1, q2⟩, q3⟩, q4⟩, q5⟩, q6⟩; exact ⟨q1, q2, q3, q4, q5, q6⟩)
  rw [hb5] at EC
  rw [hb6] at EL
  rw [HR.out]
  clear h1 h2 h3 h4 hl hb5 hb6 HR
  generalize x.check.length = n1 at *
  generalize x.log.length = n2 at *
  generalize y.check.length = n3 at *
  generalize y.log.length = n4 at *
  obtain ⟨x1, x2, x3, x4, x5, x6⟩ := x
  obtain ⟨y1, y2, y3, y4, y5, y6⟩ := y
  unfold SupV at *
  simp only at *
  cases b1
  · go_enter Tryd.func31, Tryd.ntmps31
    go_wp2_with (first | (go_at_call 81; have hq := Z1; (with_reducible refine (EL.out _ hq.out).mono ?_); rintro e' w2 ⟨rfl, z2⟩; clear hq) | (go_at_call 81; (with_reducible refine (EC.out _ HX0.out).mono ?_); rintro e' w1 ⟨rfl, z1⟩; have q1 := FA.out _ z1; obtain ⟨⟨c0, c1⟩, c2, c3⟩ := q1; have Z1 := Lib.hid z1; clear z1))
    go_ret
    exact ⟨rfl, HX0.out.bel⟩
  · cases b2
    · go_enter Tryd.func31, Tryd.ntmps31
      go_wp2_with (first | (go_at_call 81; have hq := Z1; (with_reducible refine (EL.out _ hq.out).mono ?_); rintro e' w2 ⟨rfl, z2⟩; clear hq) | (go_at_call 81; (with_reducible refine (EC.out _ HX0.out).mono ?_); rintro e' w1 ⟨rfl, z1⟩; have q1 := FA.out _ z1; obtain ⟨⟨c0, c1⟩, c2, c3⟩ := q1; have Z1 := Lib.hid z1; clear z1))
      go_ret
      exact ⟨rfl, HX0.out.bel⟩
    · cases b3
      · go_enter Tryd.func31, Tryd.ntmps31
        go_wp2_with (first | (go_at_call 81; have hq := Z1; (with_reducible refine (EL.out _ hq.out).mono ?_); rintro e' w2 ⟨rfl, z2⟩; clear hq) | (go_at_call 81; (with_reducible refine (EC.out _ HX0.out).mono ?_); rintro e' w1 ⟨rfl, z1⟩; have q1 := FA.out _ z1; obtain ⟨⟨c0, c1⟩, c2, c3⟩ := q1; have Z1 := Lib.hid z1; clear z1))
        go_ret
        exact ⟨rfl, HX0.out.bel⟩
      · cases b4
        · go_enter Tryd.func31, Tryd.ntmps31
          go_wp2_with (first | (go_at_call 81; have hq := Z1; (with_reducible refine (EL.out _ hq.out).mono ?_); rintro e' w2 ⟨rfl, z2⟩; clear hq) | (go_at_call 81; (with_reducible refine (EC.out _ HX0.out).mono ?_); rintro e' w1 ⟨rfl, z1⟩; have q1 := FA.out _ z1; obtain ⟨⟨c0, c1⟩, c2, c3⟩ := q1; have Z1 := Lib.hid z1; clear z1))
          go_ret
          exact ⟨rfl, HX0.out.bel⟩
        · cases b5
          · go_enter Tryd.func31, Tryd.ntmps31
            go_wp2_with (first | (go_at_call 81; have hq := Z1; (with_reducible refine (EL.out _ hq.out).mono ?_); rintro e' w2 ⟨rfl, z2⟩; clear hq) | (go_at_call 81; (with_reducible refine (EC.out _ HX0.out).mono ?_); rintro e' w1 ⟨rfl, z1⟩; have q1 := FA.out _ z1; obtain ⟨⟨c0, c1⟩, c2, c3⟩ := q1; have Z1 := Lib.hid z1; clear z1))
            go_ret
            exact ⟨rfl, Z1.out.bel⟩
          · go_enter Tryd.func31, Tryd.ntmps31
            go_wp2_with (first | (go_at_call 81; have hq := Z1; (with_reducible refine (EL.out _ hq.out).mono ?_); rintro e' w2 ⟨rfl, z2⟩; clear hq) | (go_at_call 81; (with_reducible refine (EC.out _ HX0.out).mono ?_); rintro e' w1 ⟨rfl, z1⟩; have q1 := FA.out _ z1; obtain ⟨⟨c0, c1⟩, c2, c3⟩ := q1; have Z1 := Lib.hid z1; clear z1))
            go_ret
            exact ⟨rfl, z2.bel⟩
end Go.Proofs.YtoojdknfommpbaaDoor
