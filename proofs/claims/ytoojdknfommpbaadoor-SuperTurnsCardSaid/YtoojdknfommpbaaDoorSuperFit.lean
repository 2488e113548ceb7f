/- The walk of super.Fit. -/
import Derived.Test.YtoojdknfommpbaaDoorSuperOct2
import Derived.Test.YtoojdknfommpbaaDoorWireRead2
namespace Go.Proofs.YtoojdknfommpbaaDoor
open Go.RowKit
set_option maxRecDepth 10000

def SupV (x : Sup) (cv lv : Value) : Value := .agg #[.int .i64 x.gen, .int .i64 x.base, .int .i64 x.size, .int .i64 x.cgen, cv, lv]
theorem Tou.cell {b : Nat} {w W : World} (h : Tou (One1 b) w W) {a : Addr} {v : Value} (hc : w.cell? a = some v) (hne : a.block ≠ b) : W.cell? a = some v := by
  have hk := h.block a.block (World.block_lt_of_cell? w a hc) hne
  exact (World.cell?_of_block (a := a) hk).trans hc
def preL (x : Sup) (q : Nat) : List Int := if q = 0 then [] else if q = 1 then x.check else x.check ++ x.log
theorem apart_snoc {l : List Int} {s : Int} (h : apartL l) (h0 : 0 ≤ s) (h1 : s < 63) (h2 : hasB l s = false) : apartL (l ++ [s]) := by
  refine ⟨fun y hy => ?_, ?_⟩
  · rcases List.mem_append.1 hy with hy | hy
    · exact h.1 y hy
    · simp at hy; subst hy; exact ⟨h0, h1⟩
  · rw [List.nodup_append]
    refine ⟨h.2, by simp, fun y hy z hz => ?_⟩
    simp at hz; subst hz
    rintro rfl
    have := hasB_true.2 hy
    rw [h2] at this; cases this
theorem apart_bad {l r : List Int} {s : Int} (h : s < 0 ∨ 63 ≤ s ∨ hasB l s = true) : ¬ apartL (l ++ s :: r) := by
  rintro ⟨h1, h2⟩
  rcases h with h | h | h
  · have := (h1 s (by simp)).1; omega
  · have := (h1 s (by simp)).2; omega
  · rw [List.nodup_append] at h2
    exact h2.2.2 s (hasB_true.1 h) s (by simp) rfl
theorem apart_pre {l r : List Int} (h : apartL (l ++ r)) : apartL l := ⟨fun y hy => h.1 y (List.mem_append_left _ hy), (List.nodup_append.1 h.2).1⟩
theorem split_at (l : List Int) (k : Nat) (h : k < l.length) : l = l.take k ++ l[k] :: l.drop (k + 1) := by
  rw [← List.drop_eq_getElem_cons h, List.take_append_drop]
theorem pre_all (x : Sup) (q : Nat) (hq : q ≤ 2) : ∃ r, x.check ++ x.log = preL x q ++ r := by
  rcases (show q = 0 ∨ q = 1 ∨ q = 2 by omega) with rfl | rfl | rfl
  · exact ⟨_, rfl⟩
  · exact ⟨_, rfl⟩
  · exact ⟨[], by simp [preL]⟩

theorem fit_world {w w3 : World} {gen base size cgen : Int} {A B : Option Addr} {n m c d : Nat}
    (h : ((w.alloc (.cells #[.int .i64 gen, .int .i64 base, .int .i64 size, .int .i64 cgen, .slice A n c, .slice B m d] 41)).alloc (.cells (Array.replicate 63 (.bool false)) 107)).alloc (.cells #[.slice A n c, .slice B m d] 37) = w3) :
    Below w.heap.size w w3 ∧ (w3.cell? ⟨w.heap.size, 0, none⟩ = some (.int .i64 gen) ∧ w3.cell? ⟨w.heap.size, 1, none⟩ = some (.int .i64 base) ∧ w3.cell? ⟨w.heap.size, 2, none⟩ = some (.int .i64 size) ∧ w3.cell? ⟨w.heap.size, 3, none⟩ = some (.int .i64 cgen) ∧ w3.cell? ⟨w.heap.size, 4, none⟩ = some (.slice A n c) ∧ w3.cell? ⟨w.heap.size, 5, none⟩ = some (.slice B m d)) ∧
    BoolsAt w3 (w.heap.size + 1) 63 (fun _ => false) ∧ w3.cell? ⟨w.heap.size + 1 + 1, 0, none⟩ = some (.slice A n c) ∧ w3.cell? ⟨w.heap.size + 1 + 1, 1, none⟩ = some (.slice B m d) ∧ True := by
  generalize hw1 : w.alloc (.cells #[.int .i64 gen, .int .i64 base, .int .i64 size, .int .i64 cgen, .slice A n c, .slice B m d] 41) = w1 at h
  generalize hw2 : w1.alloc (.cells (Array.replicate 63 (.bool false)) 107) = w2 at h
  have s1 : w1.heap.size = w.heap.size + 1 := by rw [← hw1]; simp
  have s2 : w2.heap.size = w.heap.size + 1 + 1 := by rw [← hw2]; simp [s1]
  have b1 : Below w.heap.size w w1 := by rw [← hw1]; exact below_new _ _
  have b2 : Below w1.heap.size w1 w2 := by rw [← hw2]; exact below_new _ _
  have b3 : Below w2.heap.size w2 w3 := by rw [← h]; exact below_new _ _
  have z : w1.heap[w.heap.size]? = some (.cells #[.int .i64 gen, .int .i64 base, .int .i64 size, .int .i64 cgen, .slice A n c, .slice B m d] 41 (0, 0)) := by
    rw [← hw1]; show (w.heap.push _)[w.heap.size]? = _; simp
  have z3 : w3.heap[w.heap.size]? = some (.cells #[.int .i64 gen, .int .i64 base, .int .i64 size, .int .i64 cgen, .slice A n c, .slice B m d] 41 (0, 0)) :=
    (b3.block _ (by omega)).trans ((b2.block _ (by omega)).trans z)
  refine ⟨below_next (below_next b1 b2) b3, ?_, ?_, ?_, ?_, trivial⟩
  · unfold World.cell?; rw [z3]; exact ⟨rfl, rfl, rfl, rfl, rfl, rfl⟩
  · have := bools_new w1 (Array.replicate 63 (.bool false)) 107 63 rfl
    rw [hw2, s1] at this
    exact this.below b3 (by omega)
  · rw [← h, ← s2]; exact World.cell?_alloc_new _ _ _ _
  · rw [← h, ← s2]; exact World.cell?_alloc_new _ _ _ _
set_option maxHeartbeats 4000000 in
theorem sfit_any (x : Sup) (A B : Option Addr) (c d : Nat) (w : World) (h1 : Sl (Value.int .i64) w (.slice A x.check.length c) x.check) (h2 : Sl (Value.int .i64) w (.slice B x.log.length d) x.log) (hl1 : x.check.length ≤ 140737488351232) (hl2 : x.log.length ≤ 140737488351232) :
    Calls Tryd.prog 32 #[SupV x (.slice A x.check.length c) (.slice B x.log.length d)] w fun e w' => e = .returned (.bool (decide x.fit)) ∧ Below w.heap.size w w' := by
  obtain ⟨n, hn⟩ : ∃ n, x.check.length = n := ⟨_, rfl⟩
  obtain ⟨m, hm⟩ : ∃ m, x.log.length = m := ⟨_, rfl⟩
  have H1 := Lib.hid h1
  have H2 := Lib.hid h2
  have HN := Lib.hid hn
  have HM := Lib.hid hm
  rw [hn] at hl1 ⊢
  rw [hm] at hl2 ⊢
  have hnI : (n : Int) ≤ 140737488351232 := by omega
  have hmI : (m : Int) ≤ 140737488351232 := by omega
  obtain ⟨gen, base, size, cgen, chk, lg⟩ := x
  unfold SupV
  simp only at *
  have HB0 := Lib.hid (below_new w (.cells #[.int .i64 gen, .int .i64 base, .int .i64 size, .int .i64 cgen, .slice A n c, .slice B m d] 41))
  by_cases hm0 : m = 0
  · have hmz : (m : Int) = 0 := by omega
    have HR : Hid (decide (Sup.fit ⟨gen, base, size, cgen, chk, lg⟩) = false) := Lib.hid (decide_eq_false fun h => h.1 (List.eq_nil_of_length_eq_zero (by show lg.length = 0; omega)))
    rw [HR.out]
    clear h1 h2 hm0 hn hm
    go_enter Tryd.func32, Tryd.ntmps32
    go_wp2
    go_ret
    exact ⟨rfl, HB0.out⟩
  have hmB : ((m : Int) == 0) = false := by simp; omega
  by_cases hnm : 63 < n + m
  · have hnmI : 63 < (n : Int) + (m : Int) := by omega
    have HR : Hid (decide (Sup.fit ⟨gen, base, size, cgen, chk, lg⟩) = false) := Lib.hid (decide_eq_false fun h => by
      have h9 : chk.length + lg.length ≤ 63 := fit_lengths h
      omega)
    rw [HR.out]
    clear h1 h2 hm0 hn hm hnm
    go_enter Tryd.func32, Tryd.ntmps32
    go_wp2
    go_ret
    exact ⟨rfl, HB0.out⟩
  have hnmI : (n : Int) + (m : Int) ≤ 63 := by omega
  obtain ⟨x, hx⟩ : ∃ x : Sup, x = ⟨gen, base, size, cgen, chk, lg⟩ := ⟨_, rfl⟩
  have HX := Lib.hid hx
  rw [← hx]
  clear h1 h2 hn hm hnm hx
  go_enter Tryd.func32, Tryd.ntmps32
  go_wp2
  generalize hw3 : ((w.alloc (.cells #[.int .i64 gen, .int .i64 base, .int .i64 size, .int .i64 cgen, .slice A n c, .slice B m d] 41)).alloc _).alloc _ = w3
  have HP := Lib.hid (fit_world hw3)
  have HB3 := Lib.hid (HP.out.1)
  have HPair : Hid (∀ q, q < 2 → ∃ AA cc LL, w3.cell? ⟨w.heap.size + 1 + 1, q, none⟩ = some (.slice AA (List.length LL) cc) ∧ Sl (Value.int .i64) w (.slice AA (List.length LL) cc) LL ∧ preL x (q + 1) = preL x q ++ LL ∧ (List.length LL) ≤ 63) := Lib.hid fun q hq => by
    rcases (show q = 0 ∨ q = 1 by omega) with rfl | rfl
    · exact ⟨A, c, chk, by rw [HN.out]; exact HP.out.2.2.2.1, H1.out, by rw [HX.out]; rfl, by rw [HN.out]; omega⟩
    · exact ⟨B, d, lg, by rw [HM.out]; exact HP.out.2.2.2.2.1, H2.out, by rw [HX.out]; rfl, by rw [HM.out]; omega⟩
  have HBx : Hid (∀ W, Tou (One1 (w.heap.size + 1)) w3 W → (W.cell? ⟨w.heap.size, 0, none⟩ = some (.int .i64 gen) ∧ W.cell? ⟨w.heap.size, 1, none⟩ = some (.int .i64 base) ∧ W.cell? ⟨w.heap.size, 2, none⟩ = some (.int .i64 size) ∧ W.cell? ⟨w.heap.size, 3, none⟩ = some (.int .i64 cgen) ∧ W.cell? ⟨w.heap.size, 4, none⟩ = some (.slice A n c) ∧ W.cell? ⟨w.heap.size, 5, none⟩ = some (.slice B m d)) ∧ Below w.heap.size w W) := Lib.hid fun W ht => by
    obtain ⟨b0, ⟨k0, k1, k2, k3, k4, k5⟩, _⟩ := HP.out
    have hne : w.heap.size ≠ w.heap.size + 1 := by omega
    exact ⟨⟨ht.cell k0 hne, ht.cell k1 hne, ht.cell k2 hne, ht.cell k3 hne, ht.cell k4 hne, ht.cell k5 hne⟩, b0.trans (ht.below b0.size fun k hk => by unfold One1 at hk; omega)⟩
  have HNew : Hid (BoolsAt w3 (w.heap.size + 1) 63 (fun j => hasB (preL x 0) (j : Int))) := Lib.hid (HP.out.2.2.1.congr fun _ => rfl)
  clear hw3
  go_loopw [29] (fun i W => ∃ q : Nat, q ≤ 2 ∧ i = .int .i64 q ∧ Hid (BoolsAt W (w.heap.size + 1) 63 (fun j => hasB (preL x q) (j : Int)) ∧ apartL (preL x q) ∧ Tou (One1 (w.heap.size + 1)) w3 W)) (fun i _ => 2 - (intOf i).toNat)
  case atStart => exact ⟨0, by omega, rfl, Lib.hid ⟨HNew.out, ⟨by simp [preL], by simp [preL]⟩, Tou.refl _ _⟩⟩
  case round =>
    obtain ⟨q, hq, rfl, HI⟩ := hrel
    by_cases hq2 : q < 2
    · have hqI : (q : Int) < 2 := by omega
      obtain ⟨AA, cc, LL, p0, hsl, hpre, hll⟩ := HPair.out q hq2
      have pc := HI.out.2.2.cell p0 (by show w.heap.size + 1 + 1 ≠ w.heap.size + 1; omega)
      have HSl := Lib.hid hsl
      have HPre := Lib.hid hpre
      obtain ⟨N, hN⟩ : ∃ N, List.length LL = N := ⟨_, rfl⟩
      have HNN := Lib.hid hN
      rw [hN] at pc hll
      have hllI : (N : Int) ≤ 63 := by omega
      have HBad : Hid (∀ k (h : k < LL.length), (LL[k] < 0 ∨ 63 ≤ LL[k] ∨ hasB (preL x q ++ LL.take k) LL[k] = true) → decide x.fit = false) := Lib.hid fun k h hb => decide_eq_false fun hf => by
        obtain ⟨r, hr⟩ := pre_all x (q + 1) (by omega)
        have h3 := hf.2.1
        rw [hr, hpre] at h3
        have h4 := apart_pre h3
        rw [split_at LL k h, ← List.append_assoc] at h4
        exact apart_bad hb h4
      clear hsl hpre p0 hN
      go_wp2
      go_loopw [35] (fun i W => ∃ k : Nat, k ≤ N ∧ i = .int .i64 k ∧ Hid (BoolsAt W (w.heap.size + 1) 63 (fun j => hasB (preL x q ++ LL.take k) (j : Int)) ∧ apartL (preL x q ++ LL.take k) ∧ Tou (One1 (w.heap.size + 1)) w3 W)) (fun i _ => N - (intOf i).toNat)
      case atStart => exact ⟨0, by omega, rfl, Lib.hid ⟨by simpa using HI.out.1, by simpa using HI.out.2.1, HI.out.2.2⟩⟩
      case round =>
        obtain ⟨k, hk, rfl, HJ⟩ := hrel
        by_cases hlt : k < N
        · have hlt' : k < LL.length := by rw [HNN.out]; exact hlt
          obtain ⟨A2, c2, he2, _, hr2⟩ := HSl.out
          cases he2
          obtain ⟨a, rfl, e0⟩ := hr2 k hlt'
          have hbw := (HBx.out _ HJ.out.2.2).2
          have e1 := cell_below hbw e0
          clear hr2 e0
          have HB9 := Lib.hid (HBad.out k hlt')
          have hsn := take_snoc' LL k hlt'
          have hkI : (k : Int) < (N : Int) := by omega
          generalize LL[k] = s at *
          by_cases hin : 0 ≤ s ∧ s < 63
          · obtain ⟨S, rfl⟩ : ∃ S : Nat, s = S := ⟨s.toNat, by omega⟩
            obtain ⟨hs0, hs1⟩ := hin
            have hS : S < 63 := by omega
            obtain ⟨hcS, hfS⟩ := HJ.out.1 S hS
            cases hmet : hasB (preL x q ++ LL.take k) (S : Int)
            · simp only [hmet] at hcS
              have HJ2 : Hid (BoolsAt (wr.setCell ⟨w.heap.size + 1, S, none⟩ (.bool true)) (w.heap.size + 1) 63 (fun j => hasB (preL x q ++ LL.take (k + 1)) (j : Int)) ∧ apartL (preL x q ++ LL.take (k + 1)) ∧ Tou (One1 (w.heap.size + 1)) w3 (wr.setCell ⟨w.heap.size + 1, S, none⟩ (.bool true))) := Lib.hid ⟨by
                  have h9 : ∀ j : Int, hasB (preL x q ++ LL.take (k + 1)) j = (hasB (preL x q ++ LL.take k) j || ((S : Int) == j)) := fun j => by
                    unfold hasB; rw [hsn, ← List.append_assoc, List.contains_append]; congr 1
                    rw [List.contains_cons, List.contains_nil, Bool.or_false, Bool.beq_comm]
                  exact HJ.out.1.set S hS _ true (by rw [h9]; simp) (fun i hi => by rw [h9, beq_false_of_ne (show (S : Int) ≠ (i : Int) by omega), Bool.or_false]),
                by rw [hsn, ← List.append_assoc]; exact apart_snoc HJ.out.2.1 (by omega) (by omega) hmet, HJ.out.2.2.set (.inl (show One1 _ _ from rfl)) _ _⟩
              have hs1I : (S : Int) < 63 := hs1
              clear hsn hmet hs0 hs1 hbw
              go_wp2
              go_roundw
              case measure => simp [intOf]; omega
              case rel => exact ⟨k + 1, by omega, by go_num, HJ2⟩
            · simp only [hmet] at hcS
              have HF := Lib.hid (HB9.out (.inr (.inr hmet)))
              have hs1I : (S : Int) < 63 := hs1
              clear hsn hmet hs0 hs1
              go_wp2
              go_ret
              exact ⟨ret_bool HF.out.symm, hbw⟩
          · have HF := Lib.hid (HB9.out (by omega))
            clear hsn
            rcases (show s < 0 ∨ (0 ≤ s ∧ 63 ≤ s) by omega) with hs | ⟨hs, hs2⟩
            all_goals
              go_wp2
              go_ret
              exact ⟨ret_bool HF.out.symm, hbw⟩
        · obtain rfl : k = N := by omega
          have HJ2 : Hid (BoolsAt wr (w.heap.size + 1) 63 (fun j => hasB (preL x (q + 1)) (j : Int)) ∧ apartL (preL x (q + 1)) ∧ Tou (One1 (w.heap.size + 1)) w3 wr) := Lib.hid (by
            have := HJ.out
            rw [show LL.take k = LL by rw [← HNN.out, List.take_length], ← HPre.out] at this; exact this)
          go_wp2
          go_roundw
          case measure => simp [intOf]; omega
          case rel => exact ⟨q + 1, by omega, by go_num, HJ2⟩
    · obtain rfl : q = 2 := by omega
      obtain ⟨⟨k0, k1, k2, k3, k4, k5⟩, hbw⟩ := HBx.out _ HI.out.2.2
      have HAp : Hid (apartL (chk ++ lg)) := Lib.hid (by have := HI.out.2.1; rw [HX.out] at this; exact this)
      have HBw := Lib.hid hbw
      clear hbw HPair HNew
      by_cases hnum : 1 ≤ gen ∧ gen ≤ 1099511627776 ∧ 0 ≤ base ∧ base ≤ 1099511627776 ∧ 0 ≤ cgen ∧ cgen ≤ gen
      · obtain ⟨g1, g2, g3, g4, g5, g6⟩ := hnum
        have hm1 : lg ≠ [] := fun e => hm0 (by rw [← HM.out, e]; rfl)
        have HFit : Hid (decide x.fit = (decide (n = 0 ↔ cgen = 0) && decide (0 ≤ size) && decide (size ≤ (n : Int) * 832))) := Lib.hid (by
          rw [HX.out, ← Bool.decide_and, ← Bool.decide_and]
          apply decide_eq_decide.2
          have hc0 : chk = [] ↔ n = 0 := by rw [← HN.out]; exact List.length_eq_zero_iff.symm
          have hnn : (chk.length : Int) = (n : Int) := by rw [HN.out]
          constructor
          · rintro ⟨_, _, _, _, _, _, _, _, h9, h10, h11⟩
            exact ⟨⟨hc0.symm.trans h9, h10⟩, by rw [← hnn]; exact h11⟩
          · rintro ⟨⟨h9, h10⟩, h11⟩
            exact ⟨hm1, HAp.out, g1, g2, g3, g4, g5, g6, hc0.trans h9, h10, by rw [← hnn] at h11; exact h11⟩)
        obtain ⟨b1, hb1⟩ : ∃ b, ((n : Int) == 0) = b := ⟨_, rfl⟩
        obtain ⟨b2, hb2⟩ : ∃ b, (cgen == 0) = b := ⟨_, rfl⟩
        obtain ⟨b3, hb3⟩ : ∃ b, decide (0 ≤ size) = b := ⟨_, rfl⟩
        obtain ⟨b4, hb4⟩ : ∃ b, decide (size ≤ (n : Int) * 8 * 104) = b := ⟨_, rfl⟩
        have HF2 : Hid (decide x.fit = ((b1 == b2) && b3 && b4)) := Lib.hid (by
          rw [HFit.out, hb3]
          congr 1
          · congr 1
            rw [← hb1, ← hb2]
            rw [show ((n : Int) == 0) = decide (n = 0) by rw [Bool.eq_iff_iff]; simp, show (cgen == 0) = decide (cgen = 0) by rw [Bool.eq_iff_iff]; simp]
            by_cases e1 : n = 0 <;> by_cases e2 : cgen = 0 <;> simp [e1, e2]
          · rw [← hb4]; apply decide_eq_decide.2
            rw [Int.mul_assoc]; exact Iff.rfl)
        have hnlt : (n : Int) * 8 * 104 ≤ 9223372036854775807 := by omega
        clear HFit hm1
        have hcase : (b1 ≠ b2) ∨ (b1 = b2 ∧ b3 = false) ∨ (b1 = b2 ∧ b3 = true) := by cases b1 <;> cases b2 <;> cases b3 <;> simp
        rcases hcase with hne | ⟨rfl, rfl⟩ | ⟨rfl, rfl⟩
        · clear hb3 hb4
          cases b1 <;> cases b2
          · exact absurd rfl hne
          · clear hne
            go_wp2
            go_ret
            exact ⟨ret_bool HF2.out.symm, HBw.out⟩
          · clear hne
            go_wp2
            go_ret
            exact ⟨ret_bool HF2.out.symm, HBw.out⟩
          · exact absurd rfl hne
        · clear hb4
          cases b1
          all_goals
            go_wp2
            go_ret
            exact ⟨ret_bool HF2.out.symm, HBw.out⟩
        · cases b1 <;> cases b4
          all_goals
            go_wp2
            go_ret
            exact ⟨ret_bool HF2.out.symm, HBw.out⟩
      · have HF : Hid (decide x.fit = false) := Lib.hid (by rw [HX.out]; exact decide_eq_false fun h => hnum ⟨h.2.2.1, h.2.2.2.1, h.2.2.2.2.1, h.2.2.2.2.2.1, h.2.2.2.2.2.2.1, h.2.2.2.2.2.2.2.1⟩)
        go_wp2
        all_goals first | (exfalso; omega) | skip
        all_goals go_ret
        all_goals exact ⟨ret_bool HF.out.symm, HBw.out⟩
end Go.Proofs.YtoojdknfommpbaaDoor
