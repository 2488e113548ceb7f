/- The walk of draymanref07.Fit. -/
import Derived.Test.YtoojdknfommpbaaDoorSuperFitRef
import Derived.Test.YtoojdknfommpbaaDoorSuperEnc
namespace Go.Proofs.YtoojdknfommpbaaDoor
open Go.RowKit
set_option maxRecDepth 10000

section
variable {P : Program} {ops : Array Oper} {rest : List Oper} {o : Oper} {a : Act} {Q : Exit → Act → World → Prop}
theorem run_append_none (w : World) (base : Nat) (t ty e : TypeId) (i : TypeInfo) (size : Nat) (ht : P.underlying t = some (.slice e)) (hi : P.info? e = some i)
    (v : Value) (n : Nat) (xs : List Value) (hown : w.ownsRow base e size v n xs) (c : Nat) :
    (Builtin.append_ #[t, t] ty #[v, .slice none 0 c]).run P w = .ok v w := by
  rcases hown.2 with ⟨rfl, rfl⟩ | ⟨g, cap, cur, rfl, _, _, hnc, _⟩
  · simp [Builtin.append_, run_underlying ht, sizeOf, typeInfo, hi, Builtin.lenOf, Builtin.firstCells]
  · simp [Builtin.append_, run_underlying ht, sizeOf, typeInfo, hi, Builtin.lenOf, Builtin.firstCells, hnc, storeCells]
/-- append(s, x...) of numbers that read. -/
theorem append_ints {w0 W : World} (base : Nat) (hgd : o.guard = none) (s x : Operand) (t e : TypeId) (bytes : Nat)
    (ho : o.op = .call { callee := .builtin .append, args := #[s, x], argTypes := #[t, t] })
    (ht : P.underlying t = some (.slice e)) (hinfo : (P.info? e).map (fun i => (i.zero, i.size, i.bytes)) = some (some (.int .i64 0), 1, bytes)) (hb0 : 0 < bytes)
    (v : Value) (l : List Int) (A : Option Addr) (c : Nat) (m : List Int) (hs : a.eval s = v) (hx : a.eval x = .slice A m.length c)
    (HO : Own (Value.int .i64) e base W v l) (HS : Sl (Value.int .i64) W (.slice A m.length c) m) (HB : Below base w0 W) (hbase : base ≤ W.heap.size) (hl : (l.length + m.length) * bytes ≤ 140737488355328)
    (h : ∀ v1 w1, Own (Value.int .i64) e base w1 v1 (l ++ m) → Below base w0 w1 → wpList P ops Q rest (a.put o.dst v1) w1) :
    wpList P ops Q (o :: rest) a W := by
  obtain ⟨i0, hi, hzz⟩ := Option.map_eq_some_iff.1 hinfo
  simp only [Prod.mk.injEq] at hzz
  obtain ⟨hz0, hz1, hz2⟩ := hzz
  have hlen : l.length + m.length ≤ 140737488355328 := Nat.le_trans (Nat.le_mul_of_pos_right _ hb0) hl
  obtain ⟨A', c', he, _, hr⟩ := HS
  cases he
  rcases A with _ | ad
  · have hm0 : m = [] := by
      rcases m with _ | ⟨y, m⟩
      · rfl
      · obtain ⟨_, h9, _⟩ := hr 0 (by simp); cases h9
    subst hm0
    refine wpList_plain hgd fun K hK => ?_
    have hrun := run_append_none (P := P) W base t o.type e i0 1 ht hi v l.length (l.map (Value.int .i64)) HO c
    unfold Oper.wp execOp
    simp only [List.length_nil] at hx
    simp only [ho, resolve, invoke, builtin, Sem.run_bind, Sem.run_pure, Result.andThen_ok, List.map_toArray, List.map_cons, List.map_nil, hs, hx, hrun]
    exact hK _ _ (h v W (by rw [List.append_nil]; exact HO) HB)
  · refine wpList_append_own_at W hgd s x t ho base e i0 (.int .i64 0) 1 bytes ht hi hz0 hz1 hz2 rfl (by decide) v l.length (l.map (Value.int .i64)) hs HO ad m.length c (m.map (Value.int .i64)) hx (by simp) ?_
      (by intro u hu; obtain ⟨y, _, rfl⟩ := List.mem_map.1 hu; rfl) (by simp only [maxLen]; omega) hl hbase ?_
    · intro j u hj
      rw [List.getElem?_map] at hj
      obtain ⟨y, hy, rfl⟩ := Option.map_eq_some_iff.1 hj
      obtain ⟨hjl, rfl⟩ := List.getElem?_eq_some_iff.1 hy
      obtain ⟨a2, h2, h3⟩ := hr j hjl
      cases h2; exact h3
    · intro v1 w1 hown hg _ _
      exact h v1 w1 (by unfold Own; simpa using hown) (HB.grown hg hbase fun k hk => (HO.lt k hk).1)
end
set_option maxHeartbeats 4000000 in
theorem sfit_ref (x : Sup) (A B : Option Addr) (c d : Nat) (w : World) (h1 : Sl (Value.int .i64) w (.slice A x.check.length c) x.check) (h2 : Sl (Value.int .i64) w (.slice B x.log.length d) x.log) (hl1 : x.check.length ≤ 140737488351232) (hl2 : x.log.length ≤ 140737488351232) :
    Calls Tryd.prog 33 #[SupV x (.slice A x.check.length c) (.slice B x.log.length d)] w fun e w' => e = .returned (.bool (decide x.fit)) ∧ Below w.heap.size w w' := by
  have HB0 := Lib.hid (SX.new w x (.slice A x.check.length c) (.slice B x.log.length d))
  by_cases hbig : 63 < x.check.length ∨ 63 < x.log.length
  · have HR : Hid (decide x.fit = false) := Lib.hid (decide_eq_false fun h => by have := fit_lengths h; omega)
    rw [HR.out]
    have hnI : (x.check.length : Int) ≤ 140737488351232 := by omega
    have hmI : (x.log.length : Int) ≤ 140737488351232 := by omega
    generalize x.check.length = n at *
    generalize x.log.length = m at *
    obtain ⟨gen, base, size, cgen, chk, lg⟩ := x
    unfold SupV
    simp only at *
    by_cases hb1 : 63 < n
    · have hI : 63 < (n : Int) := by omega
      clear h1 h2 hbig hb1
      go_enter Tryd.func33, Tryd.ntmps33
      go_wp2
      go_ret
      exact ⟨rfl, HB0.out.2⟩
    · have hI : (n : Int) ≤ 63 := by omega
      have hI2 : 63 < (m : Int) := by omega
      clear h1 h2 hbig hb1
      go_enter Tryd.func33, Tryd.ntmps33
      go_wp2
      go_ret
      exact ⟨rfl, HB0.out.2⟩
  have hn63 : (x.check.length : Int) ≤ 63 := by omega
  have hm63 : (x.log.length : Int) ≤ 63 := by omega
  have H1 := Lib.hid h1
  have H2 := Lib.hid h2
  obtain ⟨gen, base, size, cgen, chk, lg⟩ := x
  unfold SupV
  simp only at *
  obtain ⟨wb, hwb⟩ : ∃ wb, w.alloc (.cells #[.int .i64 gen, .int .i64 base, .int .i64 size, .int .i64 cgen, .slice A chk.length c, .slice B lg.length d] 41) = wb := ⟨_, rfl⟩
  have HWb := Lib.hid hwb
  have HX0 : Hid (SX w ⟨gen, base, size, cgen, chk, lg⟩ (.slice A chk.length c) (.slice B lg.length d) wb) := by rw [← hwb]; exact HB0
  have HS1 : Hid (∀ W, Below wb.heap.size wb W → Sl (Value.int .i64) W (.slice A chk.length c) chk) := Lib.hid fun W h => (h1.below HX0.out.2).below h
  have HS2 : Hid (∀ W, Below wb.heap.size wb W → Sl (Value.int .i64) W (.slice B lg.length d) lg) := Lib.hid fun W h => (h2.below HX0.out.2).below h
  have HSX : Hid (∀ W, Below wb.heap.size wb W → SX w ⟨gen, base, size, cgen, chk, lg⟩ (.slice A chk.length c) (.slice B lg.length d) W) := Lib.hid fun W h => HX0.out.below h
  have HFA : Hid (∀ W, Below wb.heap.size wb W → W.cell? ⟨w.heap.size, 0, none⟩ = some (.int .i64 gen) ∧ W.cell? ⟨w.heap.size, 1, none⟩ = some (.int .i64 base) ∧ W.cell? ⟨w.heap.size, 2, none⟩ = some (.int .i64 size) ∧ W.cell? ⟨w.heap.size, 3, none⟩ = some (.int .i64 cgen) ∧ W.cell? ⟨w.heap.size, 4, none⟩ = some (.slice A chk.length c) ∧ W.cell? ⟨w.heap.size, 5, none⟩ = some (.slice B lg.length d)) := Lib.hid fun W h => cells6 (HSX.out W h).1
  clear h1 h2 hbig hwb
  go_enter Tryd.func33, Tryd.ntmps33
  go_upto_region 4 with fail
  rw [HWb.out]
  have q0 := HFA.out wb (Below.refl _ _)
  obtain ⟨c0, c1, c2, c3, c4, c5⟩ := q0
  go_upto_region 6 with (first
    | (at_builtin; refine append_ints wb.heap.size rfl (.tmp 15) (.tmp 17) 37 3 8 rfl Tryd.underlying37 info_intS (by decide) (.slice none 0 0) [] A c chk rfl rfl (Own.nil _ _ _ _) (HS1.out _ (Below.refl _ _)) (Below.refl _ _) (Nat.le_refl _) (by simp; omega) ?_; intro v1 w1 hown1 hbel1; rw [List.nil_append] at hown1; have q1 := HFA.out w1 hbel1; obtain ⟨d0, d1, d2, d3, d4, d5⟩ := q1; have HO1 := Lib.hid hown1; have HL1 := Lib.hid hbel1; clear hown1 hbel1)
    | (at_builtin; refine append_ints wb.heap.size rfl (.tmp 19) (.tmp 21) 37 3 8 rfl Tryd.underlying37 info_intS (by decide) v1 chk B d lg rfl rfl HO1.out (HS2.out _ HL1.out) HL1.out HL1.out.size (by omega) ?_; intro v2 w2 hown2 hbel2; obtain ⟨A3, e3, rfl⟩ := hown2.slice; have HO2 := Lib.hid hown2.sl; have HL2 := Lib.hid hbel2; clear hown2 hbel2))
  have q2 := HFA.out w2 HL2.out
  obtain ⟨f0, f1, f2, f3, f4, f5⟩ := q2
  have HAp : Hid (Calls Tryd.prog 82 #[.slice A3 (chk ++ lg).length e3] w2 fun e w' => e = .returned (.bool (decide (apartL (chk ++ lg)))) ∧ Below w2.heap.size w2 w') := Lib.hid (apart_any A3 e3 (chk ++ lg) w2 HO2.out (by rw [List.length_append]; omega))
  clear HO1 HO2 d0 d1 d2 d3 d4 d5 c0 c1 c2 c3 c4 c5
  obtain ⟨b8, hb8⟩ : ∃ b, decide (apartL (chk ++ lg)) = b := ⟨_, rfl⟩
  rw [hb8] at HAp
  have HB8 := Lib.hid hb8
  clear hb8
  obtain ⟨b1, hb1⟩ : ∃ b, decide (1 ≤ gen) = b := ⟨_, rfl⟩
  obtain ⟨b2, hb2⟩ : ∃ b, decide (gen ≤ 1099511627776) = b := ⟨_, rfl⟩
  obtain ⟨b3, hb3⟩ : ∃ b, decide (0 ≤ base) = b := ⟨_, rfl⟩
  obtain ⟨b4, hb4⟩ : ∃ b, decide (base ≤ 1099511627776) = b := ⟨_, rfl⟩
  obtain ⟨b5, hb5⟩ : ∃ b, decide (0 ≤ cgen) = b := ⟨_, rfl⟩
  obtain ⟨b6, hb6⟩ : ∃ b, decide (cgen ≤ gen) = b := ⟨_, rfl⟩
  obtain ⟨b7, hb7⟩ : ∃ b, decide (0 < lg.length) = b := ⟨_, rfl⟩
  have HBs : Hid (b1 = decide (1 ≤ gen) ∧ b2 = decide (gen ≤ 1099511627776) ∧ b3 = decide (0 ≤ base) ∧ b4 = decide (base ≤ 1099511627776) ∧ b5 = decide (0 ≤ cgen) ∧ b6 = decide (cgen ≤ gen) ∧ b7 = decide (0 < lg.length)) := Lib.hid ⟨hb1.symm, hb2.symm, hb3.symm, hb4.symm, hb5.symm, hb6.symm, hb7.symm⟩
  rw [List.length_append] at HAp
  go_cut [4] from 5 (fun v W => v = .bool (b1 && b2 && b3 && b4 && b5 && b6 && b7 && b8) ∧ Hid (Below w2.heap.size w2 W))
  case first =>
    cases b1
    · go_wp2_with (go_at_call 82; (with_reducible refine HAp.out.mono ?_); rintro e w3 ⟨rfl, hbb⟩)
      go_meet
      case rel => exact ⟨rfl, Lib.hid (Below.refl _ _)⟩
    · cases b2
      · go_wp2_with (go_at_call 82; (with_reducible refine HAp.out.mono ?_); rintro e w3 ⟨rfl, hbb⟩)
        go_meet
        case rel => exact ⟨rfl, Lib.hid (Below.refl _ _)⟩
      · cases b3
        · go_wp2_with (go_at_call 82; (with_reducible refine HAp.out.mono ?_); rintro e w3 ⟨rfl, hbb⟩)
          go_meet
          case rel => exact ⟨rfl, Lib.hid (Below.refl _ _)⟩
        · cases b4
          · go_wp2_with (go_at_call 82; (with_reducible refine HAp.out.mono ?_); rintro e w3 ⟨rfl, hbb⟩)
            go_meet
            case rel => exact ⟨rfl, Lib.hid (Below.refl _ _)⟩
          · cases b5
            · go_wp2_with (go_at_call 82; (with_reducible refine HAp.out.mono ?_); rintro e w3 ⟨rfl, hbb⟩)
              go_meet
              case rel => exact ⟨rfl, Lib.hid (Below.refl _ _)⟩
            · cases b6
              · go_wp2_with (go_at_call 82; (with_reducible refine HAp.out.mono ?_); rintro e w3 ⟨rfl, hbb⟩)
                go_meet
                case rel => exact ⟨rfl, Lib.hid (Below.refl _ _)⟩
              · cases b7
                · go_wp2_with (go_at_call 82; (with_reducible refine HAp.out.mono ?_); rintro e w3 ⟨rfl, hbb⟩)
                  go_meet
                  case rel => exact ⟨rfl, Lib.hid (Below.refl _ _)⟩
                · go_wp2_with (go_at_call 82; (with_reducible refine HAp.out.mono ?_); rintro e w3 ⟨rfl, hbb⟩)
                  go_meet
                  case rel => exact ⟨rfl, Lib.hid hbb⟩
  case rest =>
    obtain ⟨rfl, HWc⟩ := hcut
    have q3 := HFA.out wc (below_next HL2.out HWc.out)
    obtain ⟨g0, g1, g2, g3, g4, g5⟩ := q3
    obtain ⟨hb, hhb⟩ : ∃ hb, (b1 && b2 && b3 && b4 && b5 && b6 && b7 && b8) = hb := ⟨_, rfl⟩
    have HH : Hid (hb = true ↔ (1 ≤ gen ∧ gen ≤ 1099511627776 ∧ 0 ≤ base ∧ base ≤ 1099511627776 ∧ 0 ≤ cgen ∧ cgen ≤ gen ∧ lg ≠ [] ∧ apartL (chk ++ lg))) := Lib.hid (by
      obtain ⟨e1, e2, e3, e4, e5, e6, e7⟩ := HBs.out
      rw [← hhb, ← HB8.out, e1, e2, e3, e4, e5, e6, e7]
      simp only [Bool.and_eq_true, decide_eq_true_eq, List.length_pos_iff]
      constructor
      · rintro ⟨⟨⟨⟨⟨⟨⟨h1, h2⟩, h3⟩, h4⟩, h5⟩, h6⟩, h7⟩, h8⟩
        exact ⟨h1, h2, h3, h4, h5, h6, h7, h8⟩
      · rintro ⟨h1, h2, h3, h4, h5, h6, h7, h8⟩
        exact ⟨⟨⟨⟨⟨⟨⟨h1, h2⟩, h3⟩, h4⟩, h5⟩, h6⟩, h7⟩, h8⟩)
    have HFit : Hid (decide (Sup.fit ⟨gen, base, size, cgen, chk, lg⟩) = (hb && decide (chk = [] ↔ cgen = 0) && decide (0 ≤ size) && decide (size ≤ (chk.length : Int) * 832))) := Lib.hid (by
      rw [Bool.eq_iff_iff]
      simp only [Bool.and_eq_true, decide_eq_true_eq]
      constructor
      · rintro ⟨h1, h2, h3, h4, h5, h6, h7, h8, h9, h10, h11⟩
        exact ⟨⟨⟨HH.out.2 ⟨h3, h4, h5, h6, h7, h8, h1, h2⟩, h9⟩, h10⟩, h11⟩
      · rintro ⟨⟨⟨h0, h9⟩, h10⟩, h11⟩
        obtain ⟨h3, h4, h5, h6, h7, h8, h1, h2⟩ := HH.out.1 h0
        exact ⟨h1, h2, h3, h4, h5, h6, h7, h8, h9, h10, h11⟩)
    have HG : Hid (hb = true → 0 ≤ cgen) := Lib.hid fun h => (HH.out.1 h).2.2.2.2.1
    have HW : Hid (Below w.heap.size w wc) := Lib.hid (HSX.out wc (below_next HL2.out HWc.out)).2
    rw [hhb]
    clear hhb HH HBs HB8 hb1 hb2 hb3 hb4 hb5 hb6 hb7 f0 f1 f2 f3 f4 f5 HAp
    by_cases hn0 : chk = []
    · subst hn0
      obtain ⟨c1, hc1⟩ : ∃ b, (cgen == 0) = b := ⟨_, rfl⟩
      obtain ⟨c2, hc2⟩ : ∃ b, (size == 0) = b := ⟨_, rfl⟩
      have HF : Hid (decide (Sup.fit ⟨gen, base, size, cgen, [], lg⟩) = (hb && c1 && c2)) := Lib.hid (by
        rw [HFit.out, ← hc1, ← hc2, Bool.eq_iff_iff]
        simp only [Bool.and_eq_true, decide_eq_true_eq, beq_iff_eq, true_iff, List.length_nil]
        constructor
        · rintro ⟨⟨⟨h0, h9⟩, h10⟩, h11⟩; exact ⟨⟨h0, h9⟩, by omega⟩
        · rintro ⟨⟨h0, h9⟩, h10⟩; exact ⟨⟨⟨h0, h9⟩, by omega⟩, by omega⟩)
      simp only [List.length_nil] at g4
      cases hb
      · go_wp2
        go_ret
        exact ⟨ret_bool HF.out.symm, HW.out⟩
      · cases c1
        · go_wp2
          go_ret
          exact ⟨ret_bool HF.out.symm, HW.out⟩
        · go_wp2
          go_ret
          exact ⟨ret_bool HF.out.symm, HW.out⟩
    · have hnB : ((chk.length : Int) == 0) = false := by simp; exact hn0
      obtain ⟨c3, hc3⟩ : ∃ b, decide (0 < cgen) = b := ⟨_, rfl⟩
      obtain ⟨c4, hc4⟩ : ∃ b, decide (0 ≤ size) = b := ⟨_, rfl⟩
      obtain ⟨c5, hc5⟩ : ∃ b, decide (size ≤ (chk.length : Int) * 8 * 104) = b := ⟨_, rfl⟩
      have HF : Hid (decide (Sup.fit ⟨gen, base, size, cgen, chk, lg⟩) = (hb && c3 && c4 && c5)) := Lib.hid (by
        rw [HFit.out, ← hc3, ← hc4, ← hc5, Bool.eq_iff_iff]
        simp only [Bool.and_eq_true, decide_eq_true_eq]
        constructor
        · rintro ⟨⟨⟨h0, h9⟩, h10⟩, h11⟩
          have := HG.out h0
          refine ⟨⟨⟨h0, ?_⟩, h10⟩, by omega⟩
          rcases Int.lt_or_eq_of_le this with h | h
          · exact h
          · exact absurd (h9.2 h.symm) hn0
        · rintro ⟨⟨⟨h0, h9⟩, h10⟩, h11⟩
          exact ⟨⟨⟨h0, ⟨fun h => absurd h hn0, fun h => by omega⟩⟩, h10⟩, by omega⟩)
      clear hn0
      cases hb
      · go_wp2
        go_ret
        exact ⟨ret_bool HF.out.symm, HW.out⟩
      · cases c3
        · go_wp2
          go_ret
          exact ⟨ret_bool HF.out.symm, HW.out⟩
        · cases c4
          · go_wp2
            go_ret
            exact ⟨ret_bool HF.out.symm, HW.out⟩
          · go_wp2
            go_ret
            exact ⟨ret_bool HF.out.symm, HW.out⟩
end Go.Proofs.YtoojdknfommpbaaDoor
