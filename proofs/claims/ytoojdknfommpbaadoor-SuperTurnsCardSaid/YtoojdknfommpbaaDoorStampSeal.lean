/- The walk of stamp.Seal. -/
import Derived.Test.YtoojdknfommpbaaDoorStampAux
import Derived.Deep.RegionWith
import Derived.Laws.CopyOwn
namespace Go.Proofs.YtoojdknfommpbaaDoor
open Go.RowKit
set_option maxRecDepth 10000

def sealE (x : Stp) (l : List UInt8) : Int := if x.fit then (if l.length ≤ 104 then 0 else 9) else 1
def sealS (x : Stp) (l : List UInt8) : List UInt8 := if sealE x l = 0 then sealB x l else []
theorem arr_new (w : World) : Arr (w.alloc (.cells Tryd.zeroCells83 83)) w.heap.size (zer 128) := by
  unfold Arr
  rw [show Tryd.zeroCells83 = (Lib.byteCells (zer 128)).toArray by kernel_rfl]
  show (w.heap.push _)[w.heap.size]? = _; simp
theorem arr_conv {W : World} {B : Nat} {l : List UInt8} (h : Arr W B l) (off k c : Nat) (hk : off + k ≤ l.length) :
    (convert 85 9 (.slice (some ⟨B, off, none⟩) k c)).run Tryd.prog W = .ok (.string (mkS ((l.drop off).take k))) W := by
  have hl : ((l.drop off).take k).length = k := by simp; omega
  have := run_convert_bytes_back (P := Tryd.prog) W 85 9 5 ⟨B, off, none⟩ c ((l.drop off).take k) Tryd.underlying85 Tryd.underlying5 Tryd.underlying9 (fun j hj => by
    have ha : (⟨B, off, none⟩ : Addr).add j = ⟨B, off + j, none⟩ := by unfold Addr.add; split <;> simp_all
    rw [ha, h.cell (off + j) (by omega)]; simp)
  rw [hl] at this; exact this
theorem size_u8 : (Tryd.prog.info? 5).map (·.size) = some 1 := by kernel_rfl
theorem arr_setRow {W : World} {B : Nat} {l : List UInt8} (h : Arr W B l) (m : List UInt8) (cs : Array Value) (hc : cs = (Lib.byteCells m).toArray) : Arr (W.setRow B cs) B m := by
  subst hc; exact setRow_heap W B _ _ _ _ h
theorem copy_str {w1 W : World} {B : Nat} {l : List UInt8} (h : Arr W B l) (hB : w1.heap.size ≤ B) (hb : Below w1.heap.size w1 W) (off n c : Nat) (s : ByteArray) (hs : s.size ≤ n) (hf : off + s.size ≤ l.length) :
    ∃ W', (Builtin.copy_ #[85, 9] 3 #[.slice (some ⟨B, off, none⟩) n c, .string s]).run Tryd.prog W = .ok (.int .i64 (s.size : Int)) W' ∧ Hid (Arr W' B (layB l off (bl s)) ∧ Below w1.heap.size w1 W') := by
  refine ⟨_, Lib.run_copy_row_string (P := Tryd.prog) W 85 9 3 5 B off n c s _ _ Tryd.underlying85 size_u8 h hs (by simp [Lib.byteCells]; omega), Lib.hid ⟨arr_setRow h _ _ ?_, below_setRow hb hB _⟩⟩
  unfold layB Lib.byteCells bl
  simp [List.map_take, List.map_drop]
theorem copy_arr {w1 W : World} {B : Nat} {l : List UInt8} (h : Arr W B l) (hB : w1.heap.size ≤ B) (hb : Below w1.heap.size w1 W) (off k c c' : Nat) (hf : off + k ≤ l.length) :
    ∃ W', (Builtin.copy_ #[85, 85] 3 #[.slice (some ⟨B, off, none⟩) k c, .slice (some ⟨B, 0, none⟩) k c']).run Tryd.prog W = .ok (.int .i64 (k : Int)) W' ∧ Hid (Arr W' B (layB l off (l.take k)) ∧ Below w1.heap.size w1 W') := by
  have hlk : (l.take k).length = k := by rw [List.length_take]; omega
  have hr := run_copy_row (P := Tryd.prog) W 85 85 3 5 B off k c ⟨B, 0, none⟩ k c' _ _ (Lib.byteCells (l.take k)) Tryd.underlying85 size_u8 h (by rw [Lib.byteCells_length, hlk]; show k = min k k; omega)
    (fun j v hj => by
      have ha : (⟨B, 0, none⟩ : Addr).add j = ⟨B, j, none⟩ := by unfold Addr.add; split <;> simp_all
      have hjk : j < k := by have := (List.getElem?_eq_some_iff.1 hj).1; rw [Lib.byteCells_length, hlk] at this; exact this
      rw [ha, h.cell j (by omega)]
      unfold Lib.byteCells at hj
      rw [List.getElem?_map, List.getElem?_take_of_lt hjk, List.getElem?_eq_getElem (by omega)] at hj
      exact hj) (by rw [Lib.byteCells_length, hlk]; simp [Lib.byteCells]; omega) (Lib.byteCells_one _)
  rw [Lib.byteCells_length, hlk] at hr
  refine ⟨_, hr, Lib.hid ⟨arr_setRow h _ _ ?_, below_setRow hb hB _⟩⟩
  unfold layB Lib.byteCells
  rw [hlk]
  simp [List.map_take, List.map_drop]
set_option maxHeartbeats 4000000 in
theorem seal_any (x : Stp) (s : ByteArray) (w : World) (hs : s.size ≤ 1000) :
    Calls Tryd.prog 13 #[x.val, .string s] w fun e w' => e = .returned (.tuple #[.string (mkS (sealS x (bl s))), .int .i64 (sealE x (bl s))]) ∧ Below w.heap.size w w' := by
  obtain ⟨a, b, c⟩ := x
  have hs' : s.size < 9223372036854775808 := by omega
  have CF := fun W => fit_any ⟨a, b, c⟩ W
  unfold Stp.val at *
  simp only at *
  have HB := Lib.hid (below_new w (.cells #[.int .i64 a, .int .i64 b, .int .i64 c] 23))
  have hbox : (w.alloc (.cells #[.int .i64 a, .int .i64 b, .int .i64 c] 23)).heap[w.heap.size]? = some (.cells #[.int .i64 a, .int .i64 b, .int .i64 c] 23 (0, 0)) := by
    show (w.heap.push _)[w.heap.size]? = _; simp
  by_cases hf : Stp.fit ⟨a, b, c⟩
  · rw [decide_eq_true hf] at CF
    have HCF := Lib.hid CF
    clear CF
    by_cases hl : s.size ≤ 104
    · have hlI : (s.size : Int) ≤ 104 := by omega
      have hE : sealE ⟨a, b, c⟩ (bl s) = 0 := by unfold sealE; rw [if_pos hf, if_pos (by rw [bl_length]; exact hl)]
      have hS : sealS ⟨a, b, c⟩ (bl s) = sealB ⟨a, b, c⟩ (bl s) := by unfold sealS; rw [if_pos hE]
      rw [hE, hS]
      obtain ⟨hn1, _, hi1, hc1, ha, hb, hc⟩ := fit_num hf
      simp only at hn1 hi1 hc1 ha hb hc
      have p6 : (256 : Nat) ^ 6 = 281474976710656 := by decide
      have p2 : (256 : Nat) ^ 2 = 65536 := by decide
      obtain ⟨na, hna⟩ : ∃ na, a.toNat = na := ⟨_, rfl⟩
      obtain ⟨nb, hnb⟩ : ∃ nb, b.toNat = nb := ⟨_, rfl⟩
      obtain ⟨nc, hnc⟩ : ∃ nc, c.toNat = nc := ⟨_, rfl⟩
      rw [hna] at ha hn1
      rw [hnb] at hb hi1
      rw [hnc] at hc hc1
      subst ha hb hc
      clear hE hS hf hna hnb hnc
      go_enter Tryd.func13, Tryd.ntmps13
      go_wp2_with (go_at_call 15; (with_reducible refine (HCF.out _).mono ?_); rintro e w1 ⟨rfl, hb1⟩)
      have hA0 := arr_new w1
      have hW0 : Below w1.heap.size w1 (w1.alloc (.cells Tryd.zeroCells83 83)) := below_new _ _
      generalize w1.alloc (.cells Tryd.zeroCells83 83) = W0 at *
      have x0 : w1.cell? ⟨w.heap.size, 0, none⟩ = some (.int .i64 na) := cell_below hb1 (by unfold World.cell?; rw [hbox]; rfl)
      have x1 : w1.cell? ⟨w.heap.size, 1, none⟩ = some (.int .i64 nb) := cell_below hb1 (by unfold World.cell?; rw [hbox]; rfl)
      have x2 : w1.cell? ⟨w.heap.size, 2, none⟩ = some (.int .i64 nc) := cell_below hb1 (by unfold World.cell?; rw [hbox]; rfl)
      have HX := Lib.hid (And.intro x0 (And.intro x1 x2))
      have HB1 := Lib.hid hb1
      have H0 : Hid (Arr W0.drew w1.heap.size (zer 128) ∧ Below w1.heap.size w1 W0.drew) := Lib.hid ⟨hA0, hW0.drew⟩
      have y0 := cell_below hW0 HX.out.1
      clear x0 x1 x2 hb1 hA0 hW0 hbox
      go_region_with (go_at_call 57; (with_reducible refine (put_any w1 _ w1.heap.size 0 6 _ na _ H0.out.1 (Nat.le_refl _) H0.out.2 (by rw [zer_length]; omega) (zer_length _) (by omega) (by omega)).mono ?_); rintro e W1 ⟨rfl, hA1, hW1⟩)
      have e1 : layB (zer 128) 0 (beB 6 na) = beB 6 na ++ zer 122 := by unfold layB; rw [beB_length]; unfold zer; simp
      rw [e1] at hA1
      have y1 := cell_below hW1 HX.out.2.1
      have H1 : Hid (Arr W1.drew w1.heap.size (beB 6 na ++ zer 122) ∧ Below w1.heap.size w1 W1.drew) := Lib.hid ⟨hA1, hW1.drew⟩
      clear H0 y0 hA1 hW1 e1
      go_wp2_with fail
      go_region_with (go_at_call 57; (with_reducible refine (put_any w1 _ w1.heap.size 6 2 _ nb _ H1.out.1 (Nat.le_refl _) H1.out.2 (by simp [zer_length, beB_length]) (by simp [zer_length, beB_length]) (by omega) (by omega)).mono ?_); rintro e W2 ⟨rfl, hA2, hW2⟩)
      have e2 : layB (beB 6 na ++ zer 122) 6 (beB 2 nb) = beB 6 na ++ beB 2 nb ++ zer 120 := by
        unfold layB; rw [beB_length, List.take_left' (beB_length _ _), List.drop_append, beB_length, List.drop_eq_nil_of_le (by rw [beB_length]; omega)]; unfold zer; simp
      rw [e2] at hA2
      have y2 := cell_below hW2 HX.out.2.2
      have H2 : Hid (Arr W2.drew w1.heap.size (beB 6 na ++ beB 2 nb ++ zer 120) ∧ Below w1.heap.size w1 W2.drew) := Lib.hid ⟨hA2, hW2.drew⟩
      clear H1 y1 hA2 hW2 e2
      go_wp2_with fail
      go_region_with (go_at_call 57; (with_reducible refine (put_any w1 _ w1.heap.size 8 2 _ nc _ H2.out.1 (Nat.le_refl _) H2.out.2 (by simp [zer_length, beB_length]) (by simp [zer_length, beB_length]) (by omega) (by omega)).mono ?_); rintro e W3 ⟨rfl, hA3, hW3⟩)
      have e3 : layB (beB 6 na ++ beB 2 nb ++ zer 120) 8 (beB 2 nc) = beB 6 na ++ beB 2 nb ++ beB 2 nc ++ zer 118 := by
        unfold layB; rw [beB_length, List.take_left' (by simp [beB_length]), List.drop_append, List.drop_eq_nil_of_le (by simp [beB_length])]; simp [beB_length, zer]
      rw [e3] at hA3
      have H3 : Hid (Arr W3 w1.heap.size (beB 6 na ++ beB 2 nb ++ beB 2 nc ++ zer 118) ∧ Below w1.heap.size w1 W3) := Lib.hid ⟨hA3, hW3⟩
      clear H2 y2 hA3 hW3 e3
      go_wp2_with (go_at_call 57; (with_reducible refine (put_any w1 _ w1.heap.size 10 2 _ s.size _ H3.out.1 (Nat.le_refl _) H3.out.2 (by simp [zer_length, beB_length]) (by simp [zer_length, beB_length]) (by omega) (by omega)).mono ?_); rintro e W4 ⟨rfl, hA4, hW4⟩)
      obtain ⟨hd, hhd⟩ : ∃ hd, headB ⟨na, nb, nc⟩ s.size = hd := ⟨_, rfl⟩
      have hhl : hd.length = 12 := by rw [← hhd]; exact headB_length _ _
      have e4 : layB (beB 6 na ++ beB 2 nb ++ beB 2 nc ++ zer 118) 10 (beB 2 s.size) = hd ++ zer 116 := by
        rw [← hhd]; unfold layB headB markB; rw [beB_length, List.take_left' (by simp [beB_length]), List.drop_append, List.drop_eq_nil_of_le (by simp [beB_length])]; simp [beB_length, zer]
      rw [e4] at hA4
      have H4 : Hid (Arr W4.drew w1.heap.size (hd ++ zer 116) ∧ Below w1.heap.size w1 W4.drew) := Lib.hid ⟨hA4, hW4.drew⟩
      have hcv := arr_conv H4.out.1 0 12 128 (by simp [hhl, zer_length])
      rw [show ((hd ++ zer 116).drop 0).take 12 = hd by rw [List.drop_zero]; exact List.take_left' hhl] at hcv
      obtain ⟨hS, hhS⟩ : ∃ hS, mkS hd = hS := ⟨_, rfl⟩
      rw [hhS] at hcv
      have CS := Lib.hid fun W => sum_any hS W (by rw [← hhS, mkS_size]; omega)
      obtain ⟨X, hX⟩ : ∃ X, sumB (bl hS) = X := ⟨_, rfl⟩
      rw [hX] at CS
      have CM := Lib.hid fun W => more_any X s W (by omega)
      obtain ⟨Y, hY⟩ : ∃ Y, moreB X (bl s) = Y := ⟨_, rfl⟩
      rw [hY] at CM
      have HY : Hid (sumB (hd ++ bl s) = Y) := Lib.hid (by rw [← hY, ← hX, ← hhS, bl_mkS]; unfold sumB; exact moreB_append _ _ _)
      obtain ⟨O, hO⟩ : ∃ O, octS Y = O := ⟨_, rfl⟩
      have CO := Lib.hid fun W => octets_any Y W
      rw [hO] at CO
      have hOs : O.size = 4 := by rw [← hO]; rfl
      have HOb : Hid (bl O = octetsB Y) := Lib.hid (by rw [← hO]; rfl)
      have HH := Lib.hid hhd
      have HHl := Lib.hid hhl
      clear H3 hA4 hW4 e4 hX hY hO hhS hhd hhl
      go_wp2_with fail
      go_region_with (first | (go_at_call 60; (with_reducible refine (CS.out _).mono ?_); rintro e w' ⟨rfl, rfl⟩) | (go_at_call 59; (with_reducible refine (CM.out _).mono ?_); rintro e w' ⟨rfl, rfl⟩) | (go_at_call 58; (with_reducible refine (CO.out _).mono ?_); rintro e W5 ⟨rfl, hb5⟩; obtain ⟨W6, hrun6, H6⟩ := copy_str (H4.out.1.below hb5) (Nat.le_refl _) (below_next H4.out.2 hb5) 12 116 116 O (by omega) (by rw [List.length_append, HHl.out, zer_length]; omega)))
      have e5 : layB (hd ++ zer 116) 12 (bl O) = hd ++ octetsB Y ++ zer 112 := by
        rw [HOb.out]; unfold layB
        rw [octetsB_length, List.take_left' HHl.out, List.drop_append, List.drop_eq_nil_of_le (by rw [HHl.out]; omega), HHl.out]; simp [zer]
      have H6' := H6.out
      rw [e5] at H6'
      obtain ⟨W7, hrun7, H7⟩ := copy_str H6'.1 (Nat.le_refl _) H6'.2 16 112 112 s (by omega) (by simp [HHl.out, zer_length, octetsB_length]; omega)
      have e7 : layB (hd ++ octetsB Y ++ zer 112) 16 (bl s) = hd ++ octetsB Y ++ bl s ++ zer (112 - s.size) := by
        unfold layB
        rw [bl_length, List.take_left' (by simp [HHl.out, octetsB_length]), List.drop_append, List.drop_eq_nil_of_le (by simp [HHl.out, octetsB_length])]
        simp only [List.nil_append, List.length_append, HHl.out, octetsB_length, zer, List.drop_replicate]
        congr 2; omega
      have H7' := H7.out
      rw [e7] at H7'
      obtain ⟨W8, hrun8, H8⟩ := copy_arr (W := W7.drew) (show Arr W7.drew _ _ from H7'.1) (Nat.le_refl _) H7'.2.drew 120 8 8 128 (by simp [HHl.out, zer_length, octetsB_length, bl_length]; omega)
      have e8 : layB (hd ++ octetsB Y ++ bl s ++ zer (112 - s.size)) 120 ((hd ++ octetsB Y ++ bl s ++ zer (112 - s.size)).take 8) = sealB ⟨na, nb, nc⟩ (bl s) := by
        have ht : (hd ++ octetsB Y ++ bl s ++ zer (112 - s.size)).take 8 = markB ⟨na, nb, nc⟩ := by
          rw [← HH.out]; unfold headB; simp only [List.append_assoc]; exact List.take_left' (markB_length _)
        rw [ht]
        unfold layB sealB
        rw [bl_length, HH.out, HY.out, markB_length, List.take_append, List.take_of_length_le (by simp [HHl.out, octetsB_length, bl_length]; omega), List.drop_eq_nil_of_le (by simp [HHl.out, zer_length, octetsB_length, bl_length]; omega)]
        simp only [List.length_append, HHl.out, octetsB_length, bl_length, List.append_nil]
        congr 2
        unfold zer; rw [List.take_replicate]; congr 1; omega
      have H8' := H8.out
      rw [e8] at H8'
      have hcv8 := arr_conv H8'.1 0 128 128 (by rw [sealB_length _ _ (by rw [bl_length]; exact hl)]; omega)
      rw [show ((sealB ⟨na, nb, nc⟩ (bl s)).drop 0).take 128 = sealB ⟨na, nb, nc⟩ (bl s) by rw [List.drop_zero]; exact List.take_of_length_le (by rw [sealB_length _ _ (by rw [bl_length]; exact hl)]; omega)] at hcv8
      have HB8 := Lib.hid H8'.2
      clear H6 H6' H7 H7' H8 H8' e5 e7 e8 H4
      obtain ⟨R, hR⟩ : ∃ R, mkS (sealB ⟨na, nb, nc⟩ (bl s)) = R := ⟨_, rfl⟩
      rw [hR] at hcv8
      have HR := Lib.hid hR
      clear hR
      go_wp2_with fail
      go_region
      go_wp2
      go_ret2
      exact ⟨by rw [HR.out]; rfl, HB.out.trans ((HB1.out.trans (HB8.out.mono HB1.out.size)).mono HB.out.size)⟩
    · have hlI : 104 < (s.size : Int) := by omega
      have hE : sealE ⟨a, b, c⟩ (bl s) = 9 := by unfold sealE; rw [if_pos hf, if_neg (by rw [bl_length]; exact hl)]
      have hS : sealS ⟨a, b, c⟩ (bl s) = [] := by unfold sealS; rw [if_neg (by rw [hE]; decide)]
      rw [hE, hS]
      clear hE hS hf
      go_enter Tryd.func13, Tryd.ntmps13
      go_wp2_with (go_at_call 15; (with_reducible refine (HCF.out _).mono ?_); rintro e w1 ⟨rfl, hb1⟩)
      go_ret2
      exact ⟨rfl, HB.out.trans (hb1.mono HB.out.size)⟩
  · rw [decide_eq_false hf] at CF
    have HCF := Lib.hid CF
    have hE : sealE ⟨a, b, c⟩ (bl s) = 1 := by unfold sealE; rw [if_neg hf]
    have hS : sealS ⟨a, b, c⟩ (bl s) = [] := by unfold sealS; rw [if_neg (by rw [hE]; decide)]
    rw [hE, hS]
    clear hE hS hf CF
    go_enter Tryd.func13, Tryd.ntmps13
    go_wp2_with (go_at_call 15; (with_reducible refine (HCF.out _).mono ?_); rintro e w1 ⟨rfl, hb1⟩)
    go_ret2
    exact ⟨rfl, HB.out.trans (hb1.mono HB.out.size)⟩
end Go.Proofs.YtoojdknfommpbaaDoor
