/- The walk of draymanref06.Seal. -/
import Derived.Test.YtoojdknfommpbaaDoorStampSeal
import Derived.Deep.RegionHeld3
namespace Go.Proofs.YtoojdknfommpbaaDoor
open Go.RowKit
set_option maxRecDepth 10000

theorem add_at {a b c : ByteArray} (h : a ++ b = c) (hs : c.size ≤ 5000) (P : Program) (W : World) : (Op.stringOp .add a b).run P W = .ok (.string c) W := by
  subst h; exact run_string_add_sum W a b (by rw [ByteArray.size_append] at hs; omega)
/-- Where a box of a stamp lies, and nothing else is other. -/
abbrev Bx (w : World) (na nb nc : Nat) (W : World) : Prop :=
  W.cell? ⟨w.heap.size, 0, none⟩ = some (.int .i64 (na : Int)) ∧ W.cell? ⟨w.heap.size, 1, none⟩ = some (.int .i64 (nb : Int)) ∧ W.cell? ⟨w.heap.size, 2, none⟩ = some (.int .i64 (nc : Int)) ∧ Below w.heap.size w W
theorem Bx.below {w W W' : World} {na nb nc : Nat} (h : Bx w na nb nc W) (hb : Below W.heap.size W W') : Bx w na nb nc W' :=
  ⟨cell_below hb h.1, cell_below hb h.2.1, cell_below hb h.2.2.1, below_next h.2.2.2 hb⟩
theorem Bx.drew {w W : World} {na nb nc : Nat} (h : Bx w na nb nc W) : Bx w na nb nc W.drew := ⟨h.1, h.2.1, h.2.2.1, h.2.2.2.drew⟩
set_option maxHeartbeats 4000000 in
theorem seal_ref (x : Stp) (s : ByteArray) (w : World) (hs : s.size ≤ 1000) :
    Calls Tryd.prog 14 #[x.val, .string s] w fun e w' => e = .returned (.tuple #[.string (mkS (sealS x (bl s))), .int .i64 (sealE x (bl s))]) ∧ Below w.heap.size w w' := by
  obtain ⟨a, b, c⟩ := x
  have CF := fun W => fit_ref ⟨a, b, c⟩ W
  unfold Stp.val at *
  simp only at *
  have HB := Lib.hid (below_new w (.cells #[.int .i64 a, .int .i64 b, .int .i64 c] 23))
  have hbox : (w.alloc (.cells #[.int .i64 a, .int .i64 b, .int .i64 c] 23)).heap[w.heap.size]? = some (.cells #[.int .i64 a, .int .i64 b, .int .i64 c] 23 (0, 0)) := by
    show (w.heap.push _)[w.heap.size]? = _; simp
  by_cases hf : Stp.fit ⟨a, b, c⟩
  · rw [decide_eq_true hf] at CF
    have HCF := Lib.hid CF
    clear CF
    by_cases hl : s.size ≤ 104
    · have hlI : (s.size : Int) ≤ 104 := by omega
      have hE : sealE ⟨a, b, c⟩ (bl s) = 0 := by unfold sealE; rw [if_pos hf, if_pos (by rw [bl_length]; exact hl)]
      have hS : sealS ⟨a, b, c⟩ (bl s) = sealB ⟨a, b, c⟩ (bl s) := by unfold sealS; rw [if_pos hE]
      rw [hE, hS]
      obtain ⟨hn1, _, hi1, hc1, ha, hb, hc⟩ := fit_num hf
      simp only at hn1 hi1 hc1 ha hb hc
      have p6 : (256 : Nat) ^ 6 = 281474976710656 := by decide
      have p2 : (256 : Nat) ^ 2 = 65536 := by decide
      rw [p6] at hn1
      rw [p2] at hi1 hc1
      obtain ⟨na, hna⟩ : ∃ na, a.toNat = na := ⟨_, rfl⟩
      obtain ⟨nb, hnb⟩ : ∃ nb, b.toNat = nb := ⟨_, rfl⟩
      obtain ⟨nc, hnc⟩ : ∃ nc, c.toNat = nc := ⟨_, rfl⟩
      rw [hna] at ha hn1
      rw [hnb] at hb hi1
      rw [hnc] at hc hc1
      subst ha hb hc
      have hB0 : Bx w na nb nc (w.alloc (.cells #[.int .i64 na, .int .i64 nb, .int .i64 nc] 23)) :=
        ⟨by unfold World.cell?; rw [hbox]; rfl, by unfold World.cell?; rw [hbox]; rfl, by unfold World.cell?; rw [hbox]; rfl, HB.out⟩
      clear hE hS hf hna hnb hnc p6 p2 hbox
      have CH : ∀ (n k : Nat) (z : Int), z = (k : Int) → n < 9223372036854775808 → k ≤ 6 → ∀ W, Bx w na nb nc W → Calls Tryd.prog 61 #[.int .i64 (n : Int), .int .i64 z] W fun e w' => e = .returned (.string (mkS (beB k n))) ∧ Bx w na nb nc w' :=
        fun n k z hz hn hk W hW => hz ▸ (high_any n k W hn hk).mono fun e w' ⟨he, hb⟩ => ⟨he, hW.below hb⟩
      obtain ⟨SA, hSA⟩ : ∃ S, mkS (beB 6 na) = S := ⟨_, rfl⟩
      obtain ⟨SB, hSB⟩ : ∃ S, mkS (beB 2 nb) = S := ⟨_, rfl⟩
      obtain ⟨SC, hSC⟩ : ∃ S, mkS (beB 2 nc) = S := ⟨_, rfl⟩
      obtain ⟨SL, hSL⟩ : ∃ S, mkS (beB 2 s.size) = S := ⟨_, rfl⟩
      have C1 := Lib.hid (CH na 6 6 rfl (by omega) (by omega))
      have C2 := Lib.hid (CH nb 2 2 rfl (by omega) (by omega))
      have C3 := Lib.hid (CH nc 2 2 rfl (by omega) (by omega))
      have C4 := Lib.hid (CH s.size 2 2 rfl (by omega) (by omega))
      clear CH
      rw [hSA] at C1
      rw [hSB] at C2
      rw [hSC] at C3
      rw [hSL] at C4
      obtain ⟨SM, hSM⟩ : ∃ S, SA ++ SB = S := ⟨_, rfl⟩
      obtain ⟨SH0, hSH0⟩ : ∃ S, SM ++ SC = S := ⟨_, rfl⟩
      obtain ⟨SH, hSH⟩ : ∃ S, SH0 ++ SL = S := ⟨_, rfl⟩
      have bM : bl SM = markB ⟨na, nb, nc⟩ := by rw [← hSM, ← hSA, ← hSB, bl_append, bl_mkS, bl_mkS]; rfl
      have bH : bl SH = headB ⟨na, nb, nc⟩ s.size := by rw [← hSH, ← hSH0, ← hSC, ← hSL, bl_append, bl_append, bM, bl_mkS, bl_mkS]; rfl
      have bH0 : SH0.size = 10 := by rw [← hSH0, ← bl_length, bl_append, bM, ← hSC, bl_mkS]; simp [markB_length, beB_length]
      have sM : SM.size = 8 := by rw [← bl_length, bM, markB_length]
      have sH : SH.size = 12 := by rw [← bl_length, bH, headB_length]
      have a1 := add_at hSM (by omega)
      have a2 := add_at hSH0 (by omega)
      have a3 := add_at hSH (by omega)
      obtain ⟨HS, hHS⟩ : ∃ S, SH ++ s = S := ⟨_, rfl⟩
      have sHS : HS.size = 12 + s.size := by rw [← hHS, ByteArray.size_append, sH]
      have a4 := add_at hHS (by omega)
      have CS := Lib.hid fun W => sum_ref HS W (by omega)
      obtain ⟨X, hX⟩ : ∃ X, sumB (bl HS) = X := ⟨_, rfl⟩
      rw [hX] at CS
      have CO := Lib.hid fun W => octets_ref X W
      obtain ⟨O, hO⟩ : ∃ O, octS X = O := ⟨_, rfl⟩
      rw [hO] at CO
      have sO : O.size = 4 := by rw [← hO]; rfl
      obtain ⟨Q1, hQ1⟩ : ∃ S, SH ++ O = S := ⟨_, rfl⟩
      obtain ⟨Q2, hQ2⟩ : ∃ S, Q1 ++ s = S := ⟨_, rfl⟩
      obtain ⟨Z, hZ⟩ : ∃ S, mkS (zer (104 - s.size)) = S := ⟨_, rfl⟩
      obtain ⟨Q3, hQ3⟩ : ∃ S, Q2 ++ Z = S := ⟨_, rfl⟩
      obtain ⟨Q4, hQ4⟩ : ∃ S, Q3 ++ SM = S := ⟨_, rfl⟩
      have b4 : Q4 = mkS (sealB ⟨na, nb, nc⟩ (bl s)) := bl_inj (by
        rw [bl_mkS, ← hQ4, ← hQ3, ← hQ2, ← hQ1, bl_append, bl_append, bl_append, bl_append, bM, ← hZ, bl_mkS, ← hO, bl_octS, ← hX, ← hHS, bl_append, bH]
        unfold sealB; rw [bl_length])
      have s4 : Q4.size = 128 := by rw [b4, mkS_size, sealB_length _ _ (by rw [bl_length]; exact hl)]
      have s1 : Q1.size = 16 := by rw [← hQ1, ByteArray.size_append]; omega
      have s2 : Q2.size = 16 + s.size := by rw [← hQ2, ByteArray.size_append]; omega
      have s3 : Q3.size = 120 := by have := s4; rw [← hQ4, ByteArray.size_append] at this; omega
      have a5 := add_at hQ1 (by omega)
      have a6 := add_at hQ2 (by omega)
      have a7 := add_at hQ3 (by omega)
      have a8 := add_at hQ4 (by omega)
      have CB := Lib.hid fun W => blank_any W
      have sB : blankS.size = 128 := by unfold blankS; rw [mkS_size, zer_length]
      have hsl : ∀ W : World, (Instr.slice 9 (.string blankS) none (some (.int .i64 (104 - (s.size : Int)))) none).run Tryd.prog W = .ok (.string Z) W := fun W => by
        rw [run_slice_string_h W 9 blankS Tryd.underlying9 .i64 _ (by omega) (by omega)]
        rw [← hZ]; unfold blankS; rw [mkS_extract, List.drop_zero, show (104 - (s.size : Int)).toNat = 104 - s.size by omega]
        congr 3
        unfold zer; rw [List.take_replicate]; congr 1; omega
      generalize blankS = bk at *
      have H4 := Lib.hid b4
      clear hSA hSB hSC hSL hSM hSH0 hSH hHS hX hO hQ1 hQ2 hZ hQ3 hQ4 bM bH b4
      go_enter Tryd.func14, Tryd.ntmps14
      go_wp2_with (go_at_call 16; (with_reducible refine (HCF.out _).mono ?_); rintro e w1 ⟨rfl, hb1⟩; have hB1 := (hB0.below hb1).drew)
      go_region_held3 (fun W : World => W.cell? ⟨w.heap.size, 0, none⟩ = some (.int .i64 (na : Int)) ∧ W.cell? ⟨w.heap.size, 1, none⟩ = some (.int .i64 (nb : Int)) ∧ W.cell? ⟨w.heap.size, 2, none⟩ = some (.int .i64 (nc : Int)) ∧ Below w.heap.size w W) (first | (with_reducible assumption)) (first | (go_at_call 61; (with_reducible refine (C1.out _ ‹_›).mono ?_); rintro e w2 ⟨rfl, h2⟩) | (go_at_call 61; (with_reducible refine (C2.out _ ‹_›).mono ?_); rintro e w3 ⟨rfl, h3⟩))
      all_goals
        have k2 := h2.2.2.1
        have k3 := h3.2.2.1
        go_wp2_with (first | (go_at_call 61; (with_reducible refine (C3.out _ (by first | (with_reducible exact h2) | (with_reducible exact h3))).mono ?_); rintro e w4 ⟨rfl, h4⟩) | (go_at_call 61; (with_reducible refine (C4.out _ h4).mono ?_); rintro e w5 ⟨rfl, h5⟩) | (go_at_call 63; (with_reducible refine (CS.out _).mono ?_); rintro e w6 ⟨rfl, rfl⟩) | (go_at_call 62; (with_reducible refine (CO.out _).mono ?_); rintro e w7 ⟨rfl, h7⟩) | (go_at_call 23; (with_reducible refine (CB.out _).mono ?_); rintro e w8 ⟨rfl, h8⟩))
        go_ret2
        exact ⟨by rw [← H4.out]; rfl, below_next (below_next h5.2.2.2 h7) h8⟩
    · have hlI : 104 < (s.size : Int) := by omega
      have hE : sealE ⟨a, b, c⟩ (bl s) = 9 := by unfold sealE; rw [if_pos hf, if_neg (by rw [bl_length]; exact hl)]
      have hS : sealS ⟨a, b, c⟩ (bl s) = [] := by unfold sealS; rw [if_neg (by rw [hE]; decide)]
      rw [hE, hS]
      clear hE hS hf
      go_enter Tryd.func14, Tryd.ntmps14
      go_wp2_with (go_at_call 16; (with_reducible refine (HCF.out _).mono ?_); rintro e w1 ⟨rfl, hb1⟩)
      go_ret2
      exact ⟨rfl, HB.out.trans (hb1.mono HB.out.size)⟩
  · rw [decide_eq_false hf] at CF
    have HCF := Lib.hid CF
    have hE : sealE ⟨a, b, c⟩ (bl s) = 1 := by unfold sealE; rw [if_neg hf]
    have hS : sealS ⟨a, b, c⟩ (bl s) = [] := by unfold sealS; rw [if_neg (by rw [hE]; decide)]
    rw [hE, hS]
    clear hE hS hf CF
    go_enter Tryd.func14, Tryd.ntmps14
    go_wp2_with (go_at_call 16; (with_reducible refine (HCF.out _).mono ?_); rintro e w1 ⟨rfl, hb1⟩)
    go_ret2
    exact ⟨rfl, HB.out.trans (hb1.mono HB.out.size)⟩
end Go.Proofs.YtoojdknfommpbaaDoor
