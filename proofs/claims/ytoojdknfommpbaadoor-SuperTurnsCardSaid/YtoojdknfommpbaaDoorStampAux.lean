/- The walks of draymanref05's Blank and Same, of draymanref06's Torn. -/
import Derived.Test.YtoojdknfommpbaaDoorStampRest
namespace Go.Proofs.YtoojdknfommpbaaDoor
open Go.RowKit
set_option maxRecDepth 10000

theorem grown_below {w w1 w2 : World} {v : Value} (hb : Below w.heap.size w w1) (hg : w1.grownBy w2 v.ownBlock) (hv : ∀ k, v.ownBlock = some k → w.heap.size ≤ k) : Below w.heap.size w w2 :=
  hb.trans ⟨hg.os, hg.tape, hg.output, hg.size, fun k hk => hg.block k (Nat.lt_of_lt_of_le hk hb.size) fun e => by have := hv k e.symm; omega⟩
/-- A sector of octets 0. -/
def blankS : ByteArray := mkS (zer 128)
theorem info_u8 : (Tryd.prog.info? 5).map (fun i => (i.zero, i.size, i.bytes)) = some (some (.int .u8 0), 1, 1) := by kernel_rfl
theorem blank_conv (w w1 : World) (h : w1.ownsRow w.heap.size 5 1 (.slice (some ⟨w.heap.size, 0, none⟩) 128 128) 128 (madeCells (Value.int .u8 0).cells (128 * 1)).toList) :
    (convert 85 9 (.slice (some ⟨w.heap.size, 0, none⟩) 128 128)).run Tryd.prog w1 = .ok (.string blankS) w1 := by
  have h2 := run_convert_bytes_arg (P := Tryd.prog) w1 85 5 Tryd.underlying85 Tryd.underlying5 w.heap.size 0 128 128 (List.replicate 128 0) (by simp) (fun i hi => by
    have hi2 : i < 128 := by simpa using hi
    rw [Nat.zero_add, World.ownsRow.cellAt h i (by omega)]
    rw [show (Value.int IntKind.u8 0).cells = #[.int .u8 0] from rfl, toList_madeCells_one, List.getElem?_replicate, if_pos (by omega)]
    rw [List.getD_eq_getElem?_getD, List.getElem?_replicate, if_pos (by omega)]; rfl) 9 Tryd.underlying9
  rw [h2]
  rfl
theorem blank_any (w : World) : Calls Tryd.prog 23 #[] w fun e w' => e = .returned (.string blankS) ∧ Below w.heap.size w w' := by
  obtain ⟨i0, hi, hz0, hz1, hz2⟩ := info_parts info_u8
  have HI := Lib.hid hi
  clear hi
  go_enter Tryd.func23, Tryd.ntmps23
  go_wp2_with (at_make; refine wpList_make_full _ rfl _ _ 85 rfl w.heap.size 5 i0 (.int .u8 0) 1 Tryd.underlying85 HI.out hz0 hz1 .i64 .i64 _ _ 128 rfl rfl rfl rfl (by rw [hz2]; omega) (by unfold maxLen; omega) (Nat.le_refl _) ?_; intro w1 hown1 hgrow1; have hcv := blank_conv w w1 hown1; have HB : Hid (Below w.heap.size w w1) := Lib.hid (grown_below (v := .slice none 0 0) (Below.refl _ _) hgrow1 (by simp [Value.ownBlock])); clear hown1 hgrow1)
  go_ret
  exact ⟨rfl, HB.out⟩
theorem same_any (v1 v2 : Value) (l1 l2 : List ByteArray) (w : World) (h1 : Sl Value.string w v1 l1) (h2 : Sl Value.string w v2 l2) (hl1 : l1.length ≤ 1000000) (hl2 : l2.length ≤ 1000000) :
    Calls Tryd.prog 17 #[v1, v2] w fun e w' => e = .returned (.bool (decide (l1 = l2))) ∧ Below w.heap.size w w' := by
  obtain ⟨A1, c1, rfl, _, hr1⟩ := h1
  obtain ⟨A2, c2, rfl, _, hr2⟩ := h2
  have HR1 := Lib.hid hr1; clear hr1
  have HR2 := Lib.hid hr2; clear hr2
  have hI1 : (l1.length : Int) ≤ 1000000 := by omega
  by_cases hne : l1.length = l2.length
  · have hneI : (l1.length : Int) = (l2.length : Int) := by omega
    have HN := Lib.hid hne
    go_enter Tryd.func17, Tryd.ntmps17
    go_wp2
    go_loopw [5] (fun i W => ∃ k : Nat, k ≤ l1.length ∧ i = .int .i64 k ∧ Hid (l1.take k = l2.take k ∧ Below w.heap.size w W)) (fun i _ => l1.length - (intOf i).toNat)
    case atStart => exact ⟨0, by omega, rfl, Lib.hid ⟨rfl, Below.refl _ _⟩⟩
    case round =>
      obtain ⟨k, hk, rfl, HI⟩ := hrel
      by_cases hlt : k < l1.length
      · have hlt2 : k < l2.length := by have := HN.out; omega
        obtain ⟨a1, rfl, q1⟩ := HR1.out k hlt
        obtain ⟨a2, rfl, q2⟩ := HR2.out k hlt2
        have p1 := cell_below HI.out.2 q1
        have p2 := cell_below HI.out.2 q2
        clear q1 q2
        have HT : Hid (l1[k] = l2[k] → l1.take (k + 1) = l2.take (k + 1)) := Lib.hid fun e => by rw [take_snoc' _ _ hlt, take_snoc' _ _ hlt2, HI.out.1, e]
        have HD : Hid (l1[k] ≠ l2[k] → decide (l1 = l2) = false) := Lib.hid fun e => decide_eq_false fun e2 => e (by subst e2; rfl)
        generalize l1[k] = s1 at *
        generalize l2[k] = s2 at *
        by_cases he : s1 = s2
        · have hs := str_eq he
          have HT2 := Lib.hid (HT.out he)
          go_wp2
          go_quiet (fail)
          go_wp2
          go_roundw
          case measure => simp [intOf]; omega
          case rel => exact ⟨k + 1, by omega, by go_num, Lib.hid ⟨HT2.out, below_drewN HI.out.2 _⟩⟩
        · have hs := str_ne he
          have HD2 := Lib.hid (HD.out he)
          go_wp2
          go_quiet (fail)
          go_wp2
          go_ret
          exact ⟨by rw [HD2.out]; rfl, below_drewN HI.out.2 _⟩
      · obtain rfl : k = l1.length := by omega
        have HE : Hid (decide (l1 = l2) = true) := Lib.hid (decide_eq_true (by
          have := HI.out.1
          rw [List.take_length] at this
          rw [this, HN.out, List.take_length]))
        go_wp2
        go_ret
        exact ⟨by rw [HE.out]; rfl, HI.out.2⟩
  · have hneI : ((l1.length : Int) != (l2.length : Int)) = true := by simp; omega
    have hneJ : ¬ (l1.length = l2.length) := hne
    have HE : Hid (decide (l1 = l2) = false) := Lib.hid (decide_eq_false fun e => hne (by rw [e]))
    rw [HE.out]
    go_enter Tryd.func17, Tryd.ntmps17
    go_wp2
    go_ret
    exact ⟨rfl, Below.refl _ _⟩
/-- How much of the fresh sector comes there. -/
def tornK (at_ : Int) : Nat := (at_.tmod 129).natAbs
theorem tornK_le (at_ : Int) : tornK at_ ≤ 128 := by
  have h1 := Int.tmod_lt_of_pos at_ (show (0 : Int) < 129 by omega)
  have h2 := Int.tmod_lt_of_pos (-at_) (show (0 : Int) < 129 by omega)
  rw [Int.neg_tmod] at h2
  unfold tornK; omega
def tornL (old fresh : List UInt8) (at_ : Int) : List UInt8 := fresh.take (tornK at_) ++ old.drop (tornK at_)
theorem tornL_length (old fresh : List UInt8) (at_ : Int) (h1 : old.length = 128) (h2 : fresh.length = 128) : (tornL old fresh at_).length = 128 := by
  have := tornK_le at_
  unfold tornL; simp; omega
theorem torn_any (o f : List UInt8) (at_ : Int) (w : World) (h1 : o.length = 128) (h2 : f.length = 128) :
    Calls Tryd.prog 24 #[.string (mkS o), .string (mkS f), .int .i64 at_] w fun e w' => e = .returned (.string (mkS (tornL o f at_))) ∧ Below w.heap.size w w' := by
  have hk := tornK_le at_
  have s1 : (mkS o).size = 128 := by rw [mkS_size, h1]
  have s2 : (mkS f).size = 128 := by rw [mkS_size, h2]
  obtain ⟨k, hkk⟩ : ∃ k, tornK at_ = k := ⟨_, rfl⟩
  obtain ⟨z, hz⟩ : ∃ z, at_.tmod 129 = z := ⟨_, rfl⟩
  have hzk : z.natAbs = k := by rw [← hkk, ← hz]; rfl
  rw [hkk] at hk
  have hkI : (k : Int) ≤ 128 := by omega
  have hX : mkS (f.take k) ++ mkS (o.drop k) = mkS (tornL o f at_) := by unfold tornL; rw [mkS_append, hkk]
  have HX := Lib.hid hX
  have hf : ∀ W : World, (Instr.slice 9 (.string (mkS f)) none (some (.int .i64 (k : Int))) none).run Tryd.prog W = .ok (.string (mkS (f.take k))) W := fun W => by
    rw [run_slice_string_h W 9 (mkS f) Tryd.underlying9 .i64 (k : Int) (by omega) (by omega), mkS_extract]; simp
  have ho : ∀ W : World, (Instr.slice 9 (.string (mkS o)) (some (.int .i64 (k : Int))) none none).run Tryd.prog W = .ok (.string (mkS (o.drop k))) W := fun W => by
    rw [run_slice_string_l W 9 (mkS o) Tryd.underlying9 .i64 (k : Int) (by omega) (by omega), mkS_extract, mkS_size, List.take_length]; simp
  have n1 : (mkS (f.take k)).size ≤ 128 := by rw [mkS_size, List.length_take]; omega
  have n2 : (mkS (o.drop k)).size ≤ 128 := by rw [mkS_size, List.length_drop]; omega
  have hcc : ¬ 9223372036854775807 < (mkS (f.take k)).size + (mkS (o.drop k)).size := by omega
  clear hX hkk n1 n2 h1 h2
  generalize mkS (f.take k) = F at *
  generalize mkS (o.drop k) = O at *
  generalize mkS f = ff at *
  generalize mkS o = oo at *
  have t1 : (oo.size : Int) = 128 := by omega
  have t2 : (ff.size : Int) = 128 := by omega
  by_cases hneg : z < 0
  · have hzz : -z = (k : Int) := by omega
    go_enter Tryd.func24, Tryd.ntmps24
    go_wp2
    go_quiet (fail)
    go_wp2
    go_ret
    exact ⟨ret_str HX.out, below_drewN (Below.refl _ _) _⟩
  · have hzz : z = (k : Int) := by omega
    rw [hzz] at hneg hz
    go_enter Tryd.func24, Tryd.ntmps24
    go_wp2
    go_quiet (fail)
    go_wp2
    go_ret
    exact ⟨ret_str HX.out, below_drewN (Below.refl _ _) _⟩
end Go.Proofs.YtoojdknfommpbaaDoor
