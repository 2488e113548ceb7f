/- The walks of wire.Int and draymanref03.Int: a number's octets. -/
import Derived.Test.YtoojdknfommpbaaDoorWirePure
import Derived.Test.YtoojdknfommpbaaDoorStampPut
import Derived.Test.YtoojdknfommpbaaDoorStampSealRef
namespace Go.Proofs.YtoojdknfommpbaaDoor
open Go.RowKit
set_option maxRecDepth 10000

/-- Block B is an array of nine octets that holds l. -/
def Arr9 (w : World) (B : Nat) (l : List UInt8) : Prop := w.heap[B]? = some (.cells (Lib.byteCells l).toArray 152 (0, 0))
theorem Arr9.cell {w : World} {B : Nat} {l : List UInt8} (h : Arr9 w B l) (i : Nat) (hi : i < l.length) : w.cell? ⟨B, i, none⟩ = some (.int .u8 (l[i].toNat : Int)) := by
  unfold Arr9 at h; unfold World.cell?; rw [h]; simp [Lib.byteCells, hi]
theorem Arr9.free {w : World} {B : Nat} {l : List UInt8} (h : Arr9 w B l) (i : Nat) : w.frozen? ⟨B, i, none⟩ = false := by
  unfold Arr9 at h; unfold World.frozen?; rw [h]; simp
theorem Arr9.set {w : World} {B : Nat} {l : List UInt8} (h : Arr9 w B l) (i : Nat) (b : UInt8) : Arr9 (w.setCell ⟨B, i, none⟩ (.int .u8 (b.toNat : Int))) B (l.set i b) := by
  unfold Arr9 at *
  have := Lib.heap_setCell_same (i := i) h (.int .u8 (b.toNat : Int))
  rw [this]
  congr 2
  simp [Lib.byteCells, List.map_set]
theorem arr9_new (w : World) : Arr9 (w.alloc (.cells #[.int .u8 0, .int .u8 0, .int .u8 0, .int .u8 0, .int .u8 0, .int .u8 0, .int .u8 0, .int .u8 0, .int .u8 0] 152)) w.heap.size (zer 9) := by
  unfold Arr9
  show (w.heap.push _)[w.heap.size]? = _; simp [Lib.byteCells, zer]; try rfl
theorem arr9_conv {W : World} {B : Nat} {l : List UInt8} (h : Arr9 W B l) (off k c : Nat) (hk : off + k ≤ l.length) :
    (convert 85 9 (.slice (some ⟨B, off, none⟩) k c)).run Tryd.prog W = .ok (.string (mkS ((l.drop off).take k))) W := by
  have hl : ((l.drop off).take k).length = k := by simp; omega
  have := run_convert_bytes_back (P := Tryd.prog) W 85 9 5 ⟨B, off, none⟩ c ((l.drop off).take k) Tryd.underlying85 Tryd.underlying5 Tryd.underlying9 (fun j hj => by
    have ha : (⟨B, off, none⟩ : Addr).add j = ⟨B, off + j, none⟩ := by unfold Addr.add; split <;> simp_all
    rw [ha, h.cell (off + j) (by omega)]; simp)
  rw [hl] at this; exact this
theorem set9 (e : Nat) (D : List UInt8) (b : UInt8) : (zer (e + 1) ++ D).set e b = zer e ++ b :: D := by
  unfold zer
  rw [List.replicate_succ', List.append_assoc, List.set_append_right _ _ (by simp)]
  simp
theorem bigB_len6 {n : Nat} (hn : n ≤ 1099511627776) : (bigB (2 * n)).length ≤ 6 := bigB_len 6 _ (by have : (256 : Nat) ^ 6 = 281474976710656 := by decide
                                                                                                     omega)
theorem int_any (n : Nat) (w : World) (hn : n ≤ 1099511627776) :
    Calls Tryd.prog 105 #[.int .i64 (n : Int)] w fun e w' => e = .returned (.string (mkS (intB n))) ∧ Below w.heap.size w w' := by
  have hnI : (n : Int) ≤ 1099511627776 := by omega
  have h0 := Lib.hid (arr9_new w)
  have HL := Lib.hid (bigB_len6 hn)
  have hb0 := Lib.hid (below_new w (.cells #[.int .u8 0, .int .u8 0, .int .u8 0, .int .u8 0, .int .u8 0, .int .u8 0, .int .u8 0, .int .u8 0, .int .u8 0] 152))
  have hc2 : ((n : Int) * 2) = ((2 * n : Nat) : Int) := by omega
  go_enter Tryd.func105, Tryd.ntmps105
  go_wp2
  go_loopw [3, 5] (fun p at_ W => ∃ (m e : Nat) (D : List UInt8), p = .int .u64 m ∧ m ≤ 2199023255552 ∧ at_ = .int .i64 e ∧ e + D.length = 9 ∧ Hid (bigB (2 * n) = bigB m ++ D ∧ Arr9 W w.heap.size (zer e ++ D) ∧ Below w.heap.size w W)) (fun p _ _ => (intOf p).toNat)
  case atStart => exact ⟨2 * n, 9, [], by go_num, by omega, rfl, rfl, Lib.hid ⟨by simp, by simpa using h0.out, hb0.out⟩⟩
  case round =>
    obtain ⟨m, e, D, rfl, hm, rfl, he, HR⟩ := hrel
    by_cases h : m = 0
    · subst h
      have hj : D.length ≤ 6 := by have h1 := HL.out; rw [HR.out.1, bigB_zero] at h1; simpa using h1
      obtain ⟨e, rfl⟩ : ∃ e', e = e' + 1 := ⟨e - 1, by omega⟩
      have hlen : (zer (e + 1) ++ D).length = 9 := by simp [zer_length]; omega
      obtain ⟨u, hcell⟩ : ∃ u, wr.cell? ⟨w.heap.size, e, none⟩ = some u := ⟨_, HR.out.2.1.cell e (by omega)⟩
      have hfz := HR.out.2.1.free e
      have heI : (e : Int) ≤ 9 := by omega
      have hne : ¬ 9 = e := by omega
      have hS := HR.out.2.1.set e (UInt8.ofNat D.length)
      rw [set9, show ((UInt8.ofNat D.length).toNat : Int) = 9 - ((e : Int) + 1) by rw [UInt8.toNat_ofNat']; omega] at hS
      have hcv := arr9_conv hS e (9 - e) (9 - e) (by simp [zer_length]; omega)
      rw [List.drop_left' (zer_length e), List.take_of_length_le (by simp; omega)] at hcv
      have hI : UInt8.ofNat D.length :: D = intB n := by
        unfold intB numW
        rw [HR.out.1, bigB_zero, List.nil_append]
      rw [hI] at hcv
      clear hlen hS hI he
      go_wp2
      go_ret
      exact ⟨rfl, HR.out.2.2.setCell (Nat.le_refl _) _⟩
    · have hpos : 0 < (m : Int) := by omega
      have hD : D.length + 1 ≤ 6 := by
        have h1 := HL.out
        rw [HR.out.1, bigB_pos h] at h1
        simp at h1; omega
      obtain ⟨e, rfl⟩ : ∃ e', e = e' + 1 := ⟨e - 1, by omega⟩
      obtain ⟨bb, hbb⟩ : ∃ bb : UInt8, UInt8.ofNat m = bb := ⟨_, rfl⟩
      have hbv : (bb.toNat : Int) = (m : Int) % 256 := by rw [← hbb, UInt8.toNat_ofNat']; omega
      have hS := HR.out.2.1.set e bb
      rw [set9, hbv] at hS
      have hlen : (zer (e + 1) ++ D).length = 9 := by simp [zer_length]; omega
      obtain ⟨u, hcell⟩ : ∃ u, wr.cell? ⟨w.heap.size, e, none⟩ = some u := ⟨_, HR.out.2.1.cell e (by omega)⟩
      have hfz := HR.out.2.1.free e
      have HS := Lib.hid hS
      have HE := Lib.hid (show bigB (2 * n) = bigB (m / 256) ++ bb :: D by rw [HR.out.1, bigB_pos h, hbb]; simp)
      have heI : (e : Int) ≤ 9 := by omega
      clear hS hbb hbv hlen h
      go_wp2
      go_roundw
      case measure => simp [intOf]; omega
      case rel => exact ⟨m / 256, e, bb :: D, by go_num, by omega, by go_num, by simp; omega, Lib.hid ⟨HE.out, HS.out, HR.out.2.2.setCell (Nat.le_refl _) _⟩⟩

theorem place_any (n : Nat) (w : World) (hn : n ≤ 1099511627776) :
    Calls Tryd.prog 127 #[.int .i64 (n : Int)] w fun e w' => e = .returned (.int .u64 ((2 * n : Nat) : Int)) ∧ w = w' := by
  have hnI : (n : Int) ≤ 1099511627776 := by omega
  go_enter Tryd.func127, Tryd.ntmps127
  go_wp2
  go_ret
  exact ⟨ret_int (by omega), rfl⟩
/-- A slice literal of one octet, as text. -/
theorem conv1o (w : World) (b : UInt8) (x : Int) (h : x = (b.toNat : Int)) :
    (convert 85 9 (.slice (some ⟨w.heap.size, 0, none⟩) 1 1)).run Tryd.prog (w.alloc (.cells #[.int .u8 x] 5)) = .ok (.string (mkS [b])) (w.alloc (.cells #[.int .u8 x] 5)) := by
  rw [conv1 w _ x, mkS_one x b h]
theorem intRef_any (n : Nat) (w : World) (hn : n ≤ 1099511627776) :
    Calls Tryd.prog 107 #[.int .i64 (n : Int)] w fun e w' => e = .returned (.string (mkS (intB n))) ∧ Below w.heap.size w w' := by
  have hnI : (n : Int) ≤ 1099511627776 := by omega
  have HL := Lib.hid (bigB_len6 hn)
  have HP := Lib.hid (place_any n w hn)
  have HN : Hid (2 * n ≤ 2199023255552) := Lib.hid (by omega)
  go_enter Tryd.func107, Tryd.ntmps107
  go_wp2_with (go_at_call 127; (with_reducible refine HP.out.mono ?_); rintro e w2 ⟨rfl, rfl⟩)
  go_loopw [3, 4, 5] (fun p s k W => ∃ (m : Nat) (D : List UInt8), p = .int .u64 m ∧ m ≤ 2199023255552 ∧ s = .string (mkS D) ∧ k = .int .i64 D.length ∧ Hid (bigB (2 * n) = bigB m ++ D ∧ Below w.heap.size w W)) (fun p _ _ _ => (intOf p).toNat)
  case atStart => exact ⟨2 * n, [], rfl, HN.out, rfl, rfl, Lib.hid ⟨by simp, Below.refl _ _⟩⟩
  case round =>
    obtain ⟨m, D, rfl, hm, rfl, rfl, HR⟩ := hrel
    have hj : D.length ≤ 6 := by have h1 := HL.out; rw [HR.out.1, List.length_append] at h1; omega
    have hjI : (D.length : Int) ≤ 6 := by omega
    by_cases h : m = 0
    · subst h
      have hcv := conv1o wr (UInt8.ofNat D.length) (D.length : Int) (by rw [UInt8.toNat_ofNat']; omega)
      have had := fun P W => add_at (show mkS [UInt8.ofNat D.length] ++ mkS D = mkS (intB n) by
        rw [mkS_append]; congr 1; unfold intB numW; rw [HR.out.1, bigB_zero]; rfl) (by
          rw [mkS_size]; have := intB_length n 6 (by have : (256 : Nat) ^ 6 = 281474976710656 := by decide
                                                     omega)
          omega) P W
      obtain ⟨C, hC⟩ : ∃ C, mkS (intB n) = C := ⟨_, rfl⟩
      have HC := Lib.hid hC
      rw [hC] at had
      clear hC
      generalize mkS [UInt8.ofNat D.length] = A at *
      generalize mkS D = B at *
      generalize D.length = j at *
      go_wp2
      go_ret
      exact ⟨by rw [HC.out]; rfl, below_alloc HR.out.2 _⟩
    · have hpos : 0 < (m : Int) := by omega
      obtain ⟨bb, hbb⟩ : ∃ bb : UInt8, UInt8.ofNat m = bb := ⟨_, rfl⟩
      have hbv : (m : Int) % 256 = (bb.toNat : Int) := by rw [← hbb, UInt8.toNat_ofNat']; omega
      have hcv := conv1o wr bb ((m : Int) % 256) hbv
      have had := fun P W => add_at (show mkS [bb] ++ mkS D = mkS (bb :: D) by rw [mkS_append]; rfl) (by rw [mkS_size]; simp; omega) P W
      have HE := Lib.hid (show bigB (2 * n) = bigB (m / 256) ++ bb :: D by rw [HR.out.1, bigB_pos h, hbb]; simp)
      obtain ⟨C, hC⟩ : ∃ C, mkS (bb :: D) = C := ⟨_, rfl⟩
      have HC := Lib.hid hC
      rw [hC] at had
      clear hbb hC hbv h
      generalize mkS [bb] = A at *
      generalize mkS D = B at *
      go_wp2
      go_roundw
      case measure => simp [intOf]; omega
      case rel => exact ⟨m / 256, bb :: D, by go_num, by omega, by rw [HC.out], by simp, Lib.hid ⟨HE.out, below_alloc HR.out.2 _⟩⟩
end Go.Proofs.YtoojdknfommpbaaDoor
