/- The walks of stamp's and draymanref06's small functions: Fit, get, told, high, Torn, rest, Blank. -/
import Derived.Test.YtoojdknfommpbaaDoorCrcOct
import Derived.Test.YtoojdknfommpbaaDoorStampPure
import Derived.StillTailTactics
import Derived.Lib.ConvBytes
namespace Go.Proofs.YtoojdknfommpbaaDoor
open Go.RowKit
set_option maxRecDepth 10000

def Stp.val (x : Stp) : Value := .agg #[.int .i64 x.num, .int .i64 x.idx, .int .i64 x.cnt]
theorem fit_any (x : Stp) (w : World) : Calls Tryd.prog 15 #[x.val] w fun e w' => e = .returned (.bool (decide x.fit)) ∧ Below w.heap.size w w' := by
  obtain ⟨a, b, c⟩ := x
  unfold Stp.val
  simp only
  have HF : Hid (decide (Stp.fit ⟨a, b, c⟩) = true ↔ (1 ≤ a ∧ a ≤ 1099511627776 ∧ 1 ≤ c ∧ c ≤ 512 ∧ 0 ≤ b ∧ b < c)) := Lib.hid (by rw [decide_eq_true_iff]; exact Iff.rfl)
  generalize decide (Stp.fit ⟨a, b, c⟩) = r at *
  have HB := Lib.hid (below_new w (.cells #[.int .i64 a, .int .i64 b, .int .i64 c] 23))
  have c0 : (w.alloc (.cells #[.int .i64 a, .int .i64 b, .int .i64 c] 23)).cell? ⟨w.heap.size, 0, none⟩ = some (.int .i64 a) := (World.cell?_alloc_new _ _ _ _).trans rfl
  have c1 : (w.alloc (.cells #[.int .i64 a, .int .i64 b, .int .i64 c] 23)).cell? ⟨w.heap.size, 1, none⟩ = some (.int .i64 b) := (World.cell?_alloc_new _ _ _ _).trans rfl
  have c2 : (w.alloc (.cells #[.int .i64 a, .int .i64 b, .int .i64 c] 23)).cell? ⟨w.heap.size, 2, none⟩ = some (.int .i64 c) := (World.cell?_alloc_new _ _ _ _).trans rfl
  by_cases h1 : 1 ≤ a
  · by_cases h2 : a ≤ 1099511627776
    · by_cases h3 : 1 ≤ c
      · by_cases h4 : c ≤ 512
        · by_cases h5 : 0 ≤ b
          · by_cases h6 : b < c
            · have hr : Hid (r = true) := Lib.hid (HF.out.2 ⟨h1, h2, h3, h4, h5, h6⟩)
              clear HF
              go_enter Tryd.func15, Tryd.ntmps15
              go_wp2
              go_ret
              exact ⟨ret_bool hr.out.symm, HB.out⟩
            · have hr : Hid (r = false) := Lib.hid (Bool.eq_false_iff.2 fun h => h6 (HF.out.1 h).2.2.2.2.2)
              clear HF
              go_enter Tryd.func15, Tryd.ntmps15
              go_wp2
              go_ret
              exact ⟨ret_bool hr.out.symm, HB.out⟩
          · have hr : Hid (r = false) := Lib.hid (Bool.eq_false_iff.2 fun h => h5 (HF.out.1 h).2.2.2.2.1)
            clear HF
            go_enter Tryd.func15, Tryd.ntmps15
            go_wp2
            go_ret
            exact ⟨ret_bool hr.out.symm, HB.out⟩
        · have hr : Hid (r = false) := Lib.hid (Bool.eq_false_iff.2 fun h => h4 (HF.out.1 h).2.2.2.1)
          clear HF
          go_enter Tryd.func15, Tryd.ntmps15
          go_wp2
          go_ret
          exact ⟨ret_bool hr.out.symm, HB.out⟩
      · have hr : Hid (r = false) := Lib.hid (Bool.eq_false_iff.2 fun h => h3 (HF.out.1 h).2.2.1)
        clear HF
        go_enter Tryd.func15, Tryd.ntmps15
        go_wp2
        go_ret
        exact ⟨ret_bool hr.out.symm, HB.out⟩
    · have hr : Hid (r = false) := Lib.hid (Bool.eq_false_iff.2 fun h => h2 (HF.out.1 h).2.1)
      clear HF
      go_enter Tryd.func15, Tryd.ntmps15
      go_wp2
      go_ret
      exact ⟨ret_bool hr.out.symm, HB.out⟩
  · have hr : Hid (r = false) := Lib.hid (Bool.eq_false_iff.2 fun h => h1 (HF.out.1 h).1)
    clear HF
    go_enter Tryd.func15, Tryd.ntmps15
    go_wp2
    go_ret
    exact ⟨ret_bool hr.out.symm, HB.out⟩
theorem fit_ref (x : Stp) (w : World) : Calls Tryd.prog 16 #[x.val] w fun e w' => e = .returned (.bool (decide x.fit)) ∧ Below w.heap.size w w' := by
  obtain ⟨a, b, c⟩ := x
  unfold Stp.val
  simp only
  have HF : Hid (decide (Stp.fit ⟨a, b, c⟩) = true ↔ (1 ≤ a ∧ a ≤ 1099511627776 ∧ 1 ≤ c ∧ c ≤ 512 ∧ 0 ≤ b ∧ b < c)) := Lib.hid (by rw [decide_eq_true_iff]; exact Iff.rfl)
  generalize decide (Stp.fit ⟨a, b, c⟩) = r at *
  have HB := Lib.hid (below_new w (.cells #[.int .i64 a, .int .i64 b, .int .i64 c] 23))
  have c0 : (w.alloc (.cells #[.int .i64 a, .int .i64 b, .int .i64 c] 23)).cell? ⟨w.heap.size, 0, none⟩ = some (.int .i64 a) := (World.cell?_alloc_new _ _ _ _).trans rfl
  have c1 : (w.alloc (.cells #[.int .i64 a, .int .i64 b, .int .i64 c] 23)).cell? ⟨w.heap.size, 1, none⟩ = some (.int .i64 b) := (World.cell?_alloc_new _ _ _ _).trans rfl
  have c2 : (w.alloc (.cells #[.int .i64 a, .int .i64 b, .int .i64 c] 23)).cell? ⟨w.heap.size, 2, none⟩ = some (.int .i64 c) := (World.cell?_alloc_new _ _ _ _).trans rfl
  by_cases h1 : 1 ≤ a
  · by_cases h2 : a ≤ 1099511627776
    · by_cases h3 : 1 ≤ c
      · by_cases h4 : c ≤ 512
        · by_cases h5 : 0 ≤ b
          · by_cases h6 : b < c
            · have hr : Hid (r = true) := Lib.hid (HF.out.2 ⟨h1, h2, h3, h4, h5, h6⟩)
              clear HF
              go_enter Tryd.func16, Tryd.ntmps16
              go_wp2
              go_ret
              exact ⟨ret_bool hr.out.symm, HB.out⟩
            · have hr : Hid (r = false) := Lib.hid (Bool.eq_false_iff.2 fun h => h6 (HF.out.1 h).2.2.2.2.2)
              clear HF
              go_enter Tryd.func16, Tryd.ntmps16
              go_wp2
              go_ret
              exact ⟨ret_bool hr.out.symm, HB.out⟩
          · have hr : Hid (r = false) := Lib.hid (Bool.eq_false_iff.2 fun h => h5 (HF.out.1 h).2.2.2.2.1)
            clear HF
            go_enter Tryd.func16, Tryd.ntmps16
            go_wp2
            go_ret
            exact ⟨ret_bool hr.out.symm, HB.out⟩
        · have hr : Hid (r = false) := Lib.hid (Bool.eq_false_iff.2 fun h => h4 (HF.out.1 h).2.2.2.1)
          clear HF
          go_enter Tryd.func16, Tryd.ntmps16
          go_wp2
          go_ret
          exact ⟨ret_bool hr.out.symm, HB.out⟩
      · have hr : Hid (r = false) := Lib.hid (Bool.eq_false_iff.2 fun h => h3 (HF.out.1 h).2.2.1)
        clear HF
        go_enter Tryd.func16, Tryd.ntmps16
        go_wp2
        go_ret
        exact ⟨ret_bool hr.out.symm, HB.out⟩
    · have hr : Hid (r = false) := Lib.hid (Bool.eq_false_iff.2 fun h => h2 (HF.out.1 h).2.1)
      clear HF
      go_enter Tryd.func16, Tryd.ntmps16
      go_wp2
      go_ret
      exact ⟨ret_bool hr.out.symm, HB.out⟩
  · have hr : Hid (r = false) := Lib.hid (Bool.eq_false_iff.2 fun h => h1 (HF.out.1 h).1)
    clear HF
    go_enter Tryd.func16, Tryd.ntmps16
    go_wp2
    go_ret
    exact ⟨ret_bool hr.out.symm, HB.out⟩
theorem pow256 : (256 : Nat) ^ 6 = 281474976710656 := by decide
theorem rdT_take (s : ByteArray) (k : Nat) (hk : k < s.size) : rdT ((bl s).take (k + 1)) = rdT ((bl s).take k) * 256 + s[k].toNat := by
  unfold bl; rw [take_snoc_b s k hk, rdT_snoc]
theorem rdT_take_lt (s : ByteArray) (k : Nat) (hk : k < 6) : rdT ((bl s).take k) < 1099511627776 := by
  have := rdT_lt ((bl s).take k)
  have h2 : ((bl s).take k).length ≤ 5 := by rw [List.length_take]; omega
  have h3 : (256 : Nat) ^ ((bl s).take k).length ≤ 256 ^ 5 := Nat.pow_le_pow_right (by decide) h2
  have h4 : (256 : Nat) ^ 5 = 1099511627776 := by decide
  omega
theorem told_any (s : ByteArray) (w : World) (hs : s.size ≤ 6) :
    Calls Tryd.prog 66 #[.string s] w fun e w' => e = .returned (.int .i64 (rdT (bl s) : Int)) ∧ Below w.heap.size w w' := by
  go_enter Tryd.func66, Tryd.ntmps66
  go_wp2
  go_loop [3, 4] (fun t i => ∃ k : Nat, k ≤ s.size ∧ i = .int .i64 k ∧ ∃ n : Nat, Hid (n = rdT ((bl s).take k)) ∧ t = .int .i64 n) (fun _ i => s.size - (intOf i).toNat)
  case atStart => exact ⟨0, by omega, rfl, 0, Lib.hid (by simp [rdT_nil]), rfl⟩
  case round =>
    obtain ⟨k, hk, rfl, n, HN, rfl⟩ := hrel
    by_cases hlt : k < s.size
    · have HT := Lib.hid (rdT_take s k hlt)
      have hn : (n : Int) < 1099511627776 := by have := rdT_take_lt s k (by omega); have := HN.out; omega
      have hb1 : (s[k].toNat : Int) < 256 := by have := s[k].toNat_lt; omega
      obtain ⟨b, hb⟩ : ∃ b, b = s[k].toNat := ⟨_, rfl⟩
      rw [← hb] at HT
      have HB := Lib.hid hb
      clear hb
      go_wp2
      go_round
      case measure => simp [intOf]; omega
      case rel => exact ⟨k + 1, by omega, by go_num, n * 256 + b, Lib.hid (by rw [HT.out, HN.out]), by rw [HB.out]; go_num⟩
    · obtain rfl : k = s.size := by omega
      go_wp2
      go_ret
      exact ⟨ret_int (by rw [HN.out, bl_take_all]), Below.refl _ _⟩
theorem bytes_of (s : ByteArray) (w : World) : ∃ w1 c, (convert 9 85 (.string s)).run Tryd.prog w = .ok (.slice (some ⟨w.heap.size, 0, none⟩) s.size c) w1 ∧ Hid (∀ (k : Nat) (h : k < s.size), w1.cell? ⟨w.heap.size, k, none⟩ = some (.int .u8 (s[k].toNat : Int))) ∧ Hid (Below w.heap.size w w1) := by
  refine ⟨_, _, Lib.run_convert_string_bytes (P := Tryd.prog) w 9 85 5 s Tryd.underlying9 Tryd.underlying85 Tryd.underlying5, Lib.hid fun k h => ?_, Lib.hid ⟨rfl, rfl, rfl, by rw [Lib.bytesWorld_size]; omega, fun j hj => Lib.bytesWorld_at_old _ _ _ _ hj⟩⟩
  rw [Lib.bytesWorld_cell w 5 s k h, List.getD_eq_getElem?_getD, List.getElem?_eq_getElem (by simpa using h), Option.getD_some, Array.getElem_toList]
  rfl
theorem or_join64 (n b : Int) (h0 : 0 ≤ n) (h1 : n < 1099511627776) (hb0 : 0 ≤ b) (hb1 : b < 256) : bits .or .i64 (n * 256) b = n * 256 + b :=
  bits_join .i64 62 (by decide) (fun n h0 h1 => by rw [IntKind.wrap_i64]; omega) 8 (n * 256) b (by omega) (by omega) (by omega) hb0 (by omega) (by omega)
theorem get_any (s : ByteArray) (w : World) (hs : s.size ≤ 6) :
    Calls Tryd.prog 64 #[.string s] w fun e w' => e = .returned (.int .i64 (rdT (bl s) : Int)) ∧ Below w.heap.size w w' := by
  obtain ⟨w1, c, hcv, HC, HB1⟩ := bytes_of s w
  go_enter Tryd.func64, Tryd.ntmps64
  go_wp2
  clear hcv
  go_loop [3, 5, 9] (fun t _ i => ∃ k : Nat, k ≤ s.size ∧ i = .int .i64 k ∧ ∃ n : Nat, Hid (n = rdT ((bl s).take k)) ∧ t = .int .i64 n) (fun _ _ i => s.size - (intOf i).toNat)
  case atStart => exact ⟨0, by omega, rfl, 0, Lib.hid (by simp [rdT_nil]), rfl⟩
  case round =>
    obtain ⟨k, hk, rfl, n, HN, rfl⟩ := hrel
    by_cases hlt : k < s.size
    · have HT := Lib.hid (rdT_take s k hlt)
      have hn : (n : Int) < 1099511627776 := by have := rdT_take_lt s k (by omega); have := HN.out; omega
      have hc := HC.out k hlt
      have hb1 : (s[k].toNat : Int) < 256 := by have := s[k].toNat_lt; omega
      obtain ⟨b, hb⟩ : ∃ b, s[k].toNat = b := ⟨_, rfl⟩
      rw [hb] at HT hc hb1
      have hor := or_join64 (n : Int) (b : Int) (by omega) hn (by omega) hb1
      clear hb
      go_wp2
      go_round
      case measure => simp [intOf]; omega
      case rel => exact ⟨k + 1, by omega, by go_num, n * 256 + b, Lib.hid (by rw [HT.out, HN.out]), by go_num⟩
    · obtain rfl : k = s.size := by omega
      go_wp2
      go_ret
      exact ⟨ret_int (by rw [HN.out, bl_take_all]), HB1.out⟩
end Go.Proofs.YtoojdknfommpbaaDoor
