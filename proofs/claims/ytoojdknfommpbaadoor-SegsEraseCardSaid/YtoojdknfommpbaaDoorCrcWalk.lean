/- The walks of crc's functions and of the document's: what they compute. -/
import Derived.Test.YtoojdknfommpbaaDoorProg
import Derived.Test.YtoojdknfommpbaaDoorCrcPure
import Derived.Test.YtoojdknfommpbaaDoorHeap
import Derived.WalkKit
import Derived.Outline
import Derived.KernelRfl
import Derived.LoopTactic
import Derived.WalkLawsBesides
import Derived.WalkSpells
import Derived.Deep.QuietTactic
import Derived.BigQuiet
import Derived.Lib.Hide
namespace Go.Proofs.YtoojdknfommpbaaDoor
open Go.RowKit

theorem take_snoc_b (s : ByteArray) (k : Nat) (h : k < s.size) : s.data.toList.take (k + 1) = s.data.toList.take k ++ [s[k]] := by
  rw [List.take_succ_eq_append_getElem (by simpa using h)]; rfl

theorem come_any (x : BitVec 32) (b : UInt8) (w : World) :
    Calls Tryd.prog 101 #[.int .u32 (W x), .int .u8 (b.toNat : Int)] w fun e w' => e = .returned (.int .u32 (W (comeB x b))) ∧ w = w' := by
  have hb0 : 0 ≤ (b.toNat : Int) := Int.natCast_nonneg _
  have hb1 : (b.toNat : Int) < 256 := by have := b.toNat_lt; omega
  have HX : Hid (bits .xor .u32 (W x) (b.toNat : Int) = W (x ^^^ octB b)) := Lib.hid (by rw [W_oct, bits_xor_W])
  have h0 : 0 ≤ W x := W_nonneg x
  have h1 : W x < 4294967296 := W_lt x
  generalize W x = n at *
  generalize (b.toNat : Int) = m at *
  go_enter Tryd.func101, Tryd.ntmps101
  go_wp2
  clear h0 h1
  go_loop [0, 10] (fun t i => ∃ k : Nat, k ≤ 8 ∧ i = .int .i64 k ∧ ∃ n : Int, 0 ≤ n ∧ n < 4294967296 ∧ Hid (n = W (stepsB k (x ^^^ octB b))) ∧ t = .int .u32 n) (fun _ i => 8 - (intOf i).toNat)
  case atStart => exact ⟨0, by omega, rfl, _, by rw [HX.out]; exact W_nonneg _, by rw [HX.out]; exact W_lt _, Lib.hid HX.out, rfl⟩
  case round =>
    obtain ⟨k, hk, rfl, n, h0, h1, HN, rfl⟩ := hrel
    go_wp2
    · have hb : (stepsB k (x ^^^ octB b)).getLsbD 0 = true := by rw [← W_low, ← HN.out]; assumption
      go_round
      case rel => exact ⟨k + 1, by omega, by go_num, _, W_nonneg _, W_lt _, Lib.hid rfl, by rw [HN.out, step_true _ hb, stepsB_succ]⟩
      case measure => simp [intOf]; omega
    · have hb : (stepsB k (x ^^^ octB b)).getLsbD 0 = false := by rw [← W_low, ← HN.out]; assumption
      go_round
      case rel => exact ⟨k + 1, by omega, by go_num, _, W_nonneg _, W_lt _, Lib.hid rfl, by rw [HN.out, step_false _ hb, stepsB_succ]⟩
      case measure => simp [intOf]; omega
    · have hk8 : k = 8 := by omega
      subst hk8
      go_ret
      exact ⟨ret_int HN.out, rfl⟩

theorem step_any (x : BitVec 32) (w : World) :
    Calls Tryd.prog 118 #[.int .u32 (W x)] w fun e w' => e = .returned (.int .u32 (W (stepB x))) ∧ w = w' := by
  have h0 : 0 ≤ W x := W_nonneg x
  have h1 : W x < 4294967296 := W_lt x
  have HL := Lib.hid (W_mod2 x)
  have HT := Lib.hid (step_true x)
  have HF := Lib.hid (step_false x)
  generalize W x = n at *
  go_enter Tryd.func118, Tryd.ntmps118
  go_wp2
  · have hb : x.getLsbD 0 = true := by rw [← HL.out]; assumption
    go_ret
    exact ⟨ret_int (HT.out hb), rfl⟩
  · have hb : x.getLsbD 0 = false := by rw [← HL.out]; assumption
    go_ret
    exact ⟨ret_int (HF.out hb), rfl⟩

def bl (s : ByteArray) : List UInt8 := s.data.toList
theorem bl_length (s : ByteArray) : (bl s).length = s.size := by unfold bl; rw [Array.length_toList]; rfl
theorem bl_take_all (s : ByteArray) : (bl s).take s.size = bl s := List.take_of_length_le (by rw [bl_length]; exact Nat.le_refl _)

theorem more_any (x : BitVec 32) (s : ByteArray) (w : World) (hs : s.size ≤ 140737488351232) :
    Calls Tryd.prog 59 #[.int .u32 (W x), .string s] w fun e w' => e = .returned (.int .u32 (W (moreB x (bl s)))) ∧ w = w' := by
  have HX := Lib.hid (W_not x)
  have h0 : 0 ≤ W x := W_nonneg x
  have h1 : W x < 4294967296 := W_lt x
  generalize W x = n at *
  go_enter Tryd.func59, Tryd.ntmps59
  go_wp2
  clear h0 h1
  go_loop [5, 11] (fun t i => ∃ k : Nat, k ≤ s.size ∧ i = .int .i64 k ∧ ∃ n : Int, Hid (n = W (((bl s).take k).foldl comeB (~~~ x))) ∧ t = .int .u32 n) (fun _ i => s.size - (intOf i).toNat)
  case atStart => exact ⟨0, by omega, rfl, _, HX, rfl⟩
  case round =>
    obtain ⟨k, hk, rfl, n, HN, rfl⟩ := hrel
    by_cases hlt : k < s.size
    · have HC : Hid (((bl s).take (k + 1)).foldl comeB (~~~ x) = comeB (((bl s).take k).foldl comeB (~~~ x)) s[k]) := Lib.hid (by unfold bl; rw [take_snoc_b s k hlt, List.foldl_append]; rfl)
      obtain ⟨y, HY⟩ : ∃ y, Hid (y = ((bl s).take k).foldl comeB (~~~ x)) := ⟨_, Lib.hid rfl⟩
      obtain rfl : n = W y := by rw [HN.out, HY.out]
      go_wp2_with (go_at_call 101; refine (come_any y s[k] _).mono ?_; rintro e w' ⟨rfl, rfl⟩)
      go_round
      case rel => exact ⟨k + 1, by omega, by go_num, _, Lib.hid (by rw [HC.out, HY.out]), rfl⟩
      case measure => simp [intOf]; omega
    · obtain rfl : k = s.size := by omega
      obtain ⟨y, HY⟩ : ∃ y, Hid (y = ((bl s).take s.size).foldl comeB (~~~ x)) := ⟨_, Lib.hid rfl⟩
      obtain rfl : n = W y := by rw [HN.out, HY.out]
      clear HN
      have HZ := Lib.hid (W_not y)
      have h0 : 0 ≤ W y := W_nonneg y
      have h1 : W y < 4294967296 := W_lt y
      generalize W y = n at *
      go_wp2
      go_ret
      exact ⟨ret_int (by rw [HZ.out, HY.out, bl_take_all]; rfl), rfl⟩

theorem more_ref (x : BitVec 32) (s : ByteArray) (w : World) (hs : s.size ≤ 140737488351232) :
    Calls Tryd.prog 102 #[.int .u32 (W x), .string s] w fun e w' => e = .returned (.int .u32 (W (moreB x (bl s)))) ∧ w = w' := by
  have HX := Lib.hid (W_not x)
  have h0 : 0 ≤ W x := W_nonneg x
  have h1 : W x < 4294967296 := W_lt x
  generalize W x = n at *
  go_enter Tryd.func102, Tryd.ntmps102
  go_wp2
  clear h0 h1
  go_loop [5, 6] (fun t i => ∃ k : Nat, k ≤ s.size ∧ i = .int .i64 k ∧ ∃ n : Int, Hid (n = W (((bl s).take k).foldl comeB (~~~ x))) ∧ t = .int .u32 n) (fun _ i => s.size - (intOf i).toNat)
  case atStart => exact ⟨0, by omega, rfl, _, HX, rfl⟩
  case round =>
    obtain ⟨k, hk, rfl, n, HN, rfl⟩ := hrel
    by_cases hlt : k < s.size
    · have HC : Hid (((bl s).take (k + 1)).foldl comeB (~~~ x) = comeB (((bl s).take k).foldl comeB (~~~ x)) s[k]) := Lib.hid (by unfold bl; rw [take_snoc_b s k hlt, List.foldl_append]; rfl)
      obtain ⟨y, HY⟩ : ∃ y, Hid (y = ((bl s).take k).foldl comeB (~~~ x)) := ⟨_, Lib.hid rfl⟩
      obtain rfl : n = W y := by rw [HN.out, HY.out]
      obtain ⟨b, Hb⟩ : ∃ b, Hid (b = s[k]) := ⟨_, Lib.hid rfl⟩
      have hb0 : 0 ≤ (s[k].toNat : Int) := Int.natCast_nonneg _
      have hb1 : (s[k].toNat : Int) < 256 := by have := s[k].toNat_lt; omega
      have HX2 : Hid (bits .xor .u32 (W y) (s[k].toNat : Int) = W (y ^^^ octB b)) := Lib.hid (by rw [W_oct, bits_xor_W, Hb.out])
      have h0 : 0 ≤ W y := W_nonneg y
      have h1 : W y < 4294967296 := W_lt y
      clear HN
      generalize W y = m at *
      go_wp2
      clear h0 h1 hb0 hb1
      go_loop [5, 7] (fun t i => ∃ j : Nat, j ≤ 8 ∧ i = .int .i64 j ∧ ∃ n : Int, Hid (n = W (stepsB j (y ^^^ octB b))) ∧ t = .int .u32 n) (fun _ i => 8 - (intOf i).toNat)
      case atStart => exact ⟨0, by omega, rfl, _, HX2, rfl⟩
      case round =>
        obtain ⟨j, hj, rfl, n, HN, rfl⟩ := hrel
        by_cases hj8 : j < 8
        · obtain ⟨z, HZ⟩ : ∃ z, Hid (z = stepsB j (y ^^^ octB b)) := ⟨_, Lib.hid rfl⟩
          obtain rfl : n = W z := by rw [HN.out, HZ.out]
          clear HN
          go_wp2_with (go_at_call 118; refine (step_any z _).mono ?_; rintro e w' ⟨rfl, rfl⟩)
          go_round
          case rel => exact ⟨j + 1, by omega, by go_num, _, Lib.hid (by rw [stepsB_succ, HZ.out]), rfl⟩
          case measure => simp [intOf]; omega
        · obtain rfl : j = 8 := by omega
          go_wp2
          go_round
          case rel => exact ⟨k + 1, by omega, by go_num, _, Lib.hid (by rw [HC.out, HN.out, ← HY.out, Hb.out]; rfl), rfl⟩
          case measure => simp [intOf]; omega
    · obtain rfl : k = s.size := by omega
      obtain ⟨y, HY⟩ : ∃ y, Hid (y = ((bl s).take s.size).foldl comeB (~~~ x)) := ⟨_, Lib.hid rfl⟩
      obtain rfl : n = W y := by rw [HN.out, HY.out]
      clear HN
      have HZ := Lib.hid (W_not y)
      have h0 : 0 ≤ W y := W_nonneg y
      have h1 : W y < 4294967296 := W_lt y
      generalize W y = n at *
      go_wp2
      go_ret
      exact ⟨ret_int (by rw [HZ.out, HY.out, bl_take_all]; rfl), rfl⟩

theorem W_zero : (0 : Int) = W 0#32 := rfl
theorem sum_any (s : ByteArray) (w : World) (hs : s.size ≤ 140737488351232) :
    Calls Tryd.prog 60 #[.string s] w fun e w' => e = .returned (.int .u32 (W (sumB (bl s)))) ∧ w = w' := by
  go_enter Tryd.func60, Tryd.ntmps60
  go_wp2_with (go_at_call 59; refine (more_any 0#32 s _ hs).mono ?_; rintro e w' ⟨rfl, rfl⟩)
  go_ret
  exact ⟨rfl, rfl⟩
theorem sum_ref (s : ByteArray) (w : World) (hs : s.size ≤ 140737488351232) :
    Calls Tryd.prog 63 #[.string s] w fun e w' => e = .returned (.int .u32 (W (sumB (bl s)))) ∧ w = w' := by
  go_enter Tryd.func63, Tryd.ntmps63
  go_wp2_with (go_at_call 102; refine (more_ref 0#32 s _ hs).mono ?_; rintro e w' ⟨rfl, rfl⟩)
  go_ret
  exact ⟨rfl, rfl⟩
end Go.Proofs.YtoojdknfommpbaaDoor
