/- The chapter's example on sums. -/
import Derived.Test.YtmmajdkngboecaaCrcWalk2
import Derived.RowKit3
import Derived.StillTailTactics
import Derived.Lib.IndexBytes
namespace Go.Proofs.Ytmmajdkngboecaa
open Go.RowKit
set_option maxRecDepth 10000

theorem sum_nine : W (sumB (bl ⟨#[49, 50, 51, 52, 53, 54, 55, 56, 57]⟩)) = 3421780262 := by decide
theorem oct_258 : octS 258#32 = ⟨#[0, 0, 1, 2]⟩ := by decide
theorem crc_awake (w : World) : Calls Try.prog 16 #[] w fun e w' => e = .returned (.bool true) ∧ Below w.heap.size w w' := by
  have hr := fun w => read_any ⟨#[97, 98, 99]⟩ w (by decide)
  have hs := fun w => sum_any ⟨#[49, 50, 51, 52, 53, 54, 55, 56, 57]⟩ w (by decide)
  have ho := fun w => octets_any 258#32 w
  rw [show rdN ⟨#[97, 98, 99]⟩ = 0 from rfl, show rdE ⟨#[97, 98, 99]⟩ = 8 from rfl] at hr
  rw [sum_nine] at hs
  rw [oct_258, show W 258#32 = 258 from rfl] at ho
  have HR := Lib.hid hr; have HS := Lib.hid hs; have HO := Lib.hid ho
  clear hr hs ho
  go_enter Try.func16, Try.ntmps16
  go_wp2_with (first | (go_at_call 17; refine (HR.out _).mono ?_; rintro e w' ⟨rfl, rfl⟩) | (go_at_call 19; refine (HS.out _).mono ?_; rintro e w' ⟨rfl, rfl⟩) | (go_at_call 23; refine (HO.out _).mono ?_; rintro e w' ⟨rfl, hb⟩))
  go_ret
  exact ⟨rfl, hb⟩

theorem crcSums_walk (s : ByteArray) (sum : Int) (w : World) (hs : s.size ≤ maxLen) (hn : (Lit.int .u32 sum).wf = true) :
    Calls Try.prog 3 #[.string s, .int .u32 sum] w fun e w' => e = .returned (.bool true) ∧ Below w.heap.size w w' := by
  unfold maxLen at hs
  obtain ⟨x, rfl⟩ := W_of sum (wf_u32 hn).1 (wf_u32 hn).2
  clear hn
  by_cases h6 : 600 < s.size
  · go_enter Try.func3, Try.ntmps3
    go_wp2_with (go_at_call 16; refine (crc_awake _).mono ?_; rintro e w' ⟨rfl, hb⟩)
    go_ret
    exact ⟨rfl, hb⟩
  · have h7 : s.size ≤ 140737488351232 := by omega
    go_enter Try.func3, Try.ntmps3
    go_wp2_with (first | (go_at_call 17; refine (read_any s _ h7).mono ?_; rintro e w' ⟨rfl, rfl⟩) | (go_at_call 18; refine (read_ref s _ h7).mono ?_; rintro e w' ⟨rfl, rfl⟩) | (go_at_call 19; refine (sum_any s _ h7).mono ?_; rintro e w' ⟨rfl, rfl⟩) | (go_at_call 20; refine (sum_ref s _ h7).mono ?_; rintro e w' ⟨rfl, rfl⟩) | (go_at_call 21; refine (more_any x s _ h7).mono ?_; rintro e w' ⟨rfl, rfl⟩) | (go_at_call 22; refine (more_ref x s _ h7).mono ?_; rintro e w' ⟨rfl, rfl⟩) | (go_at_call 23; refine (octets_any x _).mono ?_; rintro e w1 ⟨rfl, hb1⟩) | (go_at_call 24; refine (octets_ref x _).mono ?_; rintro e w2 ⟨rfl, hb2⟩) | (go_at_call 16; refine (crc_awake _).mono ?_; rintro e w3 ⟨rfl, hb3⟩))
    go_ret
    exact ⟨rfl, (hb1.trans (hb2.mono hb1.size)).trans (hb3.mono (Nat.le_trans hb1.size hb2.size))⟩

theorem octS_size (x : BitVec 32) : (octS x).size = 4 := rfl
/-- A contract that leaves the world, as a still region asks for it. -/
theorem same_of {f : FuncId} {args : Array Value} {w : World} {v : Value} (h : Calls Try.prog f args w fun e w' => e = .returned v ∧ w = w') :
    Calls Try.prog f args w fun e w' => e = .returned v ∧ w' = w := h.mono fun _ _ ⟨he, hw⟩ => ⟨he, hw.symm⟩
theorem bl_extract (s : ByteArray) (a b : Nat) : bl (s.extract a b) = ((bl s).take b).drop a := by
  unfold bl; simp [ByteArray.data_extract, List.drop_take]
theorem size_extract_to (s : ByteArray) (k : Nat) (h : k ≤ s.size) : (s.extract 0 k).size = k := by simp; omega
theorem crcParts_walk (s : ByteArray) (at_ sum : Int) (w : World) (hs : s.size ≤ maxLen) (ha : (Lit.int .u16 at_).wf = true) (hn : (Lit.int .u32 sum).wf = true) :
    Calls Try.prog 4 #[.string s, .int .u16 at_, .int .u32 sum] w fun e w' => e = .returned (.bool true) ∧ Below w.heap.size w w' := by
  unfold maxLen at hs
  obtain ⟨x, rfl⟩ := W_of sum (wf_u32 hn).1 (wf_u32 hn).2
  obtain ⟨ha0, ha1⟩ := wf_u16 ha
  clear hn ha
  by_cases h6 : 600 < s.size
  · go_enter Try.func4, Try.ntmps4
    go_wp2_with (go_at_call 16; refine (crc_awake _).mono ?_; rintro e w' ⟨rfl, hb⟩)
    go_ret
    exact ⟨rfl, hb⟩
  · have h7 : s.size ≤ 600 := by omega
    obtain ⟨K, hK, hKs⟩ : ∃ K : Nat, at_ % ((s.size : Int) + 1) = K ∧ K ≤ s.size := by
      have h1 := Int.emod_nonneg at_ (show ((s.size : Int) + 1) ≠ 0 by omega)
      have h2 := Int.emod_lt_of_pos at_ (show (0 : Int) < (s.size : Int) + 1 by omega)
      exact ⟨(at_ % ((s.size : Int) + 1)).toNat, by omega, by omega⟩
    have HB : Hid (sumB (bl s) = moreB (sumB (bl (s.extract 0 K))) (bl (s.extract K s.size))) := Lib.hid (by
      rw [bl_extract, bl_extract, bl_take_all, List.drop_zero]
      unfold sumB; rw [← moreB_append, List.take_append_drop])
    have hr := fun w => read_any (octS x) w (by rw [octS_size]; decide)
    rw [show rdE (octS x) = 0 by unfold rdE; rw [octS_size]; rfl, show rdN (octS x) = W x by
      unfold rdN; rw [if_pos (octS_size x), bl_octS]
      have hx := x.isLt
      show (((0 * 256 + _) * 256 + _) * 256 + _) * 256 + _ = _
      simp only [UInt8.toNat_ofNat', W]; omega] at hr
    have HR := Lib.hid hr
    have HZ : Hid (∀ w, Calls Try.prog 21 #[.int .u32 (W x), .string { data := #[] }] w fun e w' => e = .returned (.int .u32 (W x)) ∧ w = w') := Lib.hid fun w => by
      have := more_any x ⟨#[]⟩ w (by decide)
      rw [show bl ⟨#[]⟩ = [] from rfl, moreB_nil] at this; exact this
    clear hr
    go_enter Try.func4, Try.ntmps4
    go_wp2_with (first | (go_at_call 23; refine (octets_any x _).mono ?_; rintro e w1 ⟨rfl, hb1⟩) | (go_at_call 17; refine (HR.out _).mono ?_; rintro e w' ⟨rfl, rfl⟩))
    refine wp_region_still_tail 27 (by kernel_rfl) (by kernel_rfl) ?_
    simp only [List.take_succ_cons, List.take_zero, List.drop_succ_cons, List.drop_zero]
    have e1 : (s.extract 0 K).size ≤ 140737488351232 := by rw [size_extract_to s K hKs]; omega
    have e2 : (s.extract K s.size).size ≤ 140737488351232 := by simp; omega
    have E1 := Lib.hid e1; have E2 := Lib.hid e2
    clear e1 e2
    still_step
    still_step
    still_step
    still_call (same_of (sum_any _ _ E1.out))
    still_step
    still_step
    still_step
    still_call (same_of (more_any _ _ _ E2.out))
    still_step
    still_call (same_of (sum_any s _ (by omega)))
    have hB := HB.out.symm
    still_step
    clear hB
    still_step
    still_step
    still_call (same_of (HZ.out _))
    still_step
    still_step
    still_step
    still_step
    still_step
    still_step
    still_step
    still_step
    still_step
    still_step
    still_step
    still_step
    still_step
    refine wpStill_nil ?_
    change wpList _ _ _ _ _ w1.drew
    generalize hw2 : w1.drew = w2
    have HW2 := Lib.hid hw2
    clear hw2
    go_wp2_with (go_at_call 16; refine (crc_awake _).mono ?_; rintro e w3 ⟨rfl, hb3⟩)
    go_ret
    have h3 : Below w1.drew.heap.size w1.drew w3 := by rw [HW2.out]; exact hb3
    exact ⟨rfl, hb1.trans (Below.mono (below_drew1 h3) hb1.size)⟩
end Go.Proofs.Ytmmajdkngboecaa
