/- The walk of slices.Repeat of one string. -/
import Derived.Test.YtoojdknfommpbaaDoorDiskCopy
import Derived.Test.YtoojdknfommpbaaDoorShelf
import Derived.Deep.RegionLaw
import Derived.Laws.CopyOwn
namespace Go.Proofs.YtoojdknfommpbaaDoor
open Go.RowKit
set_option maxRecDepth 10000

def repRow (n m : Nat) (z : ByteArray) : List Value := List.replicate m (.string z) ++ List.replicate (n - m) (.string ByteArray.empty)
theorem repRow_length (n m : Nat) (z : ByteArray) (h : m ≤ n) : (repRow n m z).length = n := by unfold repRow; simp; omega
theorem repRow_zero (n : Nat) (z : ByteArray) : repRow n 0 z = List.replicate n (.string ByteArray.empty) := by unfold repRow; simp
theorem repRow_all (n : Nat) (z : ByteArray) : repRow n n z = List.replicate n (.string z) := by unfold repRow; simp
theorem repRow_splice (n m k : Nat) (z : ByteArray) (h : m + k ≤ n) : splice (repRow n m z) m (List.replicate k (.string z)) = repRow n (m + k) z := by
  unfold splice repRow
  rw [List.take_left' (by simp), List.drop_append, List.length_replicate, List.length_replicate, List.drop_eq_nil_of_le (by simp), List.nil_append, List.drop_replicate, ← List.append_assoc, List.replicate_append_replicate]
  congr 2; omega
theorem repRow_at (n m : Nat) (z : ByteArray) (i : Nat) (h : i < m) : (repRow n m z)[i]? = some (.string z) := by
  unfold repRow; rw [List.getElem?_append_left (by simpa using h), List.getElem?_replicate, if_pos h]
theorem size_str : (Tryd.prog.info? 9).map (·.size) = some 1 := by kernel_rfl
theorem own_whole {w : World} {base : Nat} {e : TypeId} {g n : Nat} {xs : List Value} (h : w.ownsRow base e 1 (.slice (some ⟨g, 0, none⟩) n n) n xs) : w.heap[g]? = some (.cells xs.toArray e (0, 0)) := by
  rcases h.2 with ⟨h1, _⟩ | ⟨g', cap, cur, h1, _, hh, _, _, hs, ht⟩
  · cases h1
  · simp only [Value.slice.injEq, Option.some.injEq, Addr.mk.injEq, and_true, true_and] at h1
    obtain ⟨rfl, rfl⟩ := h1
    rw [hh, ← ht, List.take_of_length_le (by simp [hs])]
theorem whole_own {w : World} {base : Nat} {e : TypeId} {g n : Nat} {xs : List Value} (h : w.heap[g]? = some (.cells xs.toArray e (0, 0))) (hb : base ≤ g) (hl : xs.length = n) (hn : n ≤ maxLen) : w.ownsRow base e 1 (.slice (some ⟨g, 0, none⟩) n n) n xs :=
  ⟨by simpa using hl, .inr ⟨g, n, xs.toArray, rfl, hb, h, Nat.le_refl _, hn, by simpa using hl, by rw [List.take_of_length_le (by simp [hl])]⟩⟩
theorem whole_at {w : World} {e : TypeId} {g i : Nat} {xs : List Value} {v : Value} (h : w.heap[g]? = some (.cells xs.toArray e (0, 0))) (hv : xs[i]? = some v) : w.cell? ((⟨g, 0, none⟩ : Addr).add i) = some v := by
  rw [add_lit0]; unfold World.cell?; rw [h]; simpa using hv
theorem copy_one (w w1 : World) (gx n : Nat) (z : ByteArray) (hz : w.cell? ⟨gx, 0, none⟩ = some (.string z)) (h2 : 2 ≤ n) (hg1 : w1.heap[w.heap.size]? = some (.cells (repRow n 0 z).toArray 9 (0, 0))) (hb1 : Below w.heap.size w w1) :
    ∃ w2, (Builtin.copy_ #[30, 30] 3 #[.slice (some ⟨w.heap.size, 0, none⟩) n n, .slice (some ⟨gx, 0, none⟩) 1 1]).run Tryd.prog w1 = .ok (.int .i64 1) w2 ∧
      Hid (w2.heap[w.heap.size]? = some (.cells (repRow n 1 z).toArray 9 (0, 0)) ∧ Below w.heap.size w w2) := by
  have hr := run_copy_row (P := Tryd.prog) w1 30 30 3 9 w.heap.size 0 n n ⟨gx, 0, none⟩ 1 1 (repRow n 0 z).toArray 9 [.string z] Tryd.underlying30 size_str hg1 (by show 1 = min 1 n; omega)
    (fun j v hj => by
      rcases j with _ | j
      · simp at hj; subst hj; rw [add_lit0]; exact cell_below hb1 hz
      · simp at hj) (by have := repRow_length n 0 z (by omega); simp; omega) (by simp [Value.oneCell'])
  refine ⟨_, hr, Lib.hid ⟨?_, below_setRow hb1 (Nat.le_refl _) _⟩⟩
  have h3 := repRow_splice n 0 1 z (by omega)
  rw [setRow_heap w1 w.heap.size _ _ 9 _ hg1]
  unfold splice at h3
  simp only [List.length_replicate, Nat.zero_add] at h3
  rw [← h3]
  simp
theorem copy_more (w wr : World) (n m k : Nat) (z : ByteArray) (hm : m < n) (hk : k = min m (n - m)) (hg1 : wr.heap[w.heap.size]? = some (.cells (repRow n m z).toArray 9 (0, 0))) (hb1 : Below w.heap.size w wr) :
    ∃ w2, (Builtin.copy_ #[30, 30] 3 #[.slice (some ⟨w.heap.size, m, none⟩) (n - m) (n - m), .slice (some ⟨w.heap.size, 0, none⟩) m n]).run Tryd.prog wr.drew = .ok (.int .i64 (k : Int)) w2 ∧
      Hid (w2.heap[w.heap.size]? = some (.cells (repRow n (m + k) z).toArray 9 (0, 0)) ∧ Below w.heap.size w w2) := by
  have hl := repRow_length n m z (by omega)
  have hr := run_copy_row (P := Tryd.prog) wr.drew 30 30 3 9 w.heap.size m (n - m) (n - m) ⟨w.heap.size, 0, none⟩ m n (repRow n m z).toArray 9 (List.replicate k (.string z)) Tryd.underlying30 size_str hg1 (by rw [List.length_replicate]; exact hk)
    (fun j v hj => by
      rw [List.getElem?_replicate] at hj
      split at hj
      · next hjk => cases hj; exact whole_at (w := wr.drew) hg1 (repRow_at n m z j (by omega))
      · cases hj) (by rw [List.length_replicate, List.size_toArray, hl]; omega) (by simp [Value.oneCell'])
  rw [List.length_replicate] at hr
  refine ⟨_, hr, Lib.hid ⟨?_, below_setRow hb1.drew (Nat.le_refl _) _⟩⟩
  have h3 := repRow_splice n m k z (by omega)
  rw [setRow_heap wr.drew w.heap.size _ _ 9 _ hg1]
  unfold splice at h3
  simp only [List.length_replicate] at h3
  rw [← h3]
  simp
set_option maxHeartbeats 1000000 in
theorem repeat_any (w : World) (gx n : Nat) (z : ByteArray) (hz : w.cell? ⟨gx, 0, none⟩ = some (.string z)) (h2 : 2 ≤ n) (hn : n ≤ 512) :
    Calls Tryd.prog 88 #[.slice (some ⟨gx, 0, none⟩) 1 1, .int .i64 (n : Int)] w fun e w' => ∃ v', e = .returned v' ∧ w'.ownsRow w.heap.size 9 1 v' n (List.replicate n (.string z)) ∧ Below w.heap.size w w' := by
  have hm := Tryd.bits_Mul 1 n (by omega) (by omega) w
  rw [Nat.one_mul, Nat.div_eq_of_lt (by omega), Nat.mod_eq_of_lt (by omega)] at hm
  have HM : Hid (Calls Tryd.prog 111 #[.int .u64 1, .int .u64 (n : Int)] w fun e w' => e = .returned (.tuple #[.int .u64 0, .int .u64 (n : Int)]) ∧ w = w') := Lib.hid (hm.mono fun e w' ⟨he, hw⟩ => ⟨he, hw.symm⟩)
  clear hm
  have h2I : (2 : Int) ≤ (n : Int) := by omega
  have hnI : (n : Int) ≤ 512 := by omega
  have u1 : IntKind.u64.wrap (n : Int) = (n : Int) := by rw [IntKind.wrap_u64]; omega
  have u2 : IntKind.i64.wrap (n : Int) = (n : Int) := by rw [IntKind.wrap_i64]; omega
  obtain ⟨i0, hi, hz0, hz1, hz2⟩ := info_parts info_str
  have HI := Lib.hid hi
  clear hi
  go_enter Tryd.func88, Tryd.ntmps88
  go_wp2_with (first | (go_at_call 111; (with_reducible refine HM.out.mono ?_); rintro e w' ⟨rfl, rfl⟩) | (at_make; refine wpList_make_full _ rfl _ _ 30 rfl w.heap.size 9 i0 (.string ByteArray.empty) 1 Tryd.underlying30 HI.out hz0 hz1 .i64 .i64 _ _ n rfl rfl rfl rfl (by rw [hz2]; omega) (by unfold maxLen; omega) (Nat.le_refl _) ?_; intro w1 hown1 hgrow1; have hg1 : Hid (w1.heap[w.heap.size]? = some (.cells (repRow n 0 z).toArray 9 (0, 0))) := Lib.hid (by have := own_whole hown1; rw [repRow_zero]; simpa [Value.cells, toList_madeCells_one] using this); have hb1 : Hid (Below w.heap.size w w1) := Lib.hid (grown_below (v := .slice none 0 0) (Below.refl _ _) hgrow1 (by simp [Value.ownBlock])); clear hown1 hgrow1; obtain ⟨w2, hrun2, HB2⟩ := copy_one w w1 gx n z hz h2 hg1.out hb1.out))
  go_loopw [8] (fun i W => ∃ m : Nat, 1 ≤ m ∧ m ≤ n ∧ i = .int .i64 m ∧ Hid (W.heap[w.heap.size]? = some (.cells (repRow n m z).toArray 9 (0, 0)) ∧ Below w.heap.size w W)) (fun i _ => n - (intOf i).toNat)
  case atStart => exact ⟨1, by omega, by omega, rfl, Lib.hid HB2.out⟩
  case round =>
    obtain ⟨m, hm1, hmn, rfl, HR⟩ := hrel
    by_cases hlt : m < n
    · have hmI : (m : Int) < (n : Int) := by omega
      have hnm : ¬ n = m := by omega
      have hm1I : 1 ≤ (m : Int) := by omega
      obtain ⟨k, hk⟩ : ∃ k, k = min m (n - m) := ⟨_, rfl⟩
      have hk1 : 1 ≤ k := by omega
      have hk2 : m + k ≤ n := by omega
      have hkI : (m : Int) + (k : Int) ≤ (n : Int) := by omega
      have HK := Lib.hid hk
      clear hk
      obtain ⟨w4, hrun4, HB4⟩ := copy_more w wr n m k z hlt HK.out HR.out.1 HR.out.2
      go_wp2
      go_region
      go_wp2
      go_roundw
      case measure => simp [intOf]; omega
      case rel => exact ⟨m + k, by omega, hk2, by go_num, HB4⟩
    · obtain rfl : m = n := by omega
      go_wp2
      go_ret
      exact ⟨_, rfl, by rw [← repRow_all]; exact whole_own HR.out.1 (Nat.le_refl _) (repRow_length _ _ _ (by omega)) (by unfold maxLen; omega), HR.out.2⟩
end Go.Proofs.YtoojdknfommpbaaDoor
