/- The walks of the document's Data, Blank, Same, SameWaits, Few. -/
import Derived.Test.YtoojdknfommpbaaDoorDiskNew
namespace Go.Proofs.YtoojdknfommpbaaDoor
open Go.RowKit
set_option maxRecDepth 10000

/-- An act. -/
structure Ac where
  kind : Int
  at_ : Int
  fill : Int
  size : Int
  keep : List Bool
structure Ac.ok (a : Ac) : Prop where
  k0 : -9223372036854775808 ≤ a.kind
  k1 : a.kind ≤ 9223372036854775807
  a0 : -9223372036854775808 ≤ a.at_
  a1 : a.at_ ≤ 9223372036854775807
  f0 : 0 ≤ a.fill
  f1 : a.fill < 256
  s0 : -9223372036854775808 ≤ a.size
  s1 : a.size ≤ 9223372036854775807
def Ac.cells (a : Ac) (kv : Value) : Array Value := #[.int .i64 a.kind, .int .i64 a.at_, .int .u8 a.fill, .int .i64 a.size, kv]
def dataS (x : Int) (n : Nat) : ByteArray := strOfNums (List.replicate n x)
def Ac.data (a : Ac) : ByteArray := dataS a.fill (min a.size.toNat 200)
theorem strOfNums_snoc (l : List Int) (x : Int) : strOfNums l ++ strOfNums [x] = strOfNums (l ++ [x]) := by
  unfold strOfNums; simp; rfl
theorem dataS_succ (x : Int) (n : Nat) : dataS x n ++ strOfNums [x] = dataS x (n + 1) := by
  unfold dataS; rw [strOfNums_snoc, List.replicate_succ']
theorem dataS_size (x : Int) (n : Nat) : (dataS x n).size = n := by
  unfold dataS strOfNums; show Array.size _ = n; simp
theorem conv1_at (W : World) (x : Int) : (convert 85 9 (.slice (some ⟨W.heap.size, 0, none⟩) 1 1)).run Tryd.prog (W.alloc (.cells #[.int .u8 x] 5)) = .ok (.string (strOfNums [x])) (W.alloc (.cells #[.int .u8 x] 5)) :=
  run_convert_bytes_arg (P := Tryd.prog) _ 85 5 Tryd.underlying85 Tryd.underlying5 W.heap.size 0 1 1 [x] rfl (fun i hi => by
    obtain rfl : i = 0 := by simp at hi; omega
    rw [World.cell?_alloc_new]; rfl) 9 Tryd.underlying9
theorem data_any (a : Ac) (kv : Value) (hkv : ∃ A n c, kv = .slice A n c) (h : a.ok) (w : World) : Calls Tryd.prog 44 #[.agg (a.cells kv)] w fun e w' => e = .returned (.string a.data) ∧ Below w.heap.size w w' := by
  obtain ⟨kind, at_, fill, size, keep⟩ := a
  obtain ⟨A, n, c, rfl⟩ := hkv
  obtain ⟨_, _, _, _, hf0, hf1, hs0, hs1⟩ := h
  simp only at hf0 hf1 hs0 hs1
  unfold Ac.cells Ac.data
  simp only
  obtain ⟨m, hm⟩ : ∃ m, min size.toNat 200 = m := ⟨_, rfl⟩
  rw [hm]
  have hm2 : m ≤ 200 := by omega
  obtain ⟨P, hP⟩ : ∃ P, strOfNums [fill] = P := ⟨_, rfl⟩
  have hPs : P.size = 1 := by rw [← hP]; exact dataS_size fill 1
  have HSu : Hid (∀ k, dataS fill k ++ P = dataS fill (k + 1)) := Lib.hid fun k => by rw [← hP]; exact dataS_succ fill k
  have HC : Hid (∀ W : World, (convert 85 9 (.slice (some ⟨W.heap.size, 0, none⟩) 1 1)).run Tryd.prog (W.alloc (.cells #[.int .u8 fill] 5)) = .ok (.string P) (W.alloc (.cells #[.int .u8 fill] 5))) := Lib.hid fun W => by rw [← hP]; exact conv1_at W fill
  have HM := Lib.hid hm
  have HPs := Lib.hid hPs
  clear hm hP hPs
  go_enter Tryd.func44, Tryd.ntmps44
  go_wp2
  go_loopw [3, 4] (fun v i W => ∃ k : Nat, k ≤ m ∧ i = .int .i64 k ∧ v = .string (dataS fill k) ∧ Hid (W.heap[w.heap.size]? = some (.cells #[.int .i64 kind, .int .i64 at_, .int .u8 fill, .int .i64 size, .slice A n c] 65 (0, 0)) ∧ Below w.heap.size w W)) (fun _ i _ => m - (intOf i).toNat)
  case atStart => exact ⟨0, by omega, rfl, rfl, Lib.hid ⟨World.alloc_heap_new w _, below_new _ _⟩⟩
  case round =>
    obtain ⟨k, hk, rfl, rfl, HI⟩ := hrel
    have c3 : wr.cell? ⟨w.heap.size, 3, none⟩ = some (.int .i64 size) := by unfold World.cell?; rw [HI.out.1]; rfl
    have c2 : wr.cell? ⟨w.heap.size, 2, none⟩ = some (.int .u8 fill) := by unfold World.cell?; rw [HI.out.1]; rfl
    by_cases hlt : k < m
    · have h1 : (k : Int) < size := by have := HM.out; omega
      have h2 : (k : Int) < 200 := by omega
      obtain ⟨D, hD⟩ : ∃ D, dataS fill k = D := ⟨_, rfl⟩
      have hDs : D.size = k := by rw [← hD]; exact dataS_size _ _
      have hcc : ¬ 9223372036854775807 < D.size + P.size := by have := HPs.out; omega
      have hcv := HC.out wr
      rw [hD]
      clear hDs
      have HSz : wr.heap.size ≥ w.heap.size := HI.out.2.size
      go_wp2
      go_roundw
      case measure => simp [intOf]; omega
      case rel => exact ⟨k + 1, by omega, by go_num, by rw [← HSu.out, hD], Lib.hid ⟨((below_new wr _).block _ (Array.getElem?_eq_some_iff.1 HI.out.1).1).trans HI.out.1, HI.out.2.alloc HSz _⟩⟩
    · obtain rfl : k = m := by omega
      rcases (show size ≤ (k : Int) ∨ ((k : Int) < size ∧ 200 ≤ (k : Int)) by have := HM.out; omega) with h1 | ⟨h1, h2⟩
      all_goals
        go_wp2
        go_ret
        exact ⟨rfl, HI.out.2⟩
theorem info_u8 : (Tryd.prog.info? 5).map (fun i => (i.zero, i.size, i.bytes)) = some (some (.int .u8 0), 1, 1) := by kernel_rfl
theorem blank_conv (w w1 : World) (h : w1.ownsRow w.heap.size 5 1 (.slice (some ⟨w.heap.size, 0, none⟩) 128 128) 128 (madeCells (Value.int .u8 0).cells (128 * 1)).toList) :
    (convert 85 9 (.slice (some ⟨w.heap.size, 0, none⟩) 128 128)).run Tryd.prog w1 = .ok (.string blankB) w1 := by
  have h2 := run_convert_bytes_arg (P := Tryd.prog) w1 85 5 Tryd.underlying85 Tryd.underlying5 w.heap.size 0 128 128 (List.replicate 128 0) (by simp) (fun i hi => by
    have hi2 : i < 128 := by simpa using hi
    rw [Nat.zero_add, World.ownsRow.cellAt h i (by omega)]
    rw [show (Value.int IntKind.u8 0).cells = #[.int .u8 0] from rfl, toList_madeCells_one, List.getElem?_replicate, if_pos (by omega)]
    rw [List.getD_eq_getElem?_getD, List.getElem?_replicate, if_pos (by omega)]; rfl) 9 Tryd.underlying9
  rw [h2]
  rfl
theorem blank_any (w : World) : Calls Tryd.prog 23 #[] w fun e w' => e = .returned (.string blankB) ∧ Below w.heap.size w w' := by
  obtain ⟨i0, hi, hz0, hz1, hz2⟩ := info_parts info_u8
  have HI := Lib.hid hi
  clear hi
  go_enter Tryd.func23, Tryd.ntmps23
  go_wp2_with (at_make; refine wpList_make_full _ rfl _ _ 85 rfl w.heap.size 5 i0 (.int .u8 0) 1 Tryd.underlying85 HI.out hz0 hz1 .i64 .i64 _ _ 128 rfl rfl rfl rfl (by rw [hz2]; omega) (by unfold maxLen; omega) (Nat.le_refl _) ?_; intro w1 hown1 hgrow1; have hcv := blank_conv w w1 hown1; have HB : Hid (Below w.heap.size w w1) := Lib.hid (grown_below (v := .slice none 0 0) (Below.refl _ _) hgrow1 (by simp [Value.ownBlock])); clear hown1 hgrow1)
  go_ret
  exact ⟨rfl, HB.out⟩
theorem same_any (v1 v2 : Value) (l1 l2 : List ByteArray) (w : World) (h1 : Sl Value.string w v1 l1) (h2 : Sl Value.string w v2 l2) (hl1 : l1.length ≤ 1000000) (hl2 : l2.length ≤ 1000000) :
    Calls Tryd.prog 17 #[v1, v2] w fun e w' => e = .returned (.bool (decide (l1 = l2))) ∧ Below w.heap.size w w' := by
  obtain ⟨A1, c1, rfl, _, hr1⟩ := h1
  obtain ⟨A2, c2, rfl, _, hr2⟩ := h2
  have HR1 := Lib.hid hr1; clear hr1
  have HR2 := Lib.hid hr2; clear hr2
  have hI1 : (l1.length : Int) ≤ 1000000 := by omega
  by_cases hne : l1.length = l2.length
  · have hneI : (l1.length : Int) = (l2.length : Int) := by omega
    have HN := Lib.hid hne
    go_enter Tryd.func17, Tryd.ntmps17
    go_wp2
    go_loopw [5] (fun i W => ∃ k : Nat, k ≤ l1.length ∧ i = .int .i64 k ∧ Hid (l1.take k = l2.take k ∧ Below w.heap.size w W)) (fun i _ => l1.length - (intOf i).toNat)
    case atStart => exact ⟨0, by omega, rfl, Lib.hid ⟨rfl, Below.refl _ _⟩⟩
    case round =>
      obtain ⟨k, hk, rfl, HI⟩ := hrel
      by_cases hlt : k < l1.length
      · have hlt2 : k < l2.length := by have := HN.out; omega
        obtain ⟨a1, rfl, q1⟩ := HR1.out k hlt
        obtain ⟨a2, rfl, q2⟩ := HR2.out k hlt2
        have p1 := cell_below HI.out.2 q1
        have p2 := cell_below HI.out.2 q2
        clear q1 q2
        have HT : Hid (l1[k] = l2[k] → l1.take (k + 1) = l2.take (k + 1)) := Lib.hid fun e => by rw [take_succ' _ _ hlt, take_succ' _ _ hlt2, HI.out.1, e]
        have HD : Hid (l1[k] ≠ l2[k] → decide (l1 = l2) = false) := Lib.hid fun e => decide_eq_false fun e2 => e (by subst e2; rfl)
        generalize l1[k] = s1 at *
        generalize l2[k] = s2 at *
        by_cases he : s1 = s2
        · have hs := str_eq he
          have HT2 := Lib.hid (HT.out he)
          go_wp2
          go_quiet (fail)
          go_wp2
          go_roundw
          case measure => simp [intOf]; omega
          case rel => exact ⟨k + 1, by omega, by go_num, Lib.hid ⟨HT2.out, below_drewN HI.out.2 _⟩⟩
        · have hs := str_ne he
          have HD2 := Lib.hid (HD.out he)
          go_wp2
          go_quiet (fail)
          go_wp2
          go_ret
          exact ⟨by rw [HD2.out]; rfl, below_drewN HI.out.2 _⟩
      · obtain rfl : k = l1.length := by omega
        have HE : Hid (decide (l1 = l2) = true) := Lib.hid (decide_eq_true (by
          have := HI.out.1
          rw [List.take_length] at this
          rw [this, HN.out, List.take_length]))
        go_wp2
        go_ret
        exact ⟨by rw [HE.out]; rfl, HI.out.2⟩
  · have hneI : ((l1.length : Int) != (l2.length : Int)) = true := by simp; omega
    have hneJ : ¬ (l1.length = l2.length) := hne
    have HE : Hid (decide (l1 = l2) = false) := Lib.hid (decide_eq_false fun e => hne (by rw [e]))
    rw [HE.out]
    go_enter Tryd.func17, Tryd.ntmps17
    go_wp2
    go_ret
    exact ⟨rfl, Below.refl _ _⟩
end Go.Proofs.YtoojdknfommpbaaDoor
