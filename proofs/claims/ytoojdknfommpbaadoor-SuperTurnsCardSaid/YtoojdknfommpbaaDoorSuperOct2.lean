/- The walk of super.octets. -/
import Derived.Test.YtoojdknfommpbaaDoorSuperOct
namespace Go.Proofs.YtoojdknfommpbaaDoor
open Go.RowKit
set_option maxRecDepth 10000

/-- Block B is a row of octets. -/
def ArrU (w : World) (B : Nat) (l : List UInt8) : Prop := w.heap[B]? = some (.cells (Lib.byteCells l).toArray 5 (0, 0))
theorem ArrU.cell {w : World} {B : Nat} {l : List UInt8} (h : ArrU w B l) (i : Nat) (hi : i < l.length) : w.cell? ⟨B, i, none⟩ = some (.int .u8 (l[i].toNat : Int)) := by
  unfold ArrU at h; unfold World.cell?; rw [h]; simp [Lib.byteCells, hi]
theorem ArrU.free {w : World} {B : Nat} {l : List UInt8} (h : ArrU w B l) (i : Nat) : w.frozen? ⟨B, i, none⟩ = false := by
  unfold ArrU at h; unfold World.frozen?; rw [h]; simp
theorem ArrU.set {w : World} {B : Nat} {l : List UInt8} (h : ArrU w B l) (i : Nat) (b : UInt8) : ArrU (w.setCell ⟨B, i, none⟩ (.int .u8 (b.toNat : Int))) B (l.set i b) := by
  unfold ArrU at *
  have := Lib.heap_setCell_same (i := i) h (.int .u8 (b.toNat : Int))
  rw [this]
  congr 2
  simp [Lib.byteCells, List.map_set]
theorem arrU_conv {W : World} {B : Nat} {l : List UInt8} (h : ArrU W B l) :
    (convert 85 9 (.slice (some ⟨B, 0, none⟩) l.length l.length)).run Tryd.prog W = .ok (.string (mkS l)) W := by
  exact run_convert_bytes_back (P := Tryd.prog) W 85 9 5 ⟨B, 0, none⟩ l.length l Tryd.underlying85 Tryd.underlying5 Tryd.underlying9 (fun j hj => by
    have ha : (⟨B, 0, none⟩ : Addr).add j = ⟨B, j, none⟩ := by unfold Addr.add; split <;> simp_all
    rw [ha, h.cell j hj])
theorem arrU_made {w w1 : World} {n : Nat} (h : w1.ownsRow w.heap.size 5 1 (.slice (some ⟨w.heap.size, 0, none⟩) n n) n (madeCells (Value.int .u8 0).cells (n * 1)).toList) : ArrU w1 w.heap.size (zer n) := by
  obtain ⟨_, h2⟩ := h
  rcases h2 with ⟨he, _⟩ | ⟨g, cap, cur, hv, _, hh, _, _, hs, ht⟩
  · cases he
  · simp only [Value.slice.injEq, Option.some.injEq, Addr.mk.injEq] at hv
    obtain ⟨⟨rfl, _⟩, _, rfl⟩ := hv
    unfold ArrU
    rw [hh]
    congr 2
    apply Array.toList_inj.1
    rw [List.toList_toArray]
    rw [show (Value.int IntKind.u8 0).cells = #[.int .u8 0] from rfl, toList_madeCells_one] at ht
    rw [List.take_of_length_le (by rw [Array.length_toList, hs]; exact Nat.le_refl _)] at ht
    rw [ht]
    unfold Lib.byteCells zer
    simp
theorem set_zer (D : List UInt8) (m : Nat) (b : UInt8) : (D ++ zer (m + 1)).set D.length b = (D ++ [b]) ++ zer m := by
  unfold zer
  rw [List.replicate_succ, List.set_append_right _ _ (Nat.le_refl _)]
  simp
theorem oct_any (v : Value) (l : List Int) (w : World) (hs : Sl (Value.int .i64) w v l) (hl : l.length ≤ 63) (hf : ∀ x ∈ l, 0 ≤ x ∧ x < 63) :
    Calls Tryd.prog 69 #[v] w fun e w' => e = .returned (.string (mkS (octs l))) ∧ Below w.heap.size w w' := by
  obtain ⟨A, c, rfl, _, hread⟩ := hs
  have HR := Lib.hid hread; clear hread
  have HF := Lib.hid hf; clear hf
  obtain ⟨n, hn⟩ : ∃ n, l.length = n := ⟨_, rfl⟩
  have HN := Lib.hid hn
  rw [hn] at hl ⊢
  have hlI : (n : Int) ≤ 63 := by omega
  obtain ⟨i0, hi, hz0, hz1, hz2⟩ := info_parts info_u8
  have HI := Lib.hid hi
  clear hi hn
  go_enter Tryd.func69, Tryd.ntmps69
  go_wp2_with (at_make; refine wpList_make_full _ rfl _ _ 85 rfl w.heap.size 5 i0 (.int .u8 0) 1 Tryd.underlying85 HI.out hz0 hz1 .i64 .i64 _ _ n rfl rfl rfl rfl (by rw [hz2]; omega) (by unfold maxLen; omega) (Nat.le_refl _) ?_; intro w1 hown1 hgrow1; have HU : Hid (ArrU w1 w.heap.size (zer n) ∧ Below w.heap.size w w1) := Lib.hid ⟨arrU_made hown1, grown_below (v := .slice none 0 0) (Below.refl _ _) hgrow1 (by simp [Value.ownBlock])⟩; clear hown1 hgrow1)
  go_loopw [11] (fun i W => ∃ k : Nat, k ≤ n ∧ i = .int .i64 k ∧ Hid (ArrU W w.heap.size (octs (l.take k) ++ zer (n - k)) ∧ Below w.heap.size w W)) (fun i _ => n - (intOf i).toNat)
  case atStart => exact ⟨0, by omega, rfl, Lib.hid ⟨by simpa [octs] using HU.out.1, HU.out.2⟩⟩
  case round =>
    obtain ⟨k, hk, rfl, HB⟩ := hrel
    by_cases hlt : k < n
    · have hlt' : k < l.length := by rw [HN.out]; exact hlt
      obtain ⟨a, rfl, q0⟩ := HR.out k hlt'
      have q := cell_below HB.out.2 q0
      clear q0
      have hT := octs_snoc l k hlt'
      obtain ⟨f0, f1⟩ := HF.out l[k] (List.getElem_mem hlt')
      obtain ⟨m, hm⟩ : ∃ m : Nat, l[k] = m := ⟨l[k].toNat, by omega⟩
      rw [hm] at q hT f1
      have hmI : (m : Int) < 63 := f1
      obtain ⟨bb, hbb⟩ : ∃ bb : UInt8, UInt8.ofNat ((m : Int) % 256).toNat = bb := ⟨_, rfl⟩
      have hbv : (bb.toNat : Int) = (m : Int) := by rw [← hbb, UInt8.toNat_ofNat']; omega
      rw [hbb] at hT
      have hS := HB.out.1.set k bb
      have hlo : (octs (l.take k)).length = k := by rw [octs_length, List.length_take]; omega
      have hst := set_zer (octs (l.take k)) (n - (k + 1)) bb
      rw [hlo, show n - (k + 1) + 1 = n - k by omega] at hst
      rw [hst, ← hT, hbv] at hS
      have HS := Lib.hid hS
      have hll : (octs (l.take k) ++ zer (n - k)).length = n := by rw [List.length_append, hlo, zer_length]; omega
      obtain ⟨u, hcell⟩ : ∃ u, wr.cell? ⟨w.heap.size, k, none⟩ = some u := ⟨_, HB.out.1.cell k (by omega)⟩
      have hfz := HB.out.1.free k
      have hkI : (k : Int) < (n : Int) := by omega
      clear hT f0 f1 hm hbb hbv hS hlo hst
      go_wp2
      go_roundw
      case measure => simp [intOf]; omega
      case rel => exact ⟨k + 1, by omega, by go_num, Lib.hid ⟨HS.out, HB.out.2.setCell (Nat.le_refl _) _⟩⟩
    · obtain rfl : k = n := by omega
      have hU := HB.out.1
      rw [show l.take k = l by rw [← HN.out, List.take_length], Nat.sub_self, show zer 0 = [] from rfl, List.append_nil] at hU
      have hcv := arrU_conv hU
      rw [octs_length, HN.out] at hcv
      clear hU
      go_wp2
      go_ret
      exact ⟨rfl, HB.out.2⟩
end Go.Proofs.YtoojdknfommpbaaDoor
