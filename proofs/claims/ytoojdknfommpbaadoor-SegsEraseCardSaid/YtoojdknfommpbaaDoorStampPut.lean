/- The walks of stamp.put and draymanref06.high: a number laid into octets; the array of the call's own. -/
import Derived.Test.YtoojdknfommpbaaDoorStampWalk
import Derived.Lib.BufferWrite
namespace Go.Proofs.YtoojdknfommpbaaDoor
open Go.RowKit
set_option maxRecDepth 10000

/-- Block B is an array of octets that holds l. -/
def Arr (w : World) (B : Nat) (l : List UInt8) : Prop := w.heap[B]? = some (.cells (Lib.byteCells l).toArray 83 (0, 0))
theorem Arr.below {w w1 : World} {B : Nat} {l : List UInt8} (h : Arr w B l) (hb : Below w.heap.size w w1) : Arr w1 B l :=
  (hb.block B (Array.getElem?_eq_some_iff.1 h).1).trans h
theorem Arr.cell {w : World} {B : Nat} {l : List UInt8} (h : Arr w B l) (i : Nat) (hi : i < l.length) : w.cell? ⟨B, i, none⟩ = some (.int .u8 (l[i].toNat : Int)) := by
  unfold Arr at h; unfold World.cell?; rw [h]; simp [Lib.byteCells, hi]
theorem Arr.free {w : World} {B : Nat} {l : List UInt8} (h : Arr w B l) (i : Nat) : w.frozen? ⟨B, i, none⟩ = false := by
  unfold Arr at h; unfold World.frozen?; rw [h]; simp
theorem Arr.set {w : World} {B : Nat} {l : List UInt8} (h : Arr w B l) (i : Nat) (b : UInt8) : Arr (w.setCell ⟨B, i, none⟩ (.int .u8 (b.toNat : Int))) B (l.set i b) := by
  unfold Arr at *
  have := Lib.heap_setCell_same (i := i) h (.int .u8 (b.toNat : Int))
  rw [this]
  congr 2
  simp [Lib.byteCells, List.map_set]
theorem put_step (l R : List UInt8) (off j k : Nat) (h : off + j < l.length) (b : UInt8) :
    (l.take (off + (j + 1)) ++ R ++ l.drop (off + k)).set (off + j) b = l.take (off + j) ++ (b :: R) ++ l.drop (off + k) := by
  rw [List.append_assoc, ← Nat.add_assoc, List.take_succ_eq_append_getElem h, List.append_assoc, List.set_append_right _ _ (by rw [List.length_take]; omega)]
  rw [List.length_take, Nat.min_eq_left (by omega), Nat.sub_self]
  simp
/-- A part of a list laid anew. -/
def layB (l : List UInt8) (off : Nat) (p : List UInt8) : List UInt8 := l.take off ++ p ++ l.drop (off + p.length)
theorem layB_length (l : List UInt8) (off : Nat) (p : List UInt8) (h : off + p.length ≤ l.length) : (layB l off p).length = l.length := by
  unfold layB; simp; omega
theorem put_any (w0 w : World) (B off k c n : Nat) (l : List UInt8) (hA : Arr w B l) (hB : w0.heap.size ≤ B) (hb : Below w0.heap.size w0 w) (hk : off + k ≤ l.length) (hl : l.length = 128) (hn : n < 9223372036854775808) (_ : k ≤ c) :
    Calls Tryd.prog 57 #[.slice (some ⟨B, off, none⟩) k c, .int .i64 (n : Int)] w fun e w' => e = .returned (.tuple #[]) ∧ Arr w' B (layB l off (beB k n)) ∧ Below w0.heap.size w0 w' := by
  obtain ⟨a, ha⟩ : ∃ a : Addr, (⟨B, off, none⟩ : Addr) = a := ⟨_, rfl⟩
  have HAdd : Hid (∀ j, a.add j = ⟨B, off + j, none⟩) := Lib.hid fun j => by rw [← ha]; unfold Addr.add; split <;> simp_all
  rw [ha]
  clear ha
  have HA := Lib.hid hA; clear hA
  have hkI : (k : Int) ≤ 128 := by omega
  have hnI : (n : Int) < 9223372036854775808 := by omega
  have HL := Lib.hid hl
  go_enter Tryd.func57, Tryd.ntmps57
  go_wp2
  go_loopw [1, 4] (fun v i W => ∃ j : Nat, j ≤ k ∧ i = .int .i64 ((j : Int) - 1) ∧ ∃ m : Nat, (m : Int) < 9223372036854775808 ∧ v = .int .i64 m ∧ ∃ R, Hid (beB k n = beB j m ++ R ∧ Arr W B (l.take (off + j) ++ R ++ l.drop (off + k)) ∧ Below w0.heap.size w0 W)) (fun _ i _ => (intOf i + 1).toNat)
  case atStart => exact ⟨k, by omega, rfl, n, hnI, rfl, [], Lib.hid ⟨by simp, by simpa using HA.out, hb⟩⟩
  case round =>
    obtain ⟨j, hj, rfl, m, hm, rfl, R, HR⟩ := hrel
    rcases j with _ | j
    · go_wp2
      go_end0
      refine ⟨rfl, ?_, HR.out.2.2⟩
      have h1 := HR.out.1
      simp only [beB, List.nil_append] at h1
      unfold layB
      rw [beB_length, h1]
      exact HR.out.2.1
    · have hjj : off + j < l.length := by omega
      obtain ⟨bb, hbb⟩ : ∃ bb : UInt8, bb = UInt8.ofNat m := ⟨_, rfl⟩
      have hj2 : ((j + 1 : Nat) : Int) - 1 = (j : Int) := by omega
      rw [hj2]
      have hS := HR.out.2.1.set (off + j) bb
      rw [put_step l R off j k hjj bb] at hS
      have hCell : ∃ u, wr.cell? (a.add j) = some u := ⟨_, by rw [HAdd.out]; exact HR.out.2.1.cell (off + j) (by simp; omega)⟩
      obtain ⟨u, hcell⟩ := hCell
      have hfz : wr.frozen? (a.add j) = false := by rw [HAdd.out]; exact HR.out.2.1.free _
      rw [← HAdd.out] at hS
      have hbv : (bb.toNat : Int) = (m : Int) % 256 := by rw [hbb, UInt8.toNat_ofNat']; omega
      rw [hbv] at hS
      have HS := Lib.hid hS
      have HBB := Lib.hid hbb
      clear hS hbb hbv hj2
      go_wp2
      go_roundw
      case measure => simp [intOf]
      case rel => exact ⟨j, by omega, by go_num, m / 256, by omega, by go_num, bb :: R, Lib.hid ⟨by rw [HR.out.1, beB, HBB.out]; simp, HS.out, HR.out.2.2.setCell (by rw [HAdd.out]; exact hB) _⟩⟩
/-- Octets as a string. -/
def mkS (r : List UInt8) : ByteArray := ⟨r.toArray⟩
theorem bl_mkS (r : List UInt8) : bl (mkS r) = r := by unfold bl mkS; simp
theorem mkS_bl (s : ByteArray) : mkS (bl s) = s := by cases s; unfold bl mkS; simp
theorem mkS_size (r : List UInt8) : (mkS r).size = r.length := by rw [← bl_length, bl_mkS]
theorem bl_inj {a b : ByteArray} (h : bl a = bl b) : a = b := by rw [← mkS_bl a, h, mkS_bl]
theorem bl_append (a b : ByteArray) : bl (a ++ b) = bl a ++ bl b := by unfold bl; simp
theorem mkS_append (a b : List UInt8) : mkS a ++ mkS b = mkS (a ++ b) := bl_inj (by rw [bl_append, bl_mkS, bl_mkS, bl_mkS])
theorem mkS_extract (r : List UInt8) (a b : Nat) : (mkS r).extract a b = mkS ((r.take b).drop a) := bl_inj (by rw [bl_extract, bl_mkS, bl_mkS])
theorem mkS_one (x : Int) (b : UInt8) (h : x = (b.toNat : Int)) : strOfNums [x] = mkS [b] := by
  subst h; unfold strOfNums mkS; simp
theorem beB_cons (k n : Nat) : beB (k + 1) n = UInt8.ofNat (n / 256 ^ k) :: beB k n := by
  induction k generalizing n with
  | zero => simp [beB]
  | succ k ih =>
    rw [beB, ih, beB]
    simp only [List.cons_append, List.cons.injEq, and_true]
    rw [Nat.div_div_eq_div_mul, Nat.pow_succ, Nat.mul_comm 256]
theorem and255_64 (n : Int) (h0 : 0 ≤ n) (h1 : n < 9223372036854775808) : bits .and .i64 n 255 = n % 256 :=
  bits_mask .i64 63 (by decide) (fun n h0 h1 => by rw [IntKind.wrap_i64]; omega) 8 (by decide) n h0 (by omega)
theorem pow8 (j : Nat) (h : j ≤ 5) : (2 : Int) ^ (8 * j) = ((256 ^ j : Nat) : Int) := by
  rcases (show j = 0 ∨ j = 1 ∨ j = 2 ∨ j = 3 ∨ j = 4 ∨ j = 5 by omega) with rfl | rfl | rfl | rfl | rfl | rfl <;> decide
theorem high_any (n k : Nat) (w : World) (hn : n < 9223372036854775808) (hk : k ≤ 6) :
    Calls Tryd.prog 61 #[.int .i64 (n : Int), .int .i64 (k : Int)] w fun e w' => e = .returned (.string (mkS (beB k n))) ∧ Below w.heap.size w w' := by
  have hnI : (n : Int) < 9223372036854775808 := by omega
  have hkI : (k : Int) ≤ 6 := by omega
  go_enter Tryd.func61, Tryd.ntmps61
  go_wp2
  go_loopw [5, 6] (fun v i W => ∃ j : Nat, j ≤ k ∧ i = .int .i64 j ∧ v = .string (mkS (beB j n)) ∧ Hid (Below w.heap.size w W)) (fun _ i _ => k - (intOf i).toNat)
  case atStart => exact ⟨0, by omega, rfl, rfl, Lib.hid (Below.refl _ _)⟩
  case round =>
    obtain ⟨j, hj, rfl, rfl, HB⟩ := hrel
    by_cases hlt : j < k
    · have hs : (mkS (beB j n)).size = j := by rw [mkS_size, beB_length]
      have HE := Lib.hid (beB_cons j n)
      obtain ⟨s, hss⟩ : ∃ s, mkS (beB j n) = s := ⟨_, rfl⟩
      rw [hss] at hs
      have HSs := Lib.hid hss
      rw [hss]
      clear hss
      obtain ⟨b, hb⟩ : ∃ b, UInt8.ofNat (n / 256 ^ j) = b := ⟨_, rfl⟩
      rw [hb] at HE
      have hsh : bits .and .i64 ((n : Int) / 2 ^ (8 * j)) 255 = (b.toNat : Int) := by
        rw [and255_64 _ (Int.ediv_nonneg (by omega) (Int.le_of_lt (Int.pow_pos (by decide)))) (Int.lt_of_le_of_lt (Int.ediv_le_self _ (by omega)) hnI), ← hb, UInt8.toNat_ofNat', pow8 j (by omega)]; omega
      obtain ⟨x, hx⟩ : ∃ x, (b.toNat : Int) = x := ⟨_, rfl⟩
      have hx0 : 0 ≤ x := by omega
      have hx1 : x < 256 := by have := b.toNat_lt; omega
      have HP := Lib.hid (mkS_one x b hx.symm)
      rw [hx] at hsh
      clear hx hb
      generalize hS : strOfNums [x] = P at HP
      have HC : Hid ((convert 85 9 (.slice (some ⟨wr.heap.size, 0, none⟩) 1 1)).run Tryd.prog (wr.alloc (.cells #[.int .u8 x] 5)) = .ok (.string P) (wr.alloc (.cells #[.int .u8 x] 5))) := Lib.hid (by rw [← hS]; exact conv1 wr _ x)
      have hPs : P.size = 1 := by rw [HP.out, mkS_size]; rfl
      have hcc : ¬ 9223372036854775807 < P.size + s.size := by omega
      have hcv := HC.out
      clear hS hs
      go_wp2
      go_roundw
      case measure => simp [intOf]; omega
      case rel => exact ⟨j + 1, by omega, by go_num, by rw [HE.out, ← HSs.out, HP.out, mkS_append]; rfl, Lib.hid (below_alloc HB.out _)⟩
    · obtain rfl : j = k := by omega
      go_wp2
      go_ret
      exact ⟨rfl, HB.out⟩
end Go.Proofs.YtoojdknfommpbaaDoor
