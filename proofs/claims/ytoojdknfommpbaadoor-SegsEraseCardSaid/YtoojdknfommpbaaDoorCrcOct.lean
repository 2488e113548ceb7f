/- The walks of crc's and draymanref04's Octets; small laws. (XCrcWalk2 without Read, for seats that do not reach it.) -/
import Derived.Test.YtoojdknfommpbaaDoorCrcWalk
import Derived.Laws.BytesArg
namespace Go.Proofs.YtoojdknfommpbaaDoor
open Go.RowKit
set_option maxRecDepth 10000

/-- Four octets as a number, the highest first. -/
def rdI (l : List UInt8) : Int := l.foldl (fun n b => n * 256 + (b.toNat : Int)) 0
theorem rdI_snoc (l : List UInt8) (b : UInt8) : rdI (l ++ [b]) = rdI l * 256 + (b.toNat : Int) := by
  unfold rdI; rw [List.foldl_append]; rfl
theorem rdI_nonneg (l : List UInt8) : 0 ≤ rdI l := by
  rw [← List.reverse_reverse l]
  generalize l.reverse = m
  induction m with
  | nil => exact Int.le_refl _
  | cons b m ih => rw [List.reverse_cons, rdI_snoc]; omega
theorem rdI_lt (l : List UInt8) : rdI l < 256 ^ l.length := by
  rw [← List.reverse_reverse l]
  generalize l.reverse = m
  induction m with
  | nil => decide
  | cons b m ih =>
    have hb := b.toNat_lt
    rw [List.reverse_cons, rdI_snoc, List.length_append, List.length_singleton, Int.pow_succ]
    omega
def rdE (s : ByteArray) : Int := if s.size < 4 then 8 else if 4 < s.size then 9 else 0
def rdN (s : ByteArray) : Int := if s.size = 4 then rdI (bl s) else 0

theorem wraps_u32 (n : Int) (h₀ : 0 ≤ n) (h₁ : n < 2 ^ 32) : IntKind.u32.wrap n = n := by rw [IntKind.wrap_u32]; omega
theorem or_join (n b : Int) (h0 : 0 ≤ n) (h1 : n < 16777216) (hb0 : 0 ≤ b) (hb1 : b < 256) : bits .or .u32 (n * 256) (b % 4294967296) = n * 256 + b := by
  rw [show b % 4294967296 = b by omega]
  exact bits_join .u32 32 (by decide) wraps_u32 8 (n * 256) b (by omega) (by omega) (by omega) hb0 (by omega) (by omega)
theorem rdI_take (s : ByteArray) (k : Nat) (hk : k < s.size) : rdI ((bl s).take (k + 1)) = rdI ((bl s).take k) * 256 + (s[k].toNat : Int) := by
  unfold bl; rw [take_snoc_b s k hk, rdI_snoc]
theorem rdI_take_lt (s : ByteArray) (k : Nat) (hk : k < 4) (hs : k < s.size) : rdI ((bl s).take k) < 16777216 := by
  have hl : ((bl s).take k).length = k := by rw [List.length_take, bl_length]; omega
  have := rdI_lt ((bl s).take k)
  rw [hl] at this
  have h3 : (256 : Int) ^ k ≤ 256 ^ 3 := by rcases (show k = 0 ∨ k = 1 ∨ k = 2 ∨ k = 3 by omega) with rfl | rfl | rfl | rfl <;> decide
  omega

theorem conv4 (w : World) (T : TypeId) (a b c d : Int) : (convert 85 9 (.slice (some ⟨w.heap.size, 0, none⟩) 4 4)).run Tryd.prog (w.alloc (.cells #[.int .u8 a, .int .u8 b, .int .u8 c, .int .u8 d] T)) = .ok (.string (strOfNums [a, b, c, d])) (w.alloc (.cells #[.int .u8 a, .int .u8 b, .int .u8 c, .int .u8 d] T)) :=
  run_convert_bytes_arg (P := Tryd.prog) _ 85 5 Tryd.underlying85 Tryd.underlying5 w.heap.size 0 4 4 [a, b, c, d] rfl (fun i hi => by
    rw [World.cell?_alloc_new]
    rcases (show i = 0 ∨ i = 1 ∨ i = 2 ∨ i = 3 by omega) with rfl | rfl | rfl | rfl <;> rfl) 9 Tryd.underlying9
theorem conv2 (w : World) (T : TypeId) (a b : Int) : (convert 85 9 (.slice (some ⟨w.heap.size, 0, none⟩) 2 2)).run Tryd.prog (w.alloc (.cells #[.int .u8 a, .int .u8 b] T)) = .ok (.string (strOfNums [a, b])) (w.alloc (.cells #[.int .u8 a, .int .u8 b] T)) :=
  run_convert_bytes_arg (P := Tryd.prog) _ 85 5 Tryd.underlying85 Tryd.underlying5 w.heap.size 0 2 2 [a, b] rfl (fun i hi => by
    rw [World.cell?_alloc_new]
    rcases (show i = 0 ∨ i = 1 by omega) with rfl | rfl <;> rfl) 9 Tryd.underlying9
theorem conv1 (w : World) (T : TypeId) (a : Int) : (convert 85 9 (.slice (some ⟨w.heap.size, 0, none⟩) 1 1)).run Tryd.prog (w.alloc (.cells #[.int .u8 a] T)) = .ok (.string (strOfNums [a])) (w.alloc (.cells #[.int .u8 a] T)) :=
  run_convert_bytes_arg (P := Tryd.prog) _ 85 5 Tryd.underlying85 Tryd.underlying5 w.heap.size 0 1 1 [a] rfl (fun i hi => by
    rw [World.cell?_alloc_new]
    rcases (show i = 0 by omega) with rfl; rfl) 9 Tryd.underlying9
theorem and255 (n : Int) (h0 : 0 ≤ n) (h1 : n < 4294967296) : bits .and .u32 n 255 = n % 256 := bits_mask .u32 32 (by decide) wraps_u32 8 (by decide) n h0 (by omega)

/-- The octets of a sum, as a string. -/
def octS (x : BitVec 32) : ByteArray := ⟨(octetsB x).toArray⟩
theorem bl_octS (x : BitVec 32) : bl (octS x) = octetsB x := rfl
theorem octS_of {x : BitVec 32} {s : ByteArray} (h : bl s = octetsB x) : s = octS x := by
  cases s with | mk d => unfold octS; rw [← h]; rfl
theorem octets_any (x : BitVec 32) (w : World) :
    Calls Tryd.prog 58 #[.int .u32 (W x)] w fun e w' => e = .returned (.string (octS x)) ∧ Below w.heap.size w w' := by
  have h0 : 0 ≤ W x := W_nonneg x
  have h1 : W x < 4294967296 := W_lt x
  generalize hn : W x = n at h0 h1 ⊢
  have HN := Lib.hid hn; clear hn
  go_enter Tryd.func58, Tryd.ntmps58
  go_wp2
  refine wp_loop_rounds 5 ?_
  rw [rounds_succ]
  go_wp2
  rw [rounds_succ]
  go_wp2
  rw [rounds_succ]
  go_wp2
  rw [rounds_succ]
  go_wp2
  rw [rounds_succ]
  clear h0 h1
  generalize ha : n / 256 / 256 / 256 = a
  have HA := Lib.hid ha; clear ha
  generalize hb : n / 256 / 256 % 256 = b
  have HB := Lib.hid hb; clear hb
  generalize hc : n / 256 % 256 = c
  have HC := Lib.hid hc; clear hc
  generalize hd : n % 256 = d
  have HD := Lib.hid hd; clear hd
  generalize a / 256 = a1
  have hcv := conv4 w 127
  go_wp2
  go_ret
  refine ⟨ret_str (octS_of ?_), (Below.refl _ _).alloc (Nat.le_refl _) _⟩
  show List.map _ _ = _
  have hx : n = (x.toNat : Int) := HN.out.symm
  simp only [List.map_cons, List.map_nil]
  unfold octetsB
  rw [← HA.out, ← HB.out, ← HC.out, ← HD.out, hx]
  have := x.isLt
  simp only [List.cons.injEq, and_true]
  refine ⟨?_, ?_, ?_, ?_⟩ <;> (apply UInt8.toNat_inj.1; rw [UInt8.toNat_ofNat', UInt8.toNat_ofNat']; omega)

theorem octets_ref (x : BitVec 32) (w : World) :
    Calls Tryd.prog 62 #[.int .u32 (W x)] w fun e w' => e = .returned (.string (octS x)) ∧ Below w.heap.size w w' := by
  have h0 : 0 ≤ W x := W_nonneg x
  have h1 : W x < 4294967296 := W_lt x
  generalize hn : W x = n at h0 h1 ⊢
  have HN := Lib.hid hn; clear hn
  go_enter Tryd.func62, Tryd.ntmps62
  have hcv := conv4 w 5
  go_wp2
  clear hcv
  go_ret
  refine ⟨ret_str (octS_of ?_), (Below.refl _ _).alloc (Nat.le_refl _) _⟩
  show List.map _ _ = _
  rw [and255 _ (by omega) (by omega), and255 _ (by omega) (by omega), and255 _ (by omega) (by omega)]
  have hx : n = (x.toNat : Int) := HN.out.symm
  simp only [List.map_cons, List.map_nil]
  unfold octetsB
  rw [hx]
  have := x.isLt
  simp only [List.cons.injEq, and_true]
  refine ⟨?_, ?_, ?_, ?_⟩ <;> (apply UInt8.toNat_inj.1; rw [UInt8.toNat_ofNat', UInt8.toNat_ofNat']; omega)
theorem octS_size (x : BitVec 32) : (octS x).size = 4 := rfl
/-- A contract that leaves the world, as a still region asks for it. -/
theorem same_of {f : FuncId} {args : Array Value} {w : World} {v : Value} (h : Calls Tryd.prog f args w fun e w' => e = .returned v ∧ w = w') :
    Calls Tryd.prog f args w fun e w' => e = .returned v ∧ w' = w := h.mono fun _ _ ⟨he, hw⟩ => ⟨he, hw.symm⟩
theorem bl_extract (s : ByteArray) (a b : Nat) : bl (s.extract a b) = ((bl s).take b).drop a := by
  unfold bl; simp [ByteArray.data_extract, List.drop_take]
theorem size_extract_to (s : ByteArray) (k : Nat) (h : k ≤ s.size) : (s.extract 0 k).size = k := by simp; omega
end Go.Proofs.YtoojdknfommpbaaDoor
