/- The walks of crc's and the document's Octets and Read: what they compute. -/
import Derived.Test.YtmmajdkngboecaaCrcWalk
import Derived.Laws.BytesArg
namespace Go.Proofs.Ytmmajdkngboecaa
open Go.RowKit
set_option maxRecDepth 10000

/-- Four octets as a number, the highest first. -/
def rdI (l : List UInt8) : Int := l.foldl (fun n b => n * 256 + (b.toNat : Int)) 0
theorem rdI_snoc (l : List UInt8) (b : UInt8) : rdI (l ++ [b]) = rdI l * 256 + (b.toNat : Int) := by
  unfold rdI; rw [List.foldl_append]; rfl
theorem rdI_nonneg (l : List UInt8) : 0 ≤ rdI l := by
  rw [← List.reverse_reverse l]
  generalize l.reverse = m
  induction m with
  | nil => exact Int.le_refl _
  | cons b m ih => rw [List.reverse_cons, rdI_snoc]; omega
theorem rdI_lt (l : List UInt8) : rdI l < 256 ^ l.length := by
  rw [← List.reverse_reverse l]
  generalize l.reverse = m
  induction m with
  | nil => decide
  | cons b m ih =>
    have hb := b.toNat_lt
    rw [List.reverse_cons, rdI_snoc, List.length_append, List.length_singleton, Int.pow_succ]
    omega
def rdE (s : ByteArray) : Int := if s.size < 4 then 8 else if 4 < s.size then 9 else 0
def rdN (s : ByteArray) : Int := if s.size = 4 then rdI (bl s) else 0

theorem wraps_u32 (n : Int) (h₀ : 0 ≤ n) (h₁ : n < 2 ^ 32) : IntKind.u32.wrap n = n := by rw [IntKind.wrap_u32]; omega
theorem or_join (n b : Int) (h0 : 0 ≤ n) (h1 : n < 16777216) (hb0 : 0 ≤ b) (hb1 : b < 256) : bits .or .u32 (n * 256) (b % 4294967296) = n * 256 + b := by
  rw [show b % 4294967296 = b by omega]
  exact bits_join .u32 32 (by decide) wraps_u32 8 (n * 256) b (by omega) (by omega) (by omega) hb0 (by omega) (by omega)
theorem rdI_take (s : ByteArray) (k : Nat) (hk : k < s.size) : rdI ((bl s).take (k + 1)) = rdI ((bl s).take k) * 256 + (s[k].toNat : Int) := by
  unfold bl; rw [take_snoc_b s k hk, rdI_snoc]
theorem rdI_take_lt (s : ByteArray) (k : Nat) (hk : k < 4) (hs : k < s.size) : rdI ((bl s).take k) < 16777216 := by
  have hl : ((bl s).take k).length = k := by rw [List.length_take, bl_length]; omega
  have := rdI_lt ((bl s).take k)
  rw [hl] at this
  have h3 : (256 : Int) ^ k ≤ 256 ^ 3 := by rcases (show k = 0 ∨ k = 1 ∨ k = 2 ∨ k = 3 by omega) with rfl | rfl | rfl | rfl <;> decide
  omega

theorem read_any (s : ByteArray) (w : World) (hs : s.size ≤ 140737488351232) :
    Calls Try.prog 17 #[.string s] w fun e w' => e = .returned (.tuple #[.int .u32 (rdN s), .int .i64 (rdE s)]) ∧ w = w' := by
  unfold rdN rdE
  rcases Nat.lt_trichotomy s.size 4 with h | h | h
  · rw [if_neg (by omega), if_pos h]
    go_enter Try.func17, Try.ntmps17
    go_wp2
    go_ret2
    exact ⟨rfl, rfl⟩
  · rw [if_pos h, if_neg (by omega), if_neg (by omega)]
    have h4 : (s.size : Int) ≤ 4 := by omega
    have h5 : 4 ≤ (s.size : Int) := by omega
    have HS := Lib.hid h; clear h hs
    go_enter Try.func17, Try.ntmps17
    go_wp2
    go_loop [4, 14] (fun t i => ∃ k : Nat, k ≤ 4 ∧ i = .int .i64 k ∧ ∃ n : Int, Hid (n = rdI ((bl s).take k)) ∧ t = .int .u32 n) (fun _ i => 4 - (intOf i).toNat)
    case atStart => exact ⟨0, by omega, rfl, _, Lib.hid rfl, rfl⟩
    case round =>
      obtain ⟨k, hk, rfl, n, HN, rfl⟩ := hrel
      by_cases hlt : k < 4
      · have hks : k < s.size := by omega
        have h0 : 0 ≤ n := by rw [HN.out]; exact rdI_nonneg _
        have h1 : n < 16777216 := by rw [HN.out]; exact rdI_take_lt s k hlt hks
        go_wp2_with fail
        go_round
        case rel => exact ⟨k + 1, by omega, by go_num, _, Lib.hid rfl, by rw [rdI_take s k hks, or_join n _ h0 h1 (Int.natCast_nonneg _) (by have := s[k].toNat_lt; omega), HN.out]⟩
        case measure => simp [intOf]; omega
      · obtain rfl : k = 4 := by omega
        go_wp2
        go_ret2
        exact ⟨ret_pair (by rw [HN.out, ← HS.out, bl_take_all]) rfl, rfl⟩
  · rw [if_neg (by omega), if_neg (by omega), if_pos h]
    go_enter Try.func17, Try.ntmps17
    go_wp2
    go_ret2
    exact ⟨rfl, rfl⟩

theorem read_ref (s : ByteArray) (w : World) (hs : s.size ≤ 140737488351232) :
    Calls Try.prog 18 #[.string s] w fun e w' => e = .returned (.tuple #[.int .u32 (rdN s), .int .i64 (rdE s)]) ∧ w = w' := by
  unfold rdN rdE
  rcases Nat.lt_trichotomy s.size 4 with h | h | h
  · rw [if_neg (by omega), if_pos h]
    go_enter Try.func18, Try.ntmps18
    go_wp2
    go_ret2
    exact ⟨rfl, rfl⟩
  · rw [if_pos h, if_neg (by omega), if_neg (by omega)]
    have h4 : (s.size : Int) ≤ 4 := by omega
    have h5 : 4 ≤ (s.size : Int) := by omega
    have HS := Lib.hid h; clear h hs
    go_enter Try.func18, Try.ntmps18
    go_wp2
    go_loop [4, 5] (fun t i => ∃ k : Nat, k ≤ 4 ∧ i = .int .i64 k ∧ ∃ n : Int, Hid (n = rdI ((bl s).take k)) ∧ t = .int .u32 n) (fun _ i => 4 - (intOf i).toNat)
    case atStart => exact ⟨0, by omega, rfl, _, Lib.hid rfl, rfl⟩
    case round =>
      obtain ⟨k, hk, rfl, n, HN, rfl⟩ := hrel
      by_cases hlt : k < 4
      · have hks : k < s.size := by omega
        have h0 : 0 ≤ n := by rw [HN.out]; exact rdI_nonneg _
        have h1 : n < 16777216 := by rw [HN.out]; exact rdI_take_lt s k hlt hks
        go_wp2_with fail
        go_round
        case rel => exact ⟨k + 1, by omega, by go_num, _, Lib.hid rfl, by rw [rdI_take s k hks, ← HN.out]; congr 1; have := s[k].toNat_lt; omega⟩
        case measure => simp [intOf]; omega
      · obtain rfl : k = 4 := by omega
        go_wp2
        go_ret2
        exact ⟨ret_pair (by rw [HN.out, ← HS.out, bl_take_all]) rfl, rfl⟩
  · rw [if_neg (by omega), if_neg (by omega), if_pos h]
    go_enter Try.func18, Try.ntmps18
    go_wp2
    go_ret2
    exact ⟨rfl, rfl⟩

theorem conv4 (w : World) (T : TypeId) (a b c d : Int) : (convert 33 9 (.slice (some ⟨w.heap.size, 0, none⟩) 4 4)).run Try.prog (w.alloc (.cells #[.int .u8 a, .int .u8 b, .int .u8 c, .int .u8 d] T)) = .ok (.string (strOfNums [a, b, c, d])) (w.alloc (.cells #[.int .u8 a, .int .u8 b, .int .u8 c, .int .u8 d] T)) :=
  run_convert_bytes_arg (P := Try.prog) _ 33 5 Try.underlying33 Try.underlying5 w.heap.size 0 4 4 [a, b, c, d] rfl (fun i hi => by
    rw [World.cell?_alloc_new]
    rcases (show i = 0 ∨ i = 1 ∨ i = 2 ∨ i = 3 by omega) with rfl | rfl | rfl | rfl <;> rfl) 9 Try.underlying9
theorem conv2 (w : World) (T : TypeId) (a b : Int) : (convert 33 9 (.slice (some ⟨w.heap.size, 0, none⟩) 2 2)).run Try.prog (w.alloc (.cells #[.int .u8 a, .int .u8 b] T)) = .ok (.string (strOfNums [a, b])) (w.alloc (.cells #[.int .u8 a, .int .u8 b] T)) :=
  run_convert_bytes_arg (P := Try.prog) _ 33 5 Try.underlying33 Try.underlying5 w.heap.size 0 2 2 [a, b] rfl (fun i hi => by
    rw [World.cell?_alloc_new]
    rcases (show i = 0 ∨ i = 1 by omega) with rfl | rfl <;> rfl) 9 Try.underlying9
theorem conv1 (w : World) (T : TypeId) (a : Int) : (convert 33 9 (.slice (some ⟨w.heap.size, 0, none⟩) 1 1)).run Try.prog (w.alloc (.cells #[.int .u8 a] T)) = .ok (.string (strOfNums [a])) (w.alloc (.cells #[.int .u8 a] T)) :=
  run_convert_bytes_arg (P := Try.prog) _ 33 5 Try.underlying33 Try.underlying5 w.heap.size 0 1 1 [a] rfl (fun i hi => by
    rw [World.cell?_alloc_new]
    rcases (show i = 0 by omega) with rfl; rfl) 9 Try.underlying9
theorem and255 (n : Int) (h0 : 0 ≤ n) (h1 : n < 4294967296) : bits .and .u32 n 255 = n % 256 := bits_mask .u32 32 (by decide) wraps_u32 8 (by decide) n h0 (by omega)

/-- The octets of a sum, as a string. -/
def octS (x : BitVec 32) : ByteArray := ⟨(octetsB x).toArray⟩
theorem bl_octS (x : BitVec 32) : bl (octS x) = octetsB x := rfl
theorem octS_of {x : BitVec 32} {s : ByteArray} (h : bl s = octetsB x) : s = octS x := by
  cases s with | mk d => unfold octS; rw [← h]; rfl
theorem octets_any (x : BitVec 32) (w : World) :
    Calls Try.prog 23 #[.int .u32 (W x)] w fun e w' => e = .returned (.string (octS x)) ∧ Below w.heap.size w w' := by
  have h0 : 0 ≤ W x := W_nonneg x
  have h1 : W x < 4294967296 := W_lt x
  generalize hn : W x = n at h0 h1 ⊢
  have HN := Lib.hid hn; clear hn
  go_enter Try.func23, Try.ntmps23
  go_wp2
  refine wp_loop_rounds 5 ?_
  rw [rounds_succ]
  go_wp2
  rw [rounds_succ]
  go_wp2
  rw [rounds_succ]
  go_wp2
  rw [rounds_succ]
  go_wp2
  rw [rounds_succ]
  clear h0 h1
  generalize ha : n / 256 / 256 / 256 = a
  have HA := Lib.hid ha; clear ha
  generalize hb : n / 256 / 256 % 256 = b
  have HB := Lib.hid hb; clear hb
  generalize hc : n / 256 % 256 = c
  have HC := Lib.hid hc; clear hc
  generalize hd : n % 256 = d
  have HD := Lib.hid hd; clear hd
  generalize a / 256 = a1
  have hcv := conv4 w 95
  go_wp2
  go_ret
  refine ⟨ret_str (octS_of ?_), (Below.refl _ _).alloc (Nat.le_refl _) _⟩
  show List.map _ _ = _
  have hx : n = (x.toNat : Int) := HN.out.symm
  simp only [List.map_cons, List.map_nil]
  unfold octetsB
  rw [← HA.out, ← HB.out, ← HC.out, ← HD.out, hx]
  have := x.isLt
  simp only [List.cons.injEq, and_true]
  refine ⟨?_, ?_, ?_, ?_⟩ <;> (apply UInt8.toNat_inj.1; rw [UInt8.toNat_ofNat', UInt8.toNat_ofNat']; omega)

theorem octets_ref (x : BitVec 32) (w : World) :
    Calls Try.prog 24 #[.int .u32 (W x)] w fun e w' => e = .returned (.string (octS x)) ∧ Below w.heap.size w w' := by
  have h0 : 0 ≤ W x := W_nonneg x
  have h1 : W x < 4294967296 := W_lt x
  generalize hn : W x = n at h0 h1 ⊢
  have HN := Lib.hid hn; clear hn
  go_enter Try.func24, Try.ntmps24
  have hcv := conv4 w 5
  go_wp2
  clear hcv
  go_ret
  refine ⟨ret_str (octS_of ?_), (Below.refl _ _).alloc (Nat.le_refl _) _⟩
  show List.map _ _ = _
  rw [and255 _ (by omega) (by omega), and255 _ (by omega) (by omega), and255 _ (by omega) (by omega)]
  have hx : n = (x.toNat : Int) := HN.out.symm
  simp only [List.map_cons, List.map_nil]
  unfold octetsB
  rw [hx]
  have := x.isLt
  simp only [List.cons.injEq, and_true]
  refine ⟨?_, ?_, ?_, ?_⟩ <;> (apply UInt8.toNat_inj.1; rw [UInt8.toNat_ofNat', UInt8.toNat_ofNat']; omega)
end Go.Proofs.Ytmmajdkngboecaa
