/- 'CrcTurned': the walk: some bits of a text are turned; its sum turns just then. -/
import Derived.Test.YtmmajdkngboecaaCrcLaws
import Derived.Lib.ConvBytes
import Derived.IntWalk
namespace Go.Proofs.Ytmmajdkngboecaa
open Go.RowKit
set_option maxRecDepth 10000

/-- Octets in a block of their own, that may be written. -/
def BytesAt (w : World) (b : Nat) (l : List UInt8) : Prop := ∀ i (h : i < l.length), w.cell? ⟨b, i, none⟩ = some (.int .u8 (l[i].toNat : Int)) ∧ w.frozen? ⟨b, i, none⟩ = false
theorem BytesAt.drew {w : World} {b : Nat} {l : List UInt8} (h : BytesAt w b l) : BytesAt w.drew b l := h
theorem BytesAt.set {w : World} {b : Nat} {l : List UInt8} (h : BytesAt w b l) (i : Nat) (hi : i < l.length) (c : UInt8) :
    BytesAt (w.setCell ⟨b, i, none⟩ (.int .u8 (c.toNat : Int))) b (l.set i c) := by
  intro j hj
  rw [List.length_set] at hj
  refine ⟨?_, by rw [World.frozen?_setCell]; exact (h j hj).2⟩
  by_cases e : i = j
  · subst e
    rw [World.cell?_setCell_same _ _ _ (h i hi).1]; simp
  · rw [World.cell?_setCell_other _ _ _ _ (by intro he; exact e (congrArg Addr.off he)), (h j hj).1, List.getElem_set_ne e]
theorem bytesAt_made (w : World) (e : TypeId) (s : ByteArray) : BytesAt (Lib.bytesWorld w e s) w.heap.size (bl s) := by
  intro i hi
  rw [bl_length] at hi
  refine ⟨?_, ?_⟩
  · rw [Lib.bytesWorld_cell w e s i hi]
    unfold bl; rw [List.getD_eq_getElem?_getD, List.getElem?_eq_getElem (by rw [Array.length_toList]; exact hi)]; rfl
  · unfold World.frozen?
    rw [Lib.bytesWorld_at_new]
    have : s.size ≤ (Lib.bytesCells w e s).size := by unfold Lib.bytesCells; rw [Array.size_append, Array.size_map]; exact Nat.le_add_right _ _
    generalize (Lib.bytesCells w e s).size = m at *
    show (decide (m ≤ i) && decide (i < m + 1)) = false
    rw [decide_eq_false (by omega)]; rfl
theorem below_bytes (w : World) (e : TypeId) (s : ByteArray) : Below w.heap.size w (Lib.bytesWorld w e s) :=
  ⟨rfl, rfl, rfl, by rw [Lib.bytesWorld_size]; omega, fun k hk => Lib.bytesWorld_at_old w e s k hk⟩
theorem bit_word (x : BitVec 32) (k : Nat) : (bits .and .u32 (W x / 2 ^ k) 1 == 1) = x.getLsbD k := by
  have h : W x / 2 ^ k = W (x >>> k) := by
    unfold W; rw [BitVec.toNat_ushiftRight, Nat.shiftRight_eq_div_pow]
    rw [Int.natCast_ediv]; simp
  rw [h, W_low]; simp
theorem flip_u8 : ∀ (j : Fin 8), ∀ n : Fin 256, bits .xor .u8 ((n.val : Nat) : Int) (2 ^ j.val % 256) = (((UInt8.ofNat n.val) ^^^ ((1 : UInt8) <<< UInt8.ofNat j.val)).toNat : Int) := by decide +kernel
theorem flip_byte (c : UInt8) (j : Nat) (hj : j < 8) : bits .xor .u8 (c.toNat : Int) (2 ^ j % 256) = ((c ^^^ ((1 : UInt8) <<< UInt8.ofNat j)).toNat : Int) := by
  have := flip_u8 ⟨j, hj⟩ ⟨c.toNat, c.toNat_lt⟩
  simpa using this
theorem octs_back : ∀ l : List UInt8, ((l.map fun c => (c.toNat : Int)).map fun n => UInt8.ofNat n.toNat) = l
  | [] => rfl
  | c :: l => by simp only [List.map_cons, octs_back l]; simp
theorem nums_of (w : World) (b cap : Nat) (l : List UInt8) (h : BytesAt w b l) :
    (convert 33 9 (.slice (some ⟨b, 0, none⟩) l.length cap)).run Try.prog w = .ok (.string ⟨l.toArray⟩) w := by
  have h1 := run_convert_bytes_arg (P := Try.prog) w 33 5 Try.underlying33 Try.underlying5 b 0 l.length cap (l.map fun c => (c.toNat : Int)) (by simp) (fun i hi => by
    rw [Nat.zero_add, (h i hi).1, List.getD_eq_getElem?_getD, List.getElem?_map, List.getElem?_eq_getElem hi]; rfl) 9 Try.underlying9
  rw [h1]
  have : strOfNums (l.map fun c => (c.toNat : Int)) = ⟨l.toArray⟩ := by
    unfold strOfNums
    rw [octs_back]
  rw [this]

/-- What holds of the turned text behind k bits: its sum, the bits turned. -/
def Turned (l0 l : List UInt8) (F k : Nat) (v : BitVec 32) (tb : Bool) : Prop :=
  l.length = l0.length ∧ sumB l = sumB l0 ^^^ stepsB (8 * l0.length - F) v ∧ Below32 v k ∧ tb = decide (v ≠ 0#32)
theorem Turned.zero (l0 : List UInt8) (F : Nat) : Turned l0 l0 F 0 0#32 false := ⟨rfl, by rw [stepsB_zero]; simp, Below32.zero 0, by simp⟩
theorem Turned.keep {l0 l : List UInt8} {F k : Nat} {v : BitVec 32} {tb : Bool} (h : Turned l0 l F k v tb) : Turned l0 l F (k + 1) v tb := ⟨h.1, h.2.1, h.2.2.1.next, h.2.2.2⟩
theorem Turned.flip {l0 l : List UInt8} {F k i j : Nat} {v : BitVec 32} {tb : Bool} (h : Turned l0 l F k v tb) (hk : k < 32) (hp : F + k < 8 * l0.length)
    (hi : i = (F + k) / 8) (hj : j = (F + k) % 8) (hil : i < l.length) : Turned l0 (l.set i (l[i] ^^^ ((1 : UInt8) <<< UInt8.ofNat j))) F (k + 1) (v ^^^ (1#32 <<< k)) true := by
  subst hi hj
  obtain ⟨h1, h2, h3, h4⟩ := h
  refine ⟨by simpa using h1, ?_, h3.flip, by simp [h3.flip_ne hk]⟩
  rw [sumB_flip l (F + k) F k rfl hk (by omega), h2, h1, stepsB_xor, BitVec.xor_assoc]
theorem Turned.ends {l0 l : List UInt8} {F k : Nat} {v : BitVec 32} {tb : Bool} (h : Turned l0 l F k v tb) : (W (sumB l) != W (sumB l0)) = tb := by
  obtain ⟨_, h2, _, rfl⟩ := h
  have hi := turned_iff (8 * l0.length - F) (sumB l0) v
  rw [← h2] at hi
  by_cases e : v = 0#32
  · have := hi.2 e; rw [this, e]; simp
  · have hne : ¬ sumB l = sumB l0 := fun hh => e (hi.1 hh)
    have hw : W (sumB l) ≠ W (sumB l0) := fun hh => hne (W_inj hh)
    simp [e, hw]

theorem crcTurned_core (s : ByteArray) (at_ : Int) (x : BitVec 32) (w : World) (hs : s.size ≤ 600) (hs1 : 0 < s.size) (ha0 : 0 ≤ at_) (ha1 : at_ < 65536) :
    Calls Try.prog 5 #[.string s, .int .u16 at_, .int .u32 (W x)] w fun e w' => e = .returned (.bool true) ∧ Below w.heap.size w w' := by
  have hne : ((s.size : Int) == 0) = false := by apply beq_false_of_ne; omega
  obtain ⟨F, hF, hFs⟩ : ∃ F : Nat, at_ % (8 * (s.size : Int)) = F ∧ F < 8 * s.size := by
      have h1 := Int.emod_nonneg at_ (show (8 * (s.size : Int)) ≠ 0 by omega)
      have h2 := Int.emod_lt_of_pos at_ (show (0 : Int) < 8 * (s.size : Int) by omega)
      exact ⟨(at_ % (8 * (s.size : Int))).toNat, by omega, by omega⟩
  have hcv := fun w => Lib.run_convert_string_bytes (P := Try.prog) w 9 33 5 s Try.underlying9 Try.underlying33 Try.underlying5
  have hn0 : 0 ≤ W x := W_nonneg x
  have hn1 : W x < 4294967296 := W_lt x
  have HBit := Lib.hid (bit_word x)
  generalize W x = n at *
  go_enter Try.func5, Try.ntmps5
  go_wp2
  clear hcv
  simp only [hF]
  have HF := Lib.hid hF
  clear hF
  generalize grownCap w s.size 0 _ = cap
  go_loopw [9, 10] (fun t i w' => ∃ k : Nat, k ≤ 32 ∧ i = .int .i64 k ∧ ∃ tb : Bool, t = .bool tb ∧ ∃ (l : List UInt8) (v : BitVec 32), Hid (BytesAt w' w.heap.size l) ∧ Hid (Turned (bl s) l F k v tb) ∧ Below w.heap.size w w') (fun t i w' => 32 - (intOf i).toNat)
  case atStart => exact ⟨0, by omega, rfl, false, rfl, bl s, 0#32, Lib.hid (bytesAt_made _ _ _), Lib.hid (Turned.zero _ _), below_bytes _ _ _⟩
  case round =>
    obtain ⟨k, hk, rfl, tb, rfl, l, v, HC, HT, hbel⟩ := hrel
    have hlen : l.length = s.size := by rw [HT.out.1, bl_length]
    by_cases hlt : k < 32 ∧ F + k < 8 * s.size
    · obtain ⟨hlt, hp⟩ := hlt
      obtain ⟨i, hi⟩ : ∃ i : Nat, i = (F + k) / 8 := ⟨_, rfl⟩
      obtain ⟨j, hj⟩ : ∃ j : Nat, j = (F + k) % 8 := ⟨_, rfl⟩
      have hil : i < s.size := by omega
      have hjl : j < 8 := by omega
      have HI := Lib.hid hi; have HJ := Lib.hid hj
      have HLen := Lib.hid hlen
      have hil' : i < l.length := by omega
      obtain ⟨hc, hfz⟩ := HC.out i hil'
      have HTn := Lib.hid (HT.out.flip (i := i) (j := j) hlt (by rw [bl_length]; exact hp) hi hj hil')
      have HCn := Lib.hid (HC.out.set i hil' (l[i] ^^^ ((1 : UInt8) <<< UInt8.ofNat j)))
      have HV := Lib.hid (flip_byte l[i] j hjl)
      generalize l[i] = c at *
      clear hlen hil'
      have f1 : IntKind.i64.wrap ((F : Int) + (k : Int)) = ((F + k : Nat) : Int) := by rw [IntWalk.i64_in _ (by omega)]; omega
      have f2 : IntKind.i64.wrap (((F + k : Nat) : Int) / 8) = (i : Int) := by
        rw [IntWalk.i64_in _ (by omega)]; omega
      have f3 : (((F + k : Nat) : Int)).tmod 8 = (j : Int) := by rw [Int.tmod_eq_emod_of_nonneg (by omega)]; omega
      have f4 : (i : Int) < (s.size : Int) := by omega
      have f5 : 0 ≤ (i : Int) := by omega
      have hpI : (F : Int) + (k : Int) < 8 * (s.size : Int) := by omega
      have F1 := Lib.hid f1; have F2 := Lib.hid f2; have F3 := Lib.hid f3
      clear f1 f2 f3 hi hj
      go_wp2_with fail
      · have f1 := F1.out; have f2 := F2.out; have f3 := F3.out
        generalize F + k = p at f1 f2 f3
        refine wp_region_still_tail 19 (by kernel_rfl) (by kernel_rfl) ?_
        simp only [List.take_succ_cons, List.take_zero, List.drop_succ_cons, List.drop_zero]
        still_step
        still_step
        still_step
        still_step
        still_step
        still_step
        still_step
        still_step
        still_step
        still_step
        still_step
        still_step
        still_step
        still_step
        still_step
        still_step
        still_step
        still_step
        still_step
        refine wpStill_nil ?_
        change wpList _ _ _ _ _ wr.drew
        clear f1 f2 f3
        go_wp2_with fail
        go_roundw
        case measure => simp [intOf]; omega
        case rel => exact ⟨k + 1, by omega, by go_num, true, rfl, _, _, Lib.hid (by rw [HV.out]; exact BytesAt.drew HCn.out), HTn, (hbel.setCell (Nat.le_refl _) _).drew⟩
      · go_roundw
        case measure => simp [intOf]; omega
        case rel => exact ⟨k + 1, by omega, by go_num, tb, rfl, l, v, HC, Lib.hid HT.out.keep, hbel⟩
    · have hq := HT.out.ends
      have hsl : (l.length : Int) ≤ 600 := by omega
      have HN : Hid (∀ cap, (convert 33 9 (.slice (some ⟨w.heap.size, 0, none⟩) s.size cap)).run Try.prog wr = .ok (.string ⟨l.toArray⟩) wr) := Lib.hid fun cap => by
        rw [← hlen]; exact nums_of wr w.heap.size cap l HC.out
      have HS := Lib.hid (sum_any ⟨l.toArray⟩ wr (by show l.toArray.size ≤ _; simp; omega))
      have HS2 := Lib.hid (sum_any s wr (by omega))
      rw [show bl ⟨l.toArray⟩ = l from by unfold bl; simp] at HS
      have hcv := HN.out cap
      clear hlen hsl
      by_cases h32 : k < 32
      · have h8 : 8 * (s.size : Int) ≤ (F : Int) + (k : Int) := by omega
        clear hlt
        go_wp2_with (first | (go_at_call 19; refine HS.out.mono ?_; rintro e w' ⟨rfl, rfl⟩) | (go_at_call 19; refine HS2.out.mono ?_; rintro e w' ⟨rfl, rfl⟩) | (go_at_call 16; refine (crc_awake _).mono ?_; rintro e w3 ⟨rfl, hb3⟩))
        go_ret
        exact ⟨rfl, hbel.trans (hb3.mono hbel.size)⟩
      · obtain rfl : k = 32 := by omega
        clear hlt h32
        go_wp2_with (first | (go_at_call 19; refine HS.out.mono ?_; rintro e w' ⟨rfl, rfl⟩) | (go_at_call 19; refine HS2.out.mono ?_; rintro e w' ⟨rfl, rfl⟩) | (go_at_call 16; refine (crc_awake _).mono ?_; rintro e w3 ⟨rfl, hb3⟩))
        go_ret
        exact ⟨rfl, hbel.trans (hb3.mono hbel.size)⟩

theorem crcTurned_walk (s : ByteArray) (at_ sum : Int) (w : World) (hs : s.size ≤ maxLen) (ha : (Lit.int .u16 at_).wf = true) (hn : (Lit.int .u32 sum).wf = true) :
    Calls Try.prog 5 #[.string s, .int .u16 at_, .int .u32 sum] w fun e w' => e = .returned (.bool true) ∧ Below w.heap.size w w' := by
  unfold maxLen at hs
  obtain ⟨x, rfl⟩ := W_of sum (wf_u32 hn).1 (wf_u32 hn).2
  obtain ⟨ha0, ha1⟩ := wf_u16 ha
  clear hn ha
  by_cases h0 : s.size = 0
  · have h1 : ((s.size : Int) == 0) = true := by rw [h0]; rfl
    clear h0
    go_enter Try.func5, Try.ntmps5
    go_wp2_with (go_at_call 16; refine (crc_awake _).mono ?_; rintro e w' ⟨rfl, hb⟩)
    go_ret
    exact ⟨rfl, hb⟩
  by_cases h6 : 600 < s.size
  · have h1 : ((s.size : Int) == 0) = false := by apply beq_false_of_ne; omega
    clear h0
    go_enter Try.func5, Try.ntmps5
    go_wp2_with (go_at_call 16; refine (crc_awake _).mono ?_; rintro e w' ⟨rfl, hb⟩)
    go_ret
    exact ⟨rfl, hb⟩
  · exact crcTurned_core s at_ x w (by omega) (by omega) ha0 ha1
end Go.Proofs.Ytmmajdkngboecaa
