/- The walk of the chapter's example (awake). -/
import Derived.Test.YtmmajdkngboecaaDiskDo
namespace Go.Proofs.Ytmmajdkngboecaa
open Go.RowKit
set_option maxRecDepth 10000

def awA : ByteArray := dataS 97 128
def awB : ByteArray := dataS 98 128
def aw0 : St := newSt 2
def aw1 : St := (aw0.write 1 awA).1
def aw2 : St := aw1.crash [] 0
def aw3 : St := (aw2.write 1 awA).1
def aw4 : St := aw3.flush.1
def aw5 : St := (aw4.write 1 awB).1
def aw6 : St := aw5.crash [true] 1
theorem awE1 : (aw0.write 1 awA).2 = 0 := by kernel_rfl
theorem awE3 : (aw2.write 1 awA).2 = 0 := by kernel_rfl
theorem awE4 : aw3.flush.2 = 0 := by kernel_rfl
theorem awE5 : (aw4.write 1 awB).2 = 0 := by kernel_rfl
theorem awR1 : aw6.read 1 = ((⟨#[98]⟩ : ByteArray) ++ awA.extract 1 awA.size, 0) := by kernel_rfl
theorem awR0 : aw6.read 0 = (blankB, 0) := by kernel_rfl
theorem awOps : aw6.done = 4 := by kernel_rfl
theorem awW : (aw6.write 2 awA).2 = 11 := by kernel_rfl
theorem awLen : aw6.sec.length = 2 := by kernel_rfl
theorem awO0 : aw0.ok 10 := newSt_ok 2 10 (by omega) (by omega)
theorem awO1 : aw1.ok 11 := awO0.write _ _
theorem awO2 : aw2.ok 11 := awO1.crash _ _
theorem awO3 : aw3.ok 12 := awO2.write _ _
theorem awO4 : aw4.ok 13 := awO3.flush
theorem awO5 : aw5.ok 14 := awO4.write _ _
theorem awO6 : aw6.ok 14 := awO5.crash _ _
theorem aw_write (b : Nat) (s s' : St) (x : ByteArray) (i : Int) (r : Int) (hi : i = 1 ∨ i = 2) (h1 : (s.write i x).1 = s') (h2 : (s.write i x).2 = r) (hok : s.ok 14) (hl : s.left = 0) (w : World) (sv wv : Value) (h : DiskAt w b s sv wv) :
    Calls Try.prog 71 #[.pointer (some ⟨b, 0, none⟩), .int .i64 i, .string x] w fun e w' => e = .returned (.int .i64 r) ∧ DStep w b sv wv s' w' := by
  have := write_any w b s sv wv i x h (hok.mono (by omega)) (by omega) (by omega) (by omega)
  rw [h1, h2] at this
  exact this
theorem DStep.bel {w0 w w' : World} {b : Nat} {s' : St} {sv wv : Value} (h : DStep w b sv wv s' w') (hb : Below w0.heap.size w0 w) (hF : ∀ k, Foot b sv wv k → w0.heap.size ≤ k) :
    ∃ sv' wv', DiskAt w' b s' sv' wv' ∧ (∀ k, Foot b sv' wv' k → w0.heap.size ≤ k) ∧ Below w0.heap.size w0 w' := by
  obtain ⟨sv', wv', h1, h2, h3⟩ := h
  refine ⟨sv', wv', h1, fun k hk => ?_, hb.trans (h3.below hb.size hF)⟩
  rcases h2 k hk with h4 | h4
  · exact hF k h4
  · exact Nat.le_trans hb.size h4
def acA : Ac := ⟨0, 0, 97, 128, []⟩
def acB : Ac := ⟨0, 0, 98, 128, []⟩
set_option maxHeartbeats 2000000 in
theorem awake_any (w : World) : Calls Try.prog 47 #[] w fun e w' => e = .returned (.bool true) ∧ Below w.heap.size w w' := by
  have HN : Hid (Calls Try.prog 45 #[.int .i64 2] w (NewDisk w aw0)) := Lib.hid (new_any 2 w (by omega) (by omega))
  have HA : Hid (∀ W, Calls Try.prog 70 #[.agg #[.int .i64 0, .int .i64 0, .int .u8 97, .int .i64 128, .slice none 0 0]] W fun e w' => e = .returned (.string awA) ∧ Below W.heap.size W w') := Lib.hid fun W => data_any acA (.slice none 0 0) ⟨_, _, _, rfl⟩ ⟨by decide, by decide, by decide, by decide, by decide, by decide, by decide, by decide⟩ W
  have HB : Hid (∀ W, Calls Try.prog 70 #[.agg #[.int .i64 0, .int .i64 0, .int .u8 98, .int .i64 128, .slice none 0 0]] W fun e w' => e = .returned (.string awB) ∧ Below W.heap.size W w') := Lib.hid fun W => data_any acB (.slice none 0 0) ⟨_, _, _, rfl⟩ ⟨by decide, by decide, by decide, by decide, by decide, by decide, by decide, by decide⟩ W
  have hA1 : (1 : Int) ≤ (awA.size : Int) := by unfold awA; rw [dataS_size]; omega
  have hA2 : ¬ 9223372036854775807 < 1 + (awA.size - 1) := by unfold awA; rw [dataS_size]; omega
  have W1 := Lib.hid fun b w sv wv => aw_write b aw0 aw1 awA 1 0 (.inl rfl) rfl awE1 (awO0.mono (by omega)) rfl w sv wv
  have W3 := Lib.hid fun b w sv wv => aw_write b aw2 aw3 awA 1 0 (.inl rfl) rfl awE3 (awO2.mono (by omega)) rfl w sv wv
  have W5 := Lib.hid fun b w sv wv => aw_write b aw4 aw5 awB 1 0 (.inl rfl) rfl awE5 (awO4.mono (by omega)) rfl w sv wv
  have W7 := Lib.hid fun b w sv wv => aw_write b aw6 _ awA 2 11 (.inr rfl) rfl awW awO6 rfl w sv wv
  have C2 : Hid (∀ b w sv wv, DiskAt w b aw1 sv wv → Calls Try.prog 51 #[.pointer (some ⟨b, 0, none⟩), .slice none 0 0, .int .i64 0] w fun e w' => e = .returned (.int .i64 0) ∧ DStep w b sv wv aw2 w') := Lib.hid fun b w sv wv h =>
    crash_any w b aw1 sv wv _ [] 0 h (awO1.mono (by omega)) (Sl.nil _ _) (by simp) (by omega) (by omega)
  have C6 : Hid (∀ b w sv wv, DiskAt w b aw5 sv wv → Calls Try.prog 51 #[.pointer (some ⟨b, 0, none⟩), .slice (some ⟨w.heap.size, 0, none⟩) 1 1, .int .i64 1] (w.alloc (.cells #[.bool true] 4)) fun e w' => e = .returned (.int .i64 0) ∧ DStep (w.alloc (.cells #[.bool true] 4)) b sv wv aw6 w') := Lib.hid fun b w sv wv h =>
    crash_any _ b aw5 sv wv _ [true] 1 (h.bel (below_new w _)) (awO5.mono (by omega)) (sl_lit Value.bool w [true] _ _ 1 rfl rfl) (by simp) (by omega) (by omega)
  have F4 : Hid (∀ b w sv wv, DiskAt w b aw3 sv wv → Calls Try.prog 72 #[.pointer (some ⟨b, 0, none⟩)] w fun e w' => e = .returned (.int .i64 0) ∧ DStep w b sv wv aw4 w') := Lib.hid fun b w sv wv h => by
    have := flush_any w b aw3 sv wv h (awO3.mono (by omega)) (by decide)
    rw [awE4] at this; exact this
  have R1 : Hid (∀ b w sv wv, DiskAt w b aw6 sv wv → Calls Try.prog 60 #[.pointer (some ⟨b, 0, none⟩), .int .i64 1] w fun e w' => e = .returned (.tuple #[.string ((⟨#[98]⟩ : ByteArray) ++ awA.extract 1 awA.size), .int .i64 0]) ∧ Below w.heap.size w w') := Lib.hid fun b w sv wv h => by
    have := dread_any w b aw6 sv wv 1 h (awO6.mono (by omega)) (by omega) (by omega)
    rw [awR1] at this; exact this
  have R0 : Hid (∀ b w sv wv, DiskAt w b aw6 sv wv → Calls Try.prog 60 #[.pointer (some ⟨b, 0, none⟩), .int .i64 0] w fun e w' => e = .returned (.tuple #[.string blankB, .int .i64 0]) ∧ Below w.heap.size w w') := Lib.hid fun b w sv wv h => by
    have := dread_any w b aw6 sv wv 0 h (awO6.mono (by omega)) (by omega) (by omega)
    rw [awR0] at this; exact this
  have OP : Hid (∀ b w sv wv, DiskAt w b aw6 sv wv → Calls Try.prog 55 #[.pointer (some ⟨b, 0, none⟩)] w fun e w' => e = .returned (.int .i64 4) ∧ w = w') := Lib.hid fun b w sv wv h => by
    obtain ⟨A1, c1, hsv, _⟩ := sl_form h.rows.sec
    have h5 := h.five
    rw [hsv] at h5
    have := ops_any _ w b _ _ _ _ A1 aw6.sec.length c1 h5 (by rw [awLen]; omega)
    rw [awOps, awLen, if_neg (by omega)] at this
    exact this
  have HBl := Lib.hid blank_any
  have hcmp := str_eq (show ((⟨#[98]⟩ : ByteArray) ++ awA.extract 1 awA.size) = ((⟨#[98]⟩ : ByteArray) ++ awA.extract 1 awA.size) from rfl)
  have hcmp2 := str_eq (show blankB = blankB from rfl)
  generalize awA = A at *
  generalize awB = B at *
  go_enter Try.func47, Try.ntmps47
  generalize blankB = BL at *
  go_wp2_with (first | (go_at_call 45; (with_reducible refine HN.out.mono ?_); rintro e w1 ⟨b, sv, wv, rfl, hd, hf, hb1⟩) | (go_at_call 70; (with_reducible refine (HA.out _).mono ?_); rintro e w2 ⟨rfl, hb2⟩; have hd2 := hd.bel hb2; have hb2' := below_next hb1 hb2) | (go_at_call 70; (with_reducible refine (HB.out _).mono ?_); rintro e w3 ⟨rfl, hb3⟩; have hd3 := hd2.bel hb3; have hb3' := below_next hb2' hb3) | (go_at_call 71; (with_reducible refine (W1.out b _ _ _ hd3).mono ?_); rintro e w4 ⟨rfl, hs4⟩; obtain ⟨sv4, wv4, hd4, hf4, hb4⟩ := hs4.bel hb3' hf) | (go_at_call 51; (with_reducible refine (C2.out b _ _ _ hd4).mono ?_); rintro e w5 ⟨rfl, hs5⟩; obtain ⟨sv5, wv5, hd5, hf5, hb5⟩ := hs5.bel hb4 hf4) | (go_at_call 71; (with_reducible refine (W3.out b _ _ _ hd5).mono ?_); rintro e w6 ⟨rfl, hs6⟩; obtain ⟨sv6, wv6, hd6, hf6, hb6⟩ := hs6.bel hb5 hf5) | (go_at_call 72; (with_reducible refine (F4.out b _ _ _ hd6).mono ?_); rintro e w7 ⟨rfl, hs7⟩; obtain ⟨sv7, wv7, hd7, hf7, hb7⟩ := hs7.bel hb6 hf6) | (go_at_call 71; (with_reducible refine (W5.out b _ _ _ hd7).mono ?_); rintro e w8 ⟨rfl, hs8⟩; obtain ⟨sv8, wv8, hd8, hf8, hb8⟩ := hs8.bel hb7 hf7) | (go_at_call 51; (with_reducible refine (C6.out b _ _ _ hd8).mono ?_); rintro e w9 ⟨rfl, hs9⟩; obtain ⟨sv9, wv9, hd9, hf9, hb9⟩ := hs9.bel (below_alloc hb8 _) hf8) | (go_at_call 60; (with_reducible refine (R1.out b _ _ _ hd9).mono ?_); rintro e w10 ⟨rfl, hb10⟩; have hd10 := hd9.bel hb10; have hb10' := below_next hb9 hb10) | (go_at_call 60; (with_reducible refine (R0.out b _ _ _ hd10).mono ?_); rintro e w11 ⟨rfl, hb11⟩; have hd11 := hd10.bel hb11; have hb11' := below_next hb10' hb11) | (go_at_call 73; (with_reducible refine (HBl.out _).mono ?_); rintro e w12 ⟨rfl, hb12⟩; have hd12 := hd11.bel hb12; have hb12' := below_next hb11' hb12) | (go_at_call 55; (with_reducible refine (OP.out b _ _ _ hd12).mono ?_); rintro e w13 ⟨rfl, rfl⟩) | (go_at_call 71; (with_reducible refine (W7.out b _ _ _ hd12).mono ?_); rintro e w14 ⟨rfl, hs14⟩; obtain ⟨sv14, wv14, hd14, hf14, hb14⟩ := hs14.bel hb12' hf9))
  go_ret
  exact ⟨rfl, hb14⟩
end Go.Proofs.Ytmmajdkngboecaa
