/- The walks of strings.Trim with one octet 0, of stamp's rest and Blank, of draymanref05's Blank, of draymanref06's Torn. -/
import Derived.Test.YtoojdknfommpbaaDoorStampPut
namespace Go.Proofs.YtoojdknfommpbaaDoor
open Go.RowKit
set_option maxRecDepth 10000

def trL : List UInt8 → List UInt8
  | [] => []
  | b :: l => if b = 0 then trL l else b :: l
def trR (l : List UInt8) : List UInt8 := (trL l.reverse).reverse
theorem trR_snoc (l : List UInt8) (b : UInt8) : trR (l ++ [b]) = if b = 0 then trR l else l ++ [b] := by
  unfold trR; rw [List.reverse_append, List.reverse_singleton, List.singleton_append, trL]
  split <;> simp
theorem trR_nil : trR [] = [] := rfl
theorem trL_nil_iff (l : List UInt8) : trL l = [] ↔ l = zer l.length := by
  induction l with
  | nil => simp [trL, zer]
  | cons b l ih =>
    rw [trL]
    by_cases h : b = 0
    · rw [if_pos h, ih]; subst h; unfold zer; rw [List.length_cons, List.replicate_succ, List.cons.injEq]; simp
    · rw [if_neg h]; unfold zer; rw [List.length_cons, List.replicate_succ, List.cons.injEq]; simp [h]
theorem zer_reverse (k : Nat) : (zer k).reverse = zer k := by unfold zer; simp
theorem trR_nil_iff (l : List UInt8) : trR l = [] ↔ l = zer l.length := by
  unfold trR
  rw [List.reverse_eq_nil_iff, trL_nil_iff, List.length_reverse]
  constructor
  · intro h; rw [← List.reverse_reverse l, h, zer_reverse]; simp [zer_length]
  · intro h; have h2 := congrArg List.reverse h; rwa [zer_reverse] at h2
theorem trL_length (l : List UInt8) : (trL l).length ≤ l.length := by
  induction l with
  | nil => simp [trL]
  | cons b l ih => rw [trL]; split <;> simp; omega
theorem trR_length (l : List UInt8) : (trR l).length ≤ l.length := by
  unfold trR; have := trL_length l.reverse; simpa using this
theorem trR_last (l : List UInt8) : trR l = [] ∨ ∃ p b, trR l = p ++ [b] ∧ b ≠ 0 := by
  rw [← List.reverse_reverse l]
  generalize l.reverse = m
  induction m with
  | nil => left; rfl
  | cons b m ih =>
    rw [List.reverse_cons, trR_snoc]
    by_cases h : b = 0
    · rw [if_pos h]; exact ih
    · rw [if_neg h]; exact .inr ⟨_, _, rfl, h⟩
theorem trLR_nil_iff (l : List UInt8) : trL (trR l) = [] ↔ l = zer l.length := by
  rw [trL_nil_iff]
  constructor
  · intro h
    rcases trR_last l with h2 | ⟨p, b, h2, hb⟩
    · exact (trR_nil_iff l).1 h2
    · rw [h2] at h
      exfalso
      have h3 : b ∈ zer (p ++ [b]).length := by rw [← h]; simp
      exact hb (List.eq_of_mem_replicate h3)
  · intro h; rw [(trR_nil_iff l).2 h]; rfl

theorem trimRight_any (l0 : List UInt8) (w : World) (hs : l0.length ≤ 1000) :
    Calls Tryd.prog 120 #[.string (mkS l0), .int .u8 0] w fun e w' => e = .returned (.string (mkS (trR l0))) ∧ w' = w := by
  obtain ⟨S0, hS0⟩ : ∃ S0, mkS l0 = S0 := ⟨_, rfl⟩
  have HS0 := Lib.hid hS0
  rw [hS0]; clear hS0
  go_enter Tryd.func120, Tryd.ntmps120
  go_wp2
  go_loop [0] (fun v => ∃ l : List UInt8, l.length ≤ 1000 ∧ Hid (trR l = trR l0) ∧ v = .string (mkS l)) (fun v => (match v with | .string s => s.size | _ => 0))
  case atStart => exact ⟨l0, hs, Lib.hid rfl, by rw [HS0.out]⟩
  case round =>
    obtain ⟨l, hl, HT, rfl⟩ := hrel
    obtain ⟨T, hT⟩ : ∃ T, T = mkS l := ⟨_, rfl⟩
    rw [← hT]
    rcases List.eq_nil_or_concat l with rfl | ⟨p, b, rfl⟩
    · have hz : T.size = 0 := by rw [hT, mkS_size]; rfl
      have HTT := Lib.hid hT
      clear hT
      go_wp2
      go_ret
      exact ⟨ret_str (by rw [← HT.out, HTT.out]; rfl), rfl⟩
    · rw [List.concat_eq_append] at *
      have hz : T.size = p.length + 1 := by rw [hT, mkS_size]; simp
      have hpl : (p.length : Int) + 1 ≤ 1000 := by have := hl; simp at this; omega
      have hget : T[p.length]'(by omega) = b := by subst hT; unfold mkS; show (p ++ [b]).toArray[p.length]'_ = b; simp
      have hix : ∀ W : World, (Instr.index 9 (.string T) (.int .i64 (p.length : Int))).run Tryd.prog W = .ok (.int .u8 (b.toNat : Int)) W := fun W => by
        rw [run_index_string W 9 T .i64 p.length Tryd.underlying9, dif_pos (by omega)]; simp [hget]
      obtain ⟨U, hU⟩ : ∃ U, mkS p = U := ⟨_, rfl⟩
      have hsl : ∀ W : World, (Instr.slice 9 (.string T) none (some (.int .i64 (p.length : Int))) none).run Tryd.prog W = .ok (.string U) W := fun W => by
        rw [run_slice_string_h W 9 T Tryd.underlying9 .i64 (p.length : Int) (by omega) (by omega), ← hU, hT, mkS_extract]; simp
      obtain ⟨K, hK⟩ : ∃ K, p.length = K := ⟨_, rfl⟩
      have HTT := Lib.hid hT
      have HU := Lib.hid hU
      have HSn := Lib.hid (trR_snoc p b)
      have hzI : (T.size : Int) = (K : Int) + 1 := by omega
      rw [hK] at hz hix hsl hpl
      have hUs : U.size = K := by rw [← hU, mkS_size, hK]
      clear hT hU hget
      by_cases hb : b = 0
      · have hbI : (b.toNat : Int) = 0 := by rw [hb]; rfl
        rw [hbI] at hix
        have HB := Lib.hid hb
        clear hb
        go_wp2
        go_round
        case measure => simp; omega
        case rel => exact ⟨p, by omega, Lib.hid (by rw [← HT.out, HSn.out, if_pos HB.out]), by rw [HU.out]⟩
      · have hbI : ¬ (b.toNat : Int) = 0 := by intro h; apply hb; apply UInt8.toNat_inj.1; rw [show (0 : UInt8).toNat = 0 from rfl]; omega
        have HB := Lib.hid hb
        clear hb
        generalize (b.toNat : Int) = x at *
        go_wp2
        go_ret
        exact ⟨ret_str (by rw [← HT.out, HSn.out, if_neg HB.out, HTT.out]), rfl⟩
theorem trimLeft_any (l0 : List UInt8) (w : World) (hs : l0.length ≤ 1000) :
    Calls Tryd.prog 119 #[.string (mkS l0), .int .u8 0] w fun e w' => e = .returned (.string (mkS (trL l0))) ∧ w' = w := by
  obtain ⟨S0, hS0⟩ : ∃ S0, mkS l0 = S0 := ⟨_, rfl⟩
  have HS0 := Lib.hid hS0
  rw [hS0]; clear hS0
  go_enter Tryd.func119, Tryd.ntmps119
  go_wp2
  go_loop [0] (fun v => ∃ l : List UInt8, l.length ≤ 1000 ∧ Hid (trL l = trL l0) ∧ v = .string (mkS l)) (fun v => (match v with | .string s => s.size | _ => 0))
  case atStart => exact ⟨l0, hs, Lib.hid rfl, by rw [HS0.out]⟩
  case round =>
    obtain ⟨l, hl, HT, rfl⟩ := hrel
    obtain ⟨T, hT⟩ : ∃ T, T = mkS l := ⟨_, rfl⟩
    rw [← hT]
    rcases l with _ | ⟨b, p⟩
    · have hz : T.size = 0 := by rw [hT, mkS_size]; rfl
      have HTT := Lib.hid hT
      clear hT
      go_wp2
      go_ret
      exact ⟨ret_str (by rw [← HT.out, HTT.out]; rfl), rfl⟩
    · have hz : T.size = p.length + 1 := by rw [hT, mkS_size]; simp
      have hpl : (p.length : Int) + 1 ≤ 1000 := by have := hl; simp at this; omega
      have hget : T[0]'(by omega) = b := by subst hT; unfold mkS; show (b :: p).toArray[0]'(by simp) = b; simp
      have hix : ∀ W : World, (Instr.index 9 (.string T) (.int .i64 0)).run Tryd.prog W = .ok (.int .u8 (b.toNat : Int)) W := fun W => by
        have := run_index_string W 9 T .i64 0 Tryd.underlying9
        rw [this, dif_pos (by omega)]; simp [hget]
      obtain ⟨U, hU⟩ : ∃ U, mkS p = U := ⟨_, rfl⟩
      have hsl : ∀ W : World, (Instr.slice 9 (.string T) (some (.int .i64 1)) none none).run Tryd.prog W = .ok (.string U) W := fun W => by
        rw [run_slice_string_l W 9 T Tryd.underlying9 .i64 1 (by omega) (by omega), ← hU, hT, mkS_extract, mkS_size, List.take_length]; rfl
      obtain ⟨K, hK⟩ : ∃ K, p.length = K := ⟨_, rfl⟩
      have HTT := Lib.hid hT
      have HU := Lib.hid hU
      have hzI : (T.size : Int) = (K : Int) + 1 := by omega
      rw [hK] at hz hpl
      have hUs : U.size = K := by rw [← hU, mkS_size, hK]
      clear hT hU hget
      by_cases hb : b = 0
      · have hbI : (b.toNat : Int) = 0 := by rw [hb]; rfl
        rw [hbI] at hix
        have HB := Lib.hid hb
        clear hb
        go_wp2
        go_round
        case measure => simp; omega
        case rel => exact ⟨p, by omega, Lib.hid (by rw [← HT.out, trL, if_pos HB.out]), by rw [HU.out]⟩
      · have hbI : ¬ (b.toNat : Int) = 0 := by intro h; apply hb; apply UInt8.toNat_inj.1; rw [show (0 : UInt8).toNat = 0 from rfl]; omega
        have HB := Lib.hid hb
        clear hb
        generalize (b.toNat : Int) = x at *
        go_wp2
        go_ret
        exact ⟨ret_str (by rw [← HT.out, trL, if_neg HB.out, HTT.out]), rfl⟩
theorem str_nil {s : ByteArray} (h : s.size = 0) : s.toList = [] := by
  rw [ByteArray.toList_eq]; exact List.eq_nil_of_length_eq_zero (by rw [Array.length_toList]; exact h)
theorem str_some {s : ByteArray} (h : ¬ s.size = 0) : s.toList.isEmpty = false := by
  have t1 : ¬ s.toList = [] := by rw [ByteArray.toList_eq]; intro h2; apply h; have := congrArg List.length h2; rw [Array.length_toList] at this; exact this
  simpa using t1
theorem trim_any (s z : ByteArray) (w : World) (hs : s.size ≤ 1000) (hz : z = { data := #[0] }) :
    Calls Tryd.prog 103 #[.string s, .string z] w fun e w' => e = .returned (.string (mkS (trL (trR (bl s))))) ∧ Below w.heap.size w w' := by
  have C1 := fun W => trimRight_any (bl s) W (by rw [bl_length]; exact hs)
  have C2 := fun W => trimLeft_any (trR (bl s)) W (by have := trR_length (bl s); rw [bl_length] at this; omega)
  rw [mkS_bl] at C1
  generalize hR : mkS (trL (trR (bl s))) = R at *
  generalize mkS (trR (bl s)) = T at *
  have H1 := Lib.hid C1
  have H2 := Lib.hid C2
  clear C1 C2
  have hix : ∀ W : World, (Instr.index 9 (.string z) (.int .i64 0)).run Tryd.prog W = .ok (.int .u8 0) W := fun W => by
    have := run_index_string W 9 z .i64 0 Tryd.underlying9
    subst hz
    rw [this, dif_pos (by decide)]; rfl
  have z1 : (z.size : Int) = 1 := by subst hz; rfl
  have z2 := str_some (s := z) (by omega)
  have z3 : ¬ z.toList = [] := by simpa using z2
  clear hz
  by_cases h0 : s.size = 0
  · have t1 := str_nil h0
    have HE : Hid (s = R) := Lib.hid (by
      rw [← hR]; apply bl_inj; rw [bl_mkS]
      have : bl s = [] := List.eq_nil_of_length_eq_zero (by rw [bl_length]; exact h0)
      rw [this]; rfl)
    clear hR
    go_enter Tryd.func103, Tryd.ntmps103
    go_wp2
    go_ret
    exact ⟨ret_str HE.out, Below.refl _ _⟩
  · have t2 := str_some h0
    have t1 : ¬ s.toList = [] := by simpa using t2
    clear hR h0
    go_enter Tryd.func103, Tryd.ntmps103
    go_wp2
    go_quiet (first | (go_at_call 120; exact (H1.out _).mono fun e w' ⟨he, hw⟩ => ⟨he, _, hw⟩) | (go_at_call 119; exact (H2.out _).mono fun e w' ⟨he, hw⟩ => ⟨he, _, hw⟩))
    go_wp2
    go_ret
    exact ⟨rfl, below_drewN (Below.refl _ _) _⟩
theorem rest_any (s : ByteArray) (w : World) (hs : s.size ≤ 1000) :
    Calls Tryd.prog 65 #[.string s] w fun e w' => e = .returned (.bool (decide (bl s = zer s.size))) ∧ Below w.heap.size w w' := by
  have C := Lib.hid (trim_any s _ w hs rfl)
  have hd : decide (bl s = zer s.size) = decide (trL (trR (bl s)) = []) := by
    rw [decide_eq_decide, trLR_nil_iff, bl_length]
  rw [hd]
  clear hd
  generalize trL (trR (bl s)) = l at *
  obtain ⟨T, hT⟩ : ∃ T, mkS l = T := ⟨_, rfl⟩
  have HT := Lib.hid hT
  rw [hT] at C
  have hTs : T.size = l.length := by rw [← hT, mkS_size]
  clear hT
  rcases l with _ | ⟨b, l⟩
  · have t1 := str_nil (by simpa using hTs)
    go_enter Tryd.func65, Tryd.ntmps65
    go_wp2_with (go_at_call 103; (with_reducible refine C.out.mono ?_); rintro e w1 ⟨rfl, hb1⟩)
    go_ret
    exact ⟨rfl, hb1⟩
  · have t2 := str_some (s := T) (by rw [hTs]; simp)
    have t1 : ¬ T.toList = [] := by simpa using t2
    go_enter Tryd.func65, Tryd.ntmps65
    go_wp2_with (go_at_call 103; (with_reducible refine C.out.mono ?_); rintro e w1 ⟨rfl, hb1⟩)
    go_ret
    exact ⟨rfl, hb1⟩
theorem isBlank_any (s : ByteArray) (w : World) (hs : s.size ≤ 1000) :
    Calls Tryd.prog 22 #[.string s] w fun e w' => e = .returned (.bool (decide (bl s = zer 128))) ∧ Below w.heap.size w w' := by
  by_cases h : s.size = 128
  · have C := Lib.hid (rest_any s w hs)
    rw [h] at C
    have hI : (s.size : Int) = 128 := by omega
    generalize decide (bl s = zer 128) = r at *
    go_enter Tryd.func22, Tryd.ntmps22
    go_wp2_with (go_at_call 65; (with_reducible refine C.out.mono ?_); rintro e w1 ⟨rfl, hb1⟩)
    go_ret
    exact ⟨rfl, hb1⟩
  · have hr : Hid (decide (bl s = zer 128) = false) := Lib.hid (decide_eq_false fun e => h (by rw [← bl_length, e, zer_length]))
    have hI : ¬ (s.size : Int) = 128 := by omega
    generalize decide (bl s = zer 128) = r at *
    go_enter Tryd.func22, Tryd.ntmps22
    go_wp2
    go_ret
    exact ⟨ret_bool hr.out.symm, Below.refl _ _⟩
end Go.Proofs.YtoojdknfommpbaaDoor
