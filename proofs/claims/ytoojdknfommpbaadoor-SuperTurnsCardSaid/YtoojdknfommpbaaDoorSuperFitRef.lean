/- The walks of draymanref07.apart and Fit. -/
import Derived.Test.YtoojdknfommpbaaDoorSuperFit
import Derived.Deep.RegionHeld3
import Derived.Deep.Cut
namespace Go.Proofs.YtoojdknfommpbaaDoor
open Go.RowKit
set_option maxRecDepth 10000

theorem slice_toI (A : Option Addr) (n c j : Nat) (hj : j ≤ c) (W : World) : (Instr.slice 37 (.slice A n c) none (some (.int .i64 (j : Int))) none).run Tryd.prog W = .ok (.slice A j c) W := by
  rw [run_slice_h W _ A n c Tryd.underlying37 .i64 j (by omega) (by omega)]
  simp [go_sem, sliced]
theorem Sl.takeI {w : World} {A : Option Addr} {n c : Nat} {l : List Int} (h : Sl (Value.int .i64) w (.slice A n c) l) (j : Nat) (hj : j ≤ l.length) : Sl (Value.int .i64) w (.slice A j c) (l.take j) := by
  obtain ⟨A', c', he, hc, hr⟩ := h
  cases he
  have hl : (l.take j).length = j := by rw [List.length_take]; omega
  exact ⟨A, c, by rw [hl], by omega, fun i hi => by rw [hl] at hi; obtain ⟨a, h1, h2⟩ := hr i (by omega); exact ⟨a, h1, by rw [h2, List.getElem_take]⟩⟩
set_option maxHeartbeats 1000000 in
theorem apart_any (A : Option Addr) (c : Nat) (l : List Int) (w : World) (hs : Sl (Value.int .i64) w (.slice A l.length c) l) (hl : l.length ≤ 1000) :
    Calls Tryd.prog 82 #[.slice A l.length c] w fun e w' => e = .returned (.bool (decide (apartL l))) ∧ Below w.heap.size w w' := by
  have HS := Lib.hid hs
  have hcl : l.length ≤ c := by obtain ⟨_, _, he, hc, _⟩ := hs; cases he; exact hc
  obtain ⟨n, hn⟩ : ∃ n, l.length = n := ⟨_, rfl⟩
  have HN := Lib.hid hn
  rw [hn] at hl hcl ⊢
  have hlI : (n : Int) ≤ 1000 := by omega
  clear hs hn
  go_enter Tryd.func82, Tryd.ntmps82
  go_wp2
  go_loopw [3] (fun i W => ∃ k : Nat, k ≤ n ∧ i = .int .i64 k ∧ Hid (apartL (l.take k) ∧ Below w.heap.size w W)) (fun i _ => n - (intOf i).toNat)
  case atStart => exact ⟨0, by omega, rfl, Lib.hid ⟨⟨by simp, by simp⟩, Below.refl _ _⟩⟩
  case round =>
    obtain ⟨k, hk, rfl, HI⟩ := hrel
    by_cases hlt : k < n
    · have hlt' : k < l.length := by rw [HN.out]; exact hlt
      obtain ⟨A2, c2, he2, _, hr2⟩ := HS.out.below HI.out.2
      cases he2
      obtain ⟨a, rfl, e0⟩ := hr2 k hlt'
      have HE : Hid (∀ W, Below w.heap.size w W → W.cell? (a.add k) = some (.int .i64 l[k])) := Lib.hid fun W hb => by
        obtain ⟨A3, c3, he3, _, hr3⟩ := HS.out.below hb
        cases he3
        obtain ⟨a3, h3, q3⟩ := hr3 k hlt'
        cases h3; exact q3
      have HH : Hid (∀ W, Below w.heap.size w W → Calls Tryd.prog 56 #[.slice (some a) k c, .int .i64 l[k]] W fun e w' => e = .returned (.bool (hasB (l.take k) l[k])) ∧ W = w') := Lib.hid fun W hb =>
        has_any _ (l.take k) l[k] W (((HS.out.below hb)).takeI k (by omega)) (by rw [List.length_take]; omega)
      have HB9 : Hid ((l[k] < 0 ∨ 63 ≤ l[k] ∨ hasB (l.take k) l[k] = true) → decide (apartL l) = false) := Lib.hid fun hb => decide_eq_false fun hf => by
        rw [split_at l k hlt'] at hf
        exact apart_bad hb hf
      have HG : Hid (0 ≤ l[k] → l[k] < 63 → hasB (l.take k) l[k] = false → apartL (l.take (k + 1))) := Lib.hid fun h0 h1 h2 => by
        rw [take_snoc' _ _ hlt']; exact apart_snoc HI.out.1 h0 h1 h2
      have hsl := slice_toI (some a) n c k (by omega)
      have hkI : (k : Int) < (n : Int) := by omega
      have hk0 : 0 ≤ (k : Int) := by omega
      have HBq : Hid (∀ n, Below w.heap.size w (wr.drewN n)) := Lib.hid fun n => below_drewN HI.out.2 n
      have hx := HE.out _ HI.out.2
      clear hr2 e0
      obtain ⟨bb, hbb⟩ : ∃ b, hasB (l.take k) l[k] = b := ⟨_, rfl⟩
      rw [hbb] at HH HB9 HG
      have HHq : Hid (∀ m, Calls Tryd.prog 56 #[.slice (some a) k c, .int .i64 l[k]] (wr.drewN m) fun e w' => e = .returned (.bool bb) ∧ wr.drewN m = w') := Lib.hid fun m => HH.out _ (HBq.out m)
      clear hbb
      generalize l[k] = s at *
      obtain ⟨b1, hb1⟩ : ∃ b, decide (s < 0) = b := ⟨_, rfl⟩
      obtain ⟨b2, hb2⟩ : ∃ b, decide (63 ≤ s) = b := ⟨_, rfl⟩
      have HB1 := Lib.hid hb1
      have HB2 := Lib.hid hb2
      have hc3 : b1 = true ∨ (b1 = false ∧ b2 = true) ∨ (b1 = false ∧ b2 = false ∧ bb = true) ∨ (b1 = false ∧ b2 = false ∧ bb = false) := by cases b1 <;> cases b2 <;> cases bb <;> simp
      rcases hc3 with rfl | ⟨rfl, rfl⟩ | ⟨rfl, rfl, rfl⟩ | ⟨rfl, rfl, rfl⟩
      · have HF := Lib.hid (HB9.out (.inl (of_decide_eq_true HB1.out)))
        go_wp2
        go_quiet (first | (go_at_call 56; exact (HHq.out _).mono fun e w' ⟨he, hw⟩ => ⟨he, _, hw.symm⟩))
        go_wp2
        go_ret
        exact ⟨ret_bool HF.out.symm, HBq.out _⟩
      · have HF := Lib.hid (HB9.out (.inr (.inl (of_decide_eq_true HB2.out))))
        go_wp2
        go_quiet (first | (go_at_call 56; exact (HHq.out _).mono fun e w' ⟨he, hw⟩ => ⟨he, _, hw.symm⟩))
        go_wp2
        go_ret
        exact ⟨ret_bool HF.out.symm, HBq.out _⟩
      · have HF := Lib.hid (HB9.out (.inr (.inr rfl)))
        go_wp2
        go_quiet (first | (go_at_call 56; exact (HHq.out _).mono fun e w' ⟨he, hw⟩ => ⟨he, _, hw.symm⟩))
        go_wp2
        go_ret
        exact ⟨ret_bool HF.out.symm, HBq.out _⟩
      · have HG2 := Lib.hid (HG.out (by have := of_decide_eq_false HB1.out; omega) (by have := of_decide_eq_false HB2.out; omega) rfl)
        go_wp2
        go_quiet (first | (go_at_call 56; exact (HHq.out _).mono fun e w' ⟨he, hw⟩ => ⟨he, _, hw.symm⟩))
        go_wp2
        go_roundw
        case measure => simp [intOf]; omega
        case rel => exact ⟨k + 1, by omega, by go_num, Lib.hid ⟨HG2.out, HBq.out _⟩⟩
    · obtain rfl : k = n := by omega
      have HF : Hid (decide (apartL l) = true) := Lib.hid (decide_eq_true (by have := HI.out.1; rw [← HN.out, List.take_length] at this; exact this))
      go_wp2
      go_ret
      exact ⟨ret_bool HF.out.symm, HI.out.2⟩
end Go.Proofs.YtoojdknfommpbaaDoor
