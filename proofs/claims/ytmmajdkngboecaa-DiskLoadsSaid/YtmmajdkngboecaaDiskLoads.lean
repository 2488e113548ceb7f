/- The law DiskLoads. -/
import Derived.Test.YtmmajdkngboecaaDiskBoth
namespace Go.Proofs.Ytmmajdkngboecaa
open Go.RowKit
set_option maxRecDepth 10000

set_option maxHeartbeats 4000000 in
theorem diskLoads_walk (v : Value) (l : List ByteArray) (at_ : Int) (w : World) (hl : Sl Value.string w v l ∧ (∀ x ∈ l, x.size ≤ maxLen) ∧ l.length ≤ maxLen) (hat : (Lit.int .i64 at_).wf = true) :
    Calls Try.prog 15 #[v, .int .i64 at_] w fun e w' => e = .returned (.bool true) ∧ Below w.heap.size w w' := by
  obtain ⟨hs, hfit, hlm⟩ := hl
  unfold maxLen at hlm hfit
  obtain ⟨ha0, ha1⟩ := wf_i64 hat
  have HAw := Lib.hid awake_any
  have HV := Lib.hid hs
  have HFit := Lib.hid hfit
  obtain ⟨A, c, rfl, hc, hread⟩ := hs
  have HR := Lib.hid hread
  clear hread hfit hat
  by_cases h20 : 20 < l.length
  · have h20I : 20 < (l.length : Int) := by omega
    go_enter Try.func15, Try.ntmps15
    go_wp2_with (go_at_call 47; (with_reducible refine (HAw.out _).mono ?_); rintro e w2 ⟨rfl, hb2⟩)
    go_ret
    exact ⟨rfl, hb2⟩
  · have h20I : (l.length : Int) ≤ 20 := by omega
    go_enter Try.func15, Try.ntmps15
    go_wp2
    go_loop [5] (fun i => ∃ k : Nat, k ≤ l.length ∧ i = .int .i64 k) (fun i => l.length - (intOf i).toNat)
    case atStart => exact ⟨0, by omega, rfl⟩
    case round =>
      obtain ⟨k, hk, rfl⟩ := hrel
      by_cases hlt : k < l.length
      · have hltI : (k : Int) < (l.length : Int) := by omega
        obtain ⟨a, rfl, hcell⟩ := HR.out k hlt
        have hsz := HFit.out _ (List.getElem_mem hlt)
        generalize l[k] = s at *
        have hszI : (s.size : Int) ≤ 9223372036854775807 := by omega
        by_cases h300 : 300 < s.size
        · have h300I : 300 < (s.size : Int) := by omega
          go_wp2_with (go_at_call 47; (with_reducible refine (HAw.out _).mono ?_); rintro e w2 ⟨rfl, hb2⟩)
          go_ret
          exact ⟨rfl, hb2⟩
        · have h300I : (s.size : Int) ≤ 300 := by omega
          go_wp2
          go_round
          case measure => simp [intOf]; omega
          case rel => exact ⟨k + 1, by omega, by go_num⟩
      · obtain rfl : k = l.length := by omega
        by_cases h2 : l.length < 2
        · have HN := Lib.hid (load_bad _ l w HV.out (.inl h2))
          have HRr := Lib.hid (rload_bad _ l w HV.out (.inl h2))
          go_wp2_with (first | (go_at_call 58; (with_reducible refine HN.out.mono ?_); rintro e w2 ⟨rfl, rfl⟩) | (go_at_call 59; (with_reducible refine HRr.out.mono ?_); rintro e w2 ⟨rfl, rfl⟩) | (go_at_call 47; (with_reducible refine (HAw.out _).mono ?_); rintro e w2 ⟨rfl, hb2⟩))
          go_ret
          exact ⟨rfl, hb2⟩
        · cases ho : l.any odd128
          · have HN := Lib.hid (load_any _ l w HV.out (by omega) (by omega) ho)
            have HRr : Hid (∀ W, Below w.heap.size w W → Calls Try.prog 59 #[.slice A l.length c] W (NewRef W (loadSt l))) := Lib.hid fun W hb =>
              (rload_any _ l W (HV.out.below hb) (by omega) (by omega)).mono fun e w' h => by unfold RLoadPost at h; rw [ho, if_neg (by decide)] at h; exact h
            have HOk := Lib.hid (loadSt_ok l 1000000 (by omega) (by omega) ho)
            obtain ⟨X, hX⟩ : ∃ X, ((loadSt l).read at_).1 = X := ⟨_, rfl⟩
            obtain ⟨g, hg⟩ : ∃ g, ((loadSt l).read at_).2 = g := ⟨_, rfl⟩
            have RD : Hid (∀ b1 sv1 wv1 W, DiskAt W b1 (loadSt l) sv1 wv1 → Calls Try.prog 60 #[.pointer (some ⟨b1, 0, none⟩), .int .i64 at_] W fun e w' => e = .returned (.tuple #[.string X, .int .i64 g]) ∧ Below W.heap.size W w') := Lib.hid fun b1 sv1 wv1 W h => by
              rw [← hX, ← hg]; exact dread_any W b1 _ sv1 wv1 at_ h HOk.out ha0 ha1
            have RR : Hid (∀ b1 sv1 wv1 W, RefAt W b1 (loadSt l) sv1 wv1 → Calls Try.prog 61 #[.pointer (some ⟨b1, 0, none⟩), .int .i64 at_] W fun e w' => e = .returned (.tuple #[.string X, .int .i64 g]) ∧ W = w') := Lib.hid fun b1 sv1 wv1 W h => by
              rw [← hX, ← hg]; exact rread_any W b1 _ sv1 wv1 at_ h HOk.out ha0 ha1
            have SC : Hid (∀ b1 sv1 wv1 W, DiskAt W b1 (loadSt l) sv1 wv1 → Calls Try.prog 49 #[.pointer (some ⟨b1, 0, none⟩)] W fun e w' => ∃ A5 c5, e = .returned (.slice A5 l.length c5) ∧ Sl Value.string w' (.slice A5 l.length c5) l ∧ Below W.heap.size W w') := Lib.hid fun b1 sv1 wv1 W h =>
              (sectors_any W b1 _ sv1 wv1 h HOk.out).mono fun e w' ⟨v', he, ho, hb⟩ => by
                obtain ⟨A5, c5, rfl, _⟩ := sl_form ho
                exact ⟨A5, c5, he, row_sl (l := l) ho, hb⟩
            have SM : Hid (∀ A5 c5 W, Below w.heap.size w W → Sl Value.string W (.slice A5 l.length c5) l → Calls Try.prog 44 #[.slice A5 l.length c5, .slice A l.length c] W fun e w' => e = .returned (.bool true) ∧ Below W.heap.size W w') := Lib.hid fun A5 c5 W hb h => by
              have := same_any _ _ l l W h (HV.out.below hb) (by omega) (by omega)
              rw [decide_eq_true rfl] at this; exact this
            have DD : Hid (∀ b1 sv1 wv1 W, DiskAt W b1 (loadSt l) sv1 wv1 → Calls Try.prog 52 #[.pointer (some ⟨b1, 0, none⟩)] W fun e w' => e = .returned (.bool false) ∧ W = w') := Lib.hid fun b1 sv1 wv1 W h => by
              obtain ⟨A5, c5, hsv, _⟩ := sl_form h.rows.sec
              have h1 := h.five
              rw [hsv] at h1
              have := dead_any _ W b1 _ _ _ _ A5 (loadSt l).sec.length c5 h1 (by show l.length ≤ _; omega)
              rw [show decide ((loadSt l).sec.length = 0) = false from decide_eq_false (by show ¬ l.length = 0; omega)] at this
              exact this
            have hXX := str_eq (show X = X from rfl)
            clear hX hg
            go_wp2_with (first | (go_at_call 58; (with_reducible refine HN.out.mono ?_); rintro e w2 ⟨b1, sv1, wv1, rfl, hd1, hf1, hb1⟩) | (go_at_call 59; (with_reducible refine (HRr.out _ hb1).mono ?_); rintro e w3 ⟨b2, sv2, wv2, rfl, hd2, hf2, hb2⟩; have hd1' := hd1.bel hb2) | (go_at_call 60; (with_reducible refine (RD.out b1 _ _ _ hd1').mono ?_); rintro e w4 ⟨rfl, hb4⟩; have hd2' := hd2.bel hb4; have hd1'' := hd1'.bel hb4; have hbw4 := below_next (below_next hb1 hb2) hb4) | (go_at_call 61; (with_reducible refine (RR.out b2 _ _ _ hd2').mono ?_); rintro e w5 ⟨rfl, rfl⟩) | (go_at_call 49; (with_reducible refine (SC.out b1 _ _ _ hd1'').mono ?_); rintro e w6 ⟨A6, c6, rfl, hs6, hb6⟩; have hbw6 := below_next hbw4 hb6; have hd6 := hd1''.bel hb6) | (go_at_call 44; (with_reducible refine (SM.out _ _ _ hbw6 hs6).mono ?_); rintro e w7 ⟨rfl, hb7⟩; have hd7 := hd6.bel hb7; have hbw7 := below_next hbw6 hb7) | (go_at_call 52; (with_reducible refine (DD.out b1 _ _ _ hd7).mono ?_); rintro e w8 ⟨rfl, rfl⟩) | (go_at_call 47; (with_reducible refine (HAw.out _).mono ?_); rintro e w9 ⟨rfl, hb9⟩))
            go_ret
            exact ⟨rfl, below_next hbw7 hb9⟩
          · have HN := Lib.hid (load_odd _ l w HV.out (by omega) (by omega) ho)
            have HRr : Hid (Calls Try.prog 59 #[.slice A l.length c] w fun e w' => e = .returned (.tuple #[.pointer none, .int .i64 9]) ∧ Below w.heap.size w w') := Lib.hid
              ((rload_any _ l w HV.out (by omega) (by omega)).mono fun e w' h => by unfold RLoadPost at h; rw [ho, if_pos rfl] at h; exact h)
            go_wp2_with (first | (go_at_call 58; (with_reducible refine HN.out.mono ?_); rintro e w2 ⟨rfl, rfl⟩) | (go_at_call 59; (with_reducible refine HRr.out.mono ?_); rintro e w3 ⟨rfl, hb3⟩) | (go_at_call 47; (with_reducible refine (HAw.out _).mono ?_); rintro e w2 ⟨rfl, hb2⟩))
            go_ret
            exact ⟨rfl, below_next hb3 hb2⟩
end Go.Proofs.Ytmmajdkngboecaa
