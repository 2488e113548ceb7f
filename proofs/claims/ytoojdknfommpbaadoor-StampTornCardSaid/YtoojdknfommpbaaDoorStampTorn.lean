/- The law StampTorn: the walk. -/
import Derived.Test.YtoojdknfommpbaaDoorStampLaws
namespace Go.Proofs.YtoojdknfommpbaaDoor
open Go.RowKit
set_option maxRecDepth 10000

theorem below_alloc_drew {w W : World} (h : Below w.heap.size w W) (o : Obj) : Below w.heap.size w (W.alloc o).drew := (below_alloc h o).drew
set_option maxHeartbeats 4000000 in
theorem stampTorn_walk (v : Value) (x : Stp) (s : ByteArray) (tear : Int) (mv : Value) (l : List Int) (w : World) (hx : v = x.val) (hs : s.size ≤ maxLen)
    (_ : (Lit.int .i64 tear).wf = true) (hl : Sl (Value.int .i64) w mv l ∧ (∀ x ∈ l, -9223372036854775808 ≤ x ∧ x ≤ 9223372036854775807) ∧ l.length ≤ maxLen) :
    Calls Tryd.prog 6 #[v, .string s, .int .i64 tear, mv] w fun e w' => e = .returned (.bool true) ∧ Below w.heap.size w w' := by
  subst hx
  obtain ⟨hsl, _, hlm⟩ := hl
  unfold maxLen at hs hlm
  have HAw := Lib.hid awake06_any
  have HB0 := Lib.hid (BX.new w x)
  obtain ⟨MA, mc, rfl, _, hcells⟩ := hsl
  obtain ⟨n, hn⟩ : ∃ n, l.length = n := ⟨_, rfl⟩
  have HM : Hid (∀ W, Below w.heap.size w W → ∀ k, k < n → ∃ a, MA = some a ∧ W.cell? (a.add k) = some (.int .i64 (l.getD k 0))) := Lib.hid fun W hb k hk => by
    obtain ⟨a, ha, hc⟩ := hcells k (by rw [hn]; exact hk)
    refine ⟨a, ha, ?_⟩
    rw [cell_below hb hc, List.getD_eq_getElem?_getD, List.getElem?_eq_getElem (by omega)]; rfl
  rw [hn] at hlm ⊢
  clear hcells hn
  have hnI : (n : Int) ≤ 9223372036854775807 := by omega
  by_cases h6 : 104 < s.size ∨ 12 < n
  · obtain ⟨xa, xb, xc⟩ := x
    unfold Stp.val
    simp only at *
    by_cases h7 : 104 < s.size
    · have h6I : 104 < (s.size : Int) := by omega
      clear h6 h7
      go_enter Tryd.func6, Tryd.ntmps6
      go_wp2_with (go_at_call 12; (with_reducible refine (HAw.out _).mono ?_); rintro e w2 ⟨rfl, hb2⟩)
      go_ret
      exact ⟨rfl, below_next HB0.out.2 hb2⟩
    · have h6I : (s.size : Int) ≤ 104 := by omega
      have h7I : 12 < (n : Int) := by omega
      clear h6 h7
      go_enter Tryd.func6, Tryd.ntmps6
      go_wp2_with (go_at_call 12; (with_reducible refine (HAw.out _).mono ?_); rintro e w2 ⟨rfl, hb2⟩)
      go_ret
      exact ⟨rfl, below_next HB0.out.2 hb2⟩
  · obtain ⟨c, rfl⟩ : ∃ c, s = mkS c := ⟨bl s, (mkS_bl s).symm⟩
    rw [mkS_size] at h6
    have hc : c.length ≤ 104 := by omega
    have hsz : ((mkS c).size : Int) ≤ 104 := by rw [mkS_size]; omega
    have hn12 : (n : Int) ≤ 12 := by omega
    by_cases hf : x.fit
    case neg =>
      have HSeal : Hid (∀ W : World, Calls Tryd.prog 13 #[x.val, .string (mkS c)] W fun e w' => e = .returned (.tuple #[.string ⟨#[]⟩, .int .i64 1]) ∧ Below W.heap.size W w') := Lib.hid fun W =>
        (seal_any x (mkS c) W (by rw [mkS_size]; omega)).mono fun e w' ⟨he, hb⟩ => by
          obtain ⟨k1, k2⟩ := seal_unfit hf c
          exact ⟨by rw [he, bl_mkS, k1, k2]; rfl, hb⟩
      obtain ⟨xa, xb, xc⟩ := x
      unfold Stp.val at *
      simp only at *
      clear h6 hf
      go_enter Tryd.func6, Tryd.ntmps6
      go_wp2_with (first | (go_at_call 13; (with_reducible refine (HSeal.out _).mono ?_); rintro e w1 ⟨rfl, hb1⟩) | (go_at_call 12; (with_reducible refine (HAw.out _).mono ?_); rintro e w2 ⟨rfl, hb2⟩))
      go_ret
      exact ⟨rfl, below_next (below_next HB0.out.2 hb1) hb2⟩
    obtain ⟨AB, hAB⟩ : ∃ AB, sealB x c = AB := ⟨_, rfl⟩
    obtain ⟨AS, hAS⟩ : ∃ AS, mkS AB = AS := ⟨_, rfl⟩
    have hAl : AB.length = 128 := by rw [← hAB]; exact sealB_length _ _ hc
    have S1 : Hid (∀ W : World, Calls Tryd.prog 13 #[x.val, .string (mkS c)] W fun e w' => e = .returned (.tuple #[.string AS, .int .i64 0]) ∧ Below W.heap.size W w') := Lib.hid fun W =>
      (seal_any x (mkS c) W (by rw [mkS_size]; omega)).mono fun e w' ⟨he, hb⟩ => by
        obtain ⟨k1, k2⟩ := seal_ok hf hc
        exact ⟨by rw [he, bl_mkS, k1, k2, hAB, hAS], hb⟩
    have O1 : Hid (∀ W : World, Calls Tryd.prog 20 #[.string AS] W fun e w' => e = .returned (.tuple #[x.val, .string (mkS c), .int .i64 0]) ∧ Below W.heap.size W w') := Lib.hid fun W => by
      rw [← hAS, ← hAB]
      exact (open_any _ W).mono fun e w' ⟨he, hb⟩ => by
        obtain ⟨o1, o2, o3⟩ := open_seal hf hc
        exact ⟨by rw [he, o1, o2, o3], hb⟩
    have O2 : Hid (∀ q p, ¬ OpenOk (tornB AB q p) → ∀ W : World, Calls Tryd.prog 20 #[.string (mkS (tornB AB q p))] W fun e w' => e = .returned (.tuple #[.agg #[.int .i64 0, .int .i64 0, .int .i64 0], .string ⟨#[]⟩, .int .i64 12]) ∧ Below W.heap.size W w') := Lib.hid fun q p h W =>
      (open_any _ W).mono fun e w' ⟨he, hb⟩ => ⟨by rw [he]; unfold openX openS openE; rw [if_neg h, if_neg h, if_neg h]; rfl, hb⟩
    have HT : Hid (∀ q p, q ≤ 128 → p ≤ 128 → (OpenOk (tornB AB q p) ∧ tornB AB q p = AB) ∨ (¬ OpenOk (tornB AB q p) ∧ ((mkS (tornB AB q p)).toList == AS.toList) = false)) := Lib.hid fun q p hq hp => by
      rcases torn_tells hf hc q p hq hp with ⟨h1, h2⟩ | ⟨h1, h2⟩
      · rw [hAB] at h1 h2; exact .inl ⟨h1, h2⟩
      · rw [hAB] at h1 h2; exact .inr ⟨h1, str_ne fun e => h2 (by rw [← hAS] at e; have := congrArg bl e; rw [bl_mkS, bl_mkS] at this; exact this)⟩
    have B1 : Hid (∀ W : World, Calls Tryd.prog 23 #[] W fun e w' => e = .returned (.string blankS) ∧ Below W.heap.size W w') := Lib.hid blank_any
    have T0 : Hid (∀ W : World, Calls Tryd.prog 24 #[.string blankS, .string AS, .int .i64 tear] W fun e w' => e = .returned (.string (mkS (tornB AB (tornK tear) 0))) ∧ Below W.heap.size W w') := Lib.hid fun W => by
      rw [← hAS]
      have := torn_any (zer 128) AB tear W (zer_length _) hAl
      rw [torn_first] at this; exact this
    have T1 : Hid (∀ q p m, q ≤ 128 → p ≤ 128 → ∀ W : World, Calls Tryd.prog 24 #[.string (mkS (tornB AB q p)), .string blankS, .int .i64 m] W fun e w' => e = .returned (.string (mkS (tornB AB q (max p (tornK m))))) ∧ Below W.heap.size W w') := Lib.hid fun q p m hq hp W => by
      have := torn_any (tornB AB q p) (zer 128) m W (tornB_length hAl q p hq hp) (zer_length _)
      rw [torn_next] at this; exact this
    have HQ := tornK_le tear
    have HK := Lib.hid tornK_le
    have HEq := Lib.hid hAS
    have HF : Hid (∀ W W2, BX w x W → Below W.heap.size W W2 → BX w x W2 ∧ W2.cell? ⟨w.heap.size, 0, none⟩ = some (.int .i64 x.num) ∧ W2.cell? ⟨w.heap.size, 1, none⟩ = some (.int .i64 x.idx) ∧ W2.cell? ⟨w.heap.size, 2, none⟩ = some (.int .i64 x.cnt)) := Lib.hid fun W W2 h hb => ⟨h.below hb, (h.below hb).facts⟩
    have hcc := str_eq (show mkS c = mkS c from rfl)
    have haa := str_eq (show AS = AS from rfl)
    obtain ⟨q, hq⟩ : ∃ q, tornK tear = q := ⟨_, rfl⟩
    rw [hq] at HQ T0
    clear hAS hAB hAl hf h6 hc hq
    generalize mkS c = CS at *
    generalize blankS = BS at *
    obtain ⟨xa, xb, xc⟩ := x
    unfold Stp.val at *
    simp only at *
    go_enter Tryd.func6, Tryd.ntmps6
    go_wp2_with (first | (go_at_call 13; (with_reducible refine (S1.out _).mono ?_); rintro e w1 ⟨rfl, hb1⟩) | (go_at_call 23; (with_reducible refine (B1.out _).mono ?_); rintro e w2 ⟨rfl, hb2⟩) | (go_at_call 24; (with_reducible refine (T0.out _).mono ?_); rintro e w3 ⟨rfl, hb3⟩))
    have HI : Hid (BX w ⟨xa, xb, xc⟩ w3) := Lib.hid ((HB0.out.below hb1).below (below_next hb2 hb3))
    clear hb1 hb2 hb3
    go_loopw [11, 12] (fun t i W => ∃ k p : Nat, k ≤ n + 1 ∧ p ≤ 128 ∧ i = .int .i64 k ∧ t = .string (mkS (tornB AB q p)) ∧ Hid (BX w ⟨xa, xb, xc⟩ W)) (fun _ i _ => n + 1 - (intOf i).toNat)
    case atStart => exact ⟨0, 0, by omega, by omega, rfl, rfl, HI⟩
    case round =>
      obtain ⟨k, p, hk, hp, rfl, rfl, HX⟩ := hrel
      by_cases hkn : k ≤ n
      case neg =>
        have hknI : (n : Int) < (k : Int) := by omega
        have hbx := HX.out.2
        go_wp2_with (go_at_call 12; (with_reducible refine (HAw.out _).mono ?_); rintro e w6 ⟨rfl, hb6⟩)
        go_ret
        exact ⟨rfl, below_next hbx hb6⟩
      have hknI : (k : Int) ≤ (n : Int) := by omega
      have hTM := T1.out q p (l.getD k 0) HQ hp
      obtain ⟨p', hp'⟩ : ∃ p', max p (tornK (l.getD k 0)) = p' := ⟨_, rfl⟩
      have hp128 : p' ≤ 128 := by have := HK.out (l.getD k 0); omega
      rw [hp'] at hTM
      clear hp'
      rcases HT.out q p HQ hp with ⟨h1, h2⟩ | ⟨h1, h2⟩
      · have H2 : Hid (mkS (tornB AB q p) = AS) := Lib.hid (by rw [h2, HEq.out])
        rw [H2.out] at hTM ⊢
        have HTM := Lib.hid hTM
        clear h1 h2 hTM
        by_cases hlt : k < n
        · have hltI : (k : Int) < (n : Int) := by omega
          obtain ⟨a, rfl, _⟩ := HM.out _ HX.out.2 k hlt
          have HE : Hid (∀ W, BX w ⟨xa, xb, xc⟩ W → W.cell? (a.add k) = some (.int .i64 (l.getD k 0))) := Lib.hid fun W h => by
            obtain ⟨a', ha, hc⟩ := HM.out W h.2 k hlt
            cases ha; exact hc
          generalize l.getD k 0 = m at *
          go_wp2_with (go_at_call 20; (with_reducible refine (O1.out _).mono ?_); rintro e w4 ⟨rfl, hb4⟩; have bx4 := (HF.out _ _ HX.out hb4).1; have y0 := fun o => (HF.out _ _ bx4 (below_new w4 o)).2.1; have y1 := fun o => (HF.out _ _ bx4 (below_new w4 o)).2.2.1; have y2 := fun o => (HF.out _ _ bx4 (below_new w4 o)).2.2.2; have y3 : ∀ o, (w4.alloc o).drew.cell? (a.add k) = some (.int .i64 m) := (fun o => HE.out _ (HF.out _ _ bx4 (below_new w4 o).drew).1); have BX4 := Lib.hid (fun o => (HF.out _ _ bx4 (below_new w4 o).drew).1); clear bx4 hb4)
          go_region_with (first | (go_at_call 23; (with_reducible refine (B1.out _).mono ?_); rintro e w5 ⟨rfl, hb5⟩; have bx5 := (BX4.out _).below hb5; have y5 := HE.out _ bx5; have BX5 := Lib.hid bx5; clear bx5 hb5) | (go_at_call 24; (with_reducible refine (HTM.out _).mono ?_); rintro e w6 ⟨rfl, hb6⟩; have BX6 := Lib.hid (BX5.out.below hb6); clear hb6))
          all_goals go_wp2
          all_goals go_roundw
          all_goals first | (simp [intOf]; omega) | exact ⟨k + 1, p', by omega, by omega, by go_num, rfl, BX6⟩
        · have hltI : (n : Int) ≤ (k : Int) := by omega
          clear HTM
          go_wp2_with (go_at_call 20; (with_reducible refine (O1.out _).mono ?_); rintro e w4 ⟨rfl, hb4⟩; have bx4 := (HF.out _ _ HX.out hb4).1; have y0 := fun o => (HF.out _ _ bx4 (below_new w4 o)).2.1; have y1 := fun o => (HF.out _ _ bx4 (below_new w4 o)).2.2.1; have y2 := fun o => (HF.out _ _ bx4 (below_new w4 o)).2.2.2; have BX4 := Lib.hid (fun o => (HF.out _ _ bx4 (below_new w4 o)).1); clear bx4 hb4)
          go_roundw
          case measure => simp [intOf]; omega
          case rel => exact ⟨k + 1, p, by omega, by omega, by go_num, by rw [H2.out], Lib.hid (BX4.out _)⟩
      · have O3 := Lib.hid (O2.out q p h1)
        obtain ⟨TS, hTS⟩ : ∃ TS, mkS (tornB AB q p) = TS := ⟨_, rfl⟩
        have H2 := Lib.hid hTS
        rw [hTS] at O3 hTM h2 ⊢
        have HTM := Lib.hid hTM
        clear h1 hTM hTS
        by_cases hlt : k < n
        · have hltI : (k : Int) < (n : Int) := by omega
          obtain ⟨a, rfl, _⟩ := HM.out _ HX.out.2 k hlt
          have HE : Hid (∀ W, BX w ⟨xa, xb, xc⟩ W → W.cell? (a.add k) = some (.int .i64 (l.getD k 0))) := Lib.hid fun W h => by
            obtain ⟨a', ha, hc⟩ := HM.out W h.2 k hlt
            cases ha; exact hc
          generalize l.getD k 0 = m at *
          go_wp2_with (go_at_call 20; (with_reducible refine (O3.out _).mono ?_); rintro e w4 ⟨rfl, hb4⟩; have bx4 := (HF.out _ _ HX.out hb4).1; have y0 := fun o => (HF.out _ _ bx4 (below_new w4 o)).2.1; have y1 := fun o => (HF.out _ _ bx4 (below_new w4 o)).2.2.1; have y2 := fun o => (HF.out _ _ bx4 (below_new w4 o)).2.2.2; have y3 : ∀ o, (w4.alloc o).drew.cell? (a.add k) = some (.int .i64 m) := (fun o => HE.out _ (HF.out _ _ bx4 (below_new w4 o).drew).1); have BX4 := Lib.hid (fun o => (HF.out _ _ bx4 (below_new w4 o).drew).1); clear bx4 hb4)
          go_region_with (first | (go_at_call 23; (with_reducible refine (B1.out _).mono ?_); rintro e w5 ⟨rfl, hb5⟩; have bx5 := (BX4.out _).below hb5; have y5 := HE.out _ bx5; have BX5 := Lib.hid bx5; clear bx5 hb5) | (go_at_call 24; (with_reducible refine (HTM.out _).mono ?_); rintro e w6 ⟨rfl, hb6⟩; have BX6 := Lib.hid (BX5.out.below hb6); clear hb6))
          all_goals go_wp2
          all_goals go_roundw
          all_goals first | (simp [intOf]; omega) | exact ⟨k + 1, p', by omega, by omega, by go_num, rfl, BX6⟩
        · have hltI : (n : Int) ≤ (k : Int) := by omega
          clear HTM
          go_wp2_with (go_at_call 20; (with_reducible refine (O3.out _).mono ?_); rintro e w4 ⟨rfl, hb4⟩; have bx4 := (HF.out _ _ HX.out hb4).1; have y0 := fun o => (HF.out _ _ bx4 (below_new w4 o)).2.1; have y1 := fun o => (HF.out _ _ bx4 (below_new w4 o)).2.2.1; have y2 := fun o => (HF.out _ _ bx4 (below_new w4 o)).2.2.2; have BX4 := Lib.hid (fun o => (HF.out _ _ bx4 (below_new w4 o)).1); clear bx4 hb4)
          go_roundw
          case measure => simp [intOf]; omega
          case rel => exact ⟨k + 1, p, by omega, by omega, by go_num, by rw [H2.out], Lib.hid (BX4.out _)⟩
end Go.Proofs.YtoojdknfommpbaaDoor
