/- The law StampBack: the walk. -/
import Derived.Test.YtoojdknfommpbaaDoorStampLaws
namespace Go.Proofs.YtoojdknfommpbaaDoor
open Go.RowKit
set_option maxRecDepth 10000

/-- The parts, in memory. -/
def SlC (W : World) (A : Option Addr) (cs : List (List UInt8)) : Prop := ∀ k, k < cs.length → ∃ a, A = some a ∧ W.cell? (a.add k) = some (.string (mkS (cs.getD k [])))
theorem SlC.below {W W' : World} {A : Option Addr} {cs : List (List UInt8)} (h : SlC W A cs) (hb : Below W.heap.size W W') : SlC W' A cs := fun k hk => by
  obtain ⟨a, ha, hc⟩ := h k hk
  exact ⟨a, ha, cell_below hb hc⟩
theorem slC_own {W : World} {v : Value} {b : Nat} {e : TypeId} {l : List UInt8} (h : Own Value.string e b W v (splitL l)) : ∃ A c, v = .slice A (chunks l).length c ∧ SlC W A (chunks l) := by
  obtain ⟨A, c, hv, _, hr⟩ := h.sl
  have hn : (splitL l).length = (chunks l).length := by unfold splitL; simp
  refine ⟨A, c, by rw [hv, hn], fun k hk => ?_⟩
  obtain ⟨a, ha, hc⟩ := hr k (by rw [hn]; exact hk)
  refine ⟨a, ha, ?_⟩
  rw [hc]
  unfold splitL
  rw [List.getElem_map, List.getD_eq_getElem?_getD, List.getElem?_eq_getElem hk]; rfl
def BK (w : World) (x : Stp) (A : Option Addr) (cs : List (List UInt8)) (W : World) : Prop := BX w x W ∧ SlC W A cs
theorem BK.below {w W W' : World} {x : Stp} {A : Option Addr} {cs : List (List UInt8)} (h : BK w x A cs W) (hb : Below W.heap.size W W') : BK w x A cs W' := ⟨h.1.below hb, h.2.below hb⟩
theorem BK.facts {w W : World} {x : Stp} {a : Addr} {cs : List (List UInt8)} (h : BK w x (some a) cs W) {k : Nat} (hk : k < cs.length) :
    W.cell? (a.add k) = some (.string (mkS (cs.getD k []))) ∧ W.cell? ⟨w.heap.size, 0, none⟩ = some (.int .i64 x.num) ∧ W.cell? ⟨w.heap.size, 1, none⟩ = some (.int .i64 x.idx) ∧ W.cell? ⟨w.heap.size, 2, none⟩ = some (.int .i64 x.cnt) := by
  obtain ⟨a', ha, hc⟩ := h.2 k hk
  cases ha
  exact ⟨hc, h.1.facts⟩

set_option maxHeartbeats 4000000 in
theorem stampBack_walk (v : Value) (x : Stp) (s : ByteArray) (w : World) (hx : v = x.val) (hs : s.size ≤ maxLen) :
    Calls Tryd.prog 5 #[v, .string s] w fun e w' => e = .returned (.bool true) ∧ Below w.heap.size w w' := by
  subst hx
  unfold maxLen at hs
  have HAw := Lib.hid awake06_any
  have hbx := BX.new w x
  by_cases h6 : 600 < s.size
  · have h6I : 600 < (s.size : Int) := by omega
    obtain ⟨xa, xb, xc⟩ := x
    unfold Stp.val
    simp only at *
    have HB0 := Lib.hid hbx
    clear h6 hbx
    go_enter Tryd.func5, Tryd.ntmps5
    go_wp2_with (go_at_call 12; (with_reducible refine (HAw.out _).mono ?_); rintro e w2 ⟨rfl, hb2⟩)
    go_ret
    exact ⟨rfl, below_next HB0.out.2 hb2⟩
  · obtain ⟨l0, rfl⟩ : ∃ l0, s = mkS l0 := ⟨bl s, (mkS_bl s).symm⟩
    rw [mkS_size] at h6
    obtain ⟨cs, hcs⟩ : ∃ cs, chunks l0 = cs := ⟨_, rfl⟩
    obtain ⟨n, hn⟩ : ∃ n, cs.length = n := ⟨_, rfl⟩
    have hn0 : 0 < n := by rw [← hn, ← hcs]; exact List.length_pos_iff.2 (chunks_ne l0)
    have hnI0 : 0 < (n : Int) := by omega
    have hnI : (n : Int) ≤ 601 := by have := chunks_length l0; rw [hcs, hn] at this; omega
    have HSp : Hid (∀ W, BX w x W → Calls Tryd.prog 18 #[.string (mkS l0)] W fun e w' => ∃ A c, e = .returned (.slice A n c) ∧ BK w x A cs w') := Lib.hid fun W hW =>
      (split_any l0 W (by omega)).mono fun e w' ⟨v, he, ho, hb⟩ => by
        obtain ⟨A, c, rfl, hc⟩ := slC_own ho
        rw [hcs] at hc he
        rw [hn] at he
        exact ⟨A, c, he, hW.below hb, hc⟩
    have HC : Hid (∀ k, k < n → (cs.getD k []).length ≤ 104 ∧ (k + 1 < n → (cs.getD k []).length = 104) ∧ (cs.take k).flatten ++ cs.getD k [] = (cs.take (k + 1)).flatten ∧ (cs.take (k + 1)).flatten.length ≤ 600) := Lib.hid fun k hk => by
      have hk' : k < cs.length := by rw [hn]; exact hk
      have hg : cs.getD k [] = cs[k] := by rw [List.getD_eq_getElem?_getD, List.getElem?_eq_getElem hk']; rfl
      subst hcs
      refine ⟨by rw [hg]; exact chunks_le (List.getElem_mem hk'), fun h => chunks_full l0 k (by rw [hn]; exact h), ?_, ?_⟩
      · rw [hg, take_snoc' _ _ hk', List.flatten_append]; simp
      · have h1 := chunks_flat l0
        have h2 : ((chunks l0).take (k + 1)).flatten ++ ((chunks l0).drop (k + 1)).flatten = l0 := by rw [← List.flatten_append, List.take_append_drop]; exact h1
        have := congrArg List.length h2
        rw [List.length_append] at this
        omega
    have HAll : Hid ((cs.take n).flatten = l0) := Lib.hid (by rw [← hn, List.take_length, ← hcs]; exact chunks_flat l0)
    have HN := Lib.hid hn
    have HB0 := Lib.hid hbx
    have hsz : ((mkS l0).size : Int) ≤ 600 := by rw [mkS_size]; omega
    have hss := str_eq (show mkS l0 = mkS l0 from rfl)
    by_cases hf : x.fit
    · have HSeal : Hid (∀ c : List UInt8, c.length ≤ 104 → ∀ W : World, Calls Tryd.prog 13 #[x.val, .string (mkS c)] W fun e w' => e = .returned (.tuple #[.string (mkS (sealB x c)), .int .i64 0]) ∧ Below W.heap.size W w') := Lib.hid fun c hc W =>
        (seal_any x (mkS c) W (by rw [mkS_size]; omega)).mono fun e w' ⟨he, hb⟩ => by
          obtain ⟨k1, k2⟩ := seal_ok hf hc
          exact ⟨by rw [he, bl_mkS, k1, k2], hb⟩
      have HOpen : Hid (∀ c : List UInt8, c.length ≤ 104 → ∀ W : World, Calls Tryd.prog 20 #[.string (mkS (sealB x c))] W fun e w' => e = .returned (.tuple #[x.val, .string (mkS c), .int .i64 0]) ∧ Below W.heap.size W w') := Lib.hid fun c hc W =>
        (open_any _ W).mono fun e w' ⟨he, hb⟩ => by
          obtain ⟨o1, o2, o3⟩ := open_seal hf hc
          exact ⟨by rw [he, o1, o2, o3], hb⟩
      have HBlank : Hid (∀ c : List UInt8, c.length ≤ 104 → ∀ W : World, Calls Tryd.prog 22 #[.string (mkS (sealB x c))] W fun e w' => e = .returned (.bool false) ∧ Below W.heap.size W w') := Lib.hid fun c hc W =>
        (isBlank_any _ W (by rw [mkS_size, sealB_length _ _ hc]; omega)).mono fun e w' ⟨he, hb⟩ => ⟨by rw [he, bl_mkS, decide_eq_false (seal_ne_zer hf c)], hb⟩
      obtain ⟨xa, xb, xc⟩ := x
      unfold Stp.val at *
      simp only at *
      clear hf h6 hbx hcs hn
      go_enter Tryd.func5, Tryd.ntmps5
      go_wp2_with (go_at_call 18; (with_reducible refine (HSp.out _ HB0.out).mono ?_); rintro e w2 ⟨A, c, rfl, hk2⟩)
      go_loopw [6, 7] (fun t i W => ∃ k : Nat, k ≤ n ∧ i = .int .i64 k ∧ t = .string (mkS (cs.take k).flatten) ∧ Hid (BK w ⟨xa, xb, xc⟩ A cs W)) (fun _ i _ => n - (intOf i).toNat)
      case atStart => exact ⟨0, by omega, rfl, rfl, Lib.hid hk2⟩
      case round =>
        obtain ⟨k, hk, rfl, rfl, HK⟩ := hrel
        by_cases hlt : k < n
        · have hltI : (k : Int) < (n : Int) := by omega
          obtain ⟨a, rfl, _⟩ := HK.out.2 k (by rw [HN.out]; exact hlt)
          have hkc : k < cs.length := by rw [HN.out]; exact hlt
          obtain ⟨c1, c2, c3, c4⟩ := HC.out k hlt
          have HF : Hid (∀ W W2, BK w ⟨xa, xb, xc⟩ (some a) cs W → Below W.heap.size W W2 → BK w ⟨xa, xb, xc⟩ (some a) cs W2 ∧ W2.cell? (a.add k) = some (.string (mkS (cs.getD k []))) ∧ W2.cell? ⟨w.heap.size, 0, none⟩ = some (.int .i64 xa) ∧ W2.cell? ⟨w.heap.size, 1, none⟩ = some (.int .i64 xb) ∧ W2.cell? ⟨w.heap.size, 2, none⟩ = some (.int .i64 xc)) :=
            Lib.hid fun W W2 h hb => ⟨h.below hb, (h.below hb).facts hkc⟩
          have S1 : Hid (∀ W : World, _) := Lib.hid (HSeal.out _ c1)
          have O1 : Hid (∀ W : World, _) := Lib.hid (HOpen.out _ c1)
          have B1 : Hid (∀ W : World, _) := Lib.hid (HBlank.out _ c1)
          have had := fun P W => add_at (show mkS (cs.take k).flatten ++ mkS (cs.getD k []) = mkS (cs.take (k + 1)).flatten by rw [mkS_append, c3]) (by rw [mkS_size]; omega) P W
          have hc1 : ((mkS (cs.getD k [])).size : Int) ≤ 104 := by rw [mkS_size]; omega
          have hc2 : k + 1 < n → ((mkS (cs.getD k [])).size : Int) = 104 := fun h => by rw [mkS_size]; have := c2 h; omega
          obtain ⟨F', hF'⟩ : ∃ F', mkS (cs.take (k + 1)).flatten = F' := ⟨_, rfl⟩
          have HF' := Lib.hid hF'
          rw [hF'] at had
          obtain ⟨f0, q0, p0, p1, p2⟩ := HF.out _ _ HK.out (Below.refl _ _)
          obtain ⟨fd, qd, pd0, pd1, pd2⟩ := HF.out _ _ HK.out (below_drewS _)
          have HFd := Lib.hid fd
          clear c1 c2 c3 c4 hF' f0 fd HSeal HOpen HBlank
          generalize mkS (cs.take k).flatten = F at *
          generalize mkS (sealB ⟨xa, xb, xc⟩ (cs.getD k [])) = AS at *
          generalize mkS (cs.getD k []) = CS at *
          have hcc := str_eq (show CS = CS from rfl)
          have hsel : ((k : Int) < (n : Int) - 1 ∧ (CS.size : Int) = 104) ∨ (n : Int) - 1 ≤ (k : Int) := by
            by_cases hlast : k + 1 < n
            · exact .inl ⟨by omega, hc2 hlast⟩
            · exact .inr (by omega)
          clear hc2
          rcases hsel with ⟨hl1, hl2⟩ | hl1
          all_goals
            go_wp2
            go_region_with (go_at_call 13; (with_reducible refine (S1.out _).mono ?_); rintro e w3 ⟨rfl, hb3⟩; have HF3 := Lib.hid (HF.out _ _ HFd.out hb3).1; clear hb3)
            go_wp2_with (first | (go_at_call 20; (with_reducible refine (O1.out _).mono ?_); rintro e w4 ⟨rfl, hb4⟩; have bk4 := (HF.out _ _ HF3.out hb4).1; have e0 := fun o => (HF.out _ _ bk4 (below_new w4 o)).2.1; have e1 := fun o => (HF.out _ _ bk4 (below_new w4 o)).2.2.1; have e2 := fun o => (HF.out _ _ bk4 (below_new w4 o)).2.2.2.1; have e3 := fun o => (HF.out _ _ bk4 (below_new w4 o)).2.2.2.2; have BK4 := Lib.hid bk4; clear bk4 hb4) | (go_at_call 22; (with_reducible refine (B1.out _).mono ?_); rintro e w5 ⟨rfl, hb5⟩; have BK5 := Lib.hid (HF.out _ _ BK4.out (below_then (below_new _ _) (below_new _ _).size hb5)).1; clear hb5))
          all_goals go_roundw
          all_goals first | (simp [intOf]; omega) | exact ⟨k + 1, by omega, by go_num, by rw [HF'.out], BK5⟩
        · obtain rfl : k = n := by omega
          have hfin : mkS (cs.take k).flatten = mkS l0 := by rw [HAll.out]
          rw [hfin]
          have hbz := HK.out.1.2
          go_wp2_with (go_at_call 12; (with_reducible refine (HAw.out _).mono ?_); rintro e w6 ⟨rfl, hb6⟩)
          go_ret
          exact ⟨rfl, below_next hbz hb6⟩
    · have HSeal : Hid (∀ c : List UInt8, c.length ≤ 104 → ∀ W : World, Calls Tryd.prog 13 #[x.val, .string (mkS c)] W fun e w' => e = .returned (.tuple #[.string ⟨#[]⟩, .int .i64 1]) ∧ Below W.heap.size W w') := Lib.hid fun c hc W =>
        (seal_any x (mkS c) W (by rw [mkS_size]; omega)).mono fun e w' ⟨he, hb⟩ => by
          obtain ⟨k1, k2⟩ := seal_unfit hf c
          exact ⟨by rw [he, bl_mkS, k1, k2]; rfl, hb⟩
      have HFit : Hid (∀ W : World, Calls Tryd.prog 15 #[x.val] W fun e w' => e = .returned (.bool false) ∧ Below W.heap.size W w') := Lib.hid fun W =>
        (fit_any x W).mono fun e w' ⟨he, hb⟩ => ⟨by rw [he, decide_eq_false hf], hb⟩
      obtain ⟨xa, xb, xc⟩ := x
      unfold Stp.val at *
      simp only at *
      clear hf h6 hbx hcs hn
      go_enter Tryd.func5, Tryd.ntmps5
      go_wp2_with (go_at_call 18; (with_reducible refine (HSp.out _ HB0.out).mono ?_); rintro e w2 ⟨A, c, rfl, hk2⟩)
      go_loopw [6, 7] (fun t i W => i = .int .i64 0 ∧ t = .string ⟨#[]⟩ ∧ Hid (BK w ⟨xa, xb, xc⟩ A cs W)) (fun _ _ _ => 0)
      case atStart => exact ⟨rfl, rfl, Lib.hid hk2⟩
      case round =>
        obtain ⟨rfl, rfl, HK⟩ := hrel
        obtain ⟨a, rfl, _⟩ := HK.out.2 0 (by rw [HN.out]; exact hn0)
        obtain ⟨c1, c2, _, _⟩ := HC.out 0 hn0
        have hkc : 0 < cs.length := by rw [HN.out]; exact hn0
        have S1 : Hid (∀ W : World, _) := Lib.hid (HSeal.out _ c1)
        have hc1 : ((mkS (cs.getD 0 [])).size : Int) ≤ 104 := by rw [mkS_size]; omega
        have hc2 : 0 + 1 < n → ((mkS (cs.getD 0 [])).size : Int) = 104 := fun h => by rw [mkS_size]; have := c2 h; omega
        obtain ⟨q0, p0, p1, p2⟩ := HK.out.facts hkc
        have HFd := Lib.hid (HK.out.below (below_drewS _))
        obtain ⟨qd, pd0, pd1, pd2⟩ := HFd.out.facts hkc
        have hadd0 : a.add 0 = a := by cases a; unfold Addr.add; split <;> simp_all
        rw [hadd0] at q0 qd
        have had := fun P W => add_at (show (⟨#[]⟩ : ByteArray) ++ mkS (cs.getD 0 []) = mkS (cs.getD 0 []) by apply bl_inj; rw [bl_append]; rfl) (by rw [mkS_size]; omega) P W
        clear c1 c2 HSeal
        generalize mkS (cs.getD 0 []) = CS at *
        have hsel : ((0 : Int) < (n : Int) - 1 ∧ (CS.size : Int) = 104) ∨ (n : Int) - 1 ≤ (0 : Int) := by
          by_cases hlast : 0 + 1 < n
          · exact .inl ⟨by omega, hc2 hlast⟩
          · exact .inr (by omega)
        clear hc2 hadd0

        rcases hsel with ⟨hl1, hl2⟩ | hl1
        all_goals
          go_wp2
          go_region_with (go_at_call 13; (with_reducible refine (S1.out _).mono ?_); rintro e w3 ⟨rfl, hb3⟩; have hk3 := HFd.out.below hb3; obtain ⟨r0, r1, r2⟩ := hk3.1.facts; have HF3 := Lib.hid hk3; clear hb3 hk3)
          go_wp2_with (first | (go_at_call 15; (with_reducible refine (HFit.out _).mono ?_); rintro e w4 ⟨rfl, hb4⟩) | (go_at_call 12; (with_reducible refine (HAw.out _).mono ?_); rintro e w6 ⟨rfl, hb6⟩))
        all_goals go_ret
        all_goals exact ⟨rfl, below_next (below_next HF3.out.1.2 hb4) hb6⟩
end Go.Proofs.YtoojdknfommpbaaDoor
