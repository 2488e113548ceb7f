/- The law DiskPlays. -/
import Derived.Test.YtmmajdkngboecaaDiskBoth
namespace Go.Proofs.Ytmmajdkngboecaa
open Go.RowKit
set_option maxRecDepth 10000
set_option maxHeartbeats 4000000 in
theorem diskPlays_walk (n : Int) (v : Value) (l : List Ac) (w : World) (hn : (Lit.int .i64 n).wf = true) (hl : ActsAt w v l ∧ (∀ a ∈ l, a.ok ∧ a.keep.length ≤ maxLen) ∧ l.length ≤ maxLen) :
    Calls Try.prog 13 #[.int .i64 n, v] w fun e w' => e = .returned (.bool true) ∧ Below w.heap.size w w' := by
  obtain ⟨hs, hfit, hlm⟩ := hl
  unfold maxLen at hlm hfit
  have HF := Lib.hid (few_any v l 30 w hs hlm (fun a ha => (hfit a ha).2) (by omega))
  have HAw := Lib.hid awake_any
  have HA := Lib.hid hs
  have HFit := Lib.hid hfit
  obtain ⟨A, c, rfl, _⟩ := hs
  have hlI : (l.length : Int) ≤ 9223372036854775807 := by omega
  clear hfit
  by_cases h1 : 20 < n ∧ n ≤ 512
  · obtain ⟨h1a, h1b⟩ := h1
    go_enter Try.func13, Try.ntmps13
    go_wp2_with (go_at_call 47; (with_reducible refine (HAw.out _).mono ?_); rintro e w2 ⟨rfl, hb2⟩)
    go_ret
    exact ⟨rfl, hb2⟩
  · obtain ⟨fb, hfb⟩ : ∃ fb, fewB l 30 = fb := ⟨_, rfl⟩
    rw [hfb] at HF
    have HFb := Lib.hid hfb
    clear hfb
    have HF2 : Hid (Calls Try.prog 46 #[.slice A l.length c, .int .i64 30] w fun e w' => e = .returned (.bool fb) ∧ w = w') := HF
    clear HF
    cases fb
    · rcases (show n ≤ 20 ∨ (20 < n ∧ 512 < n) by omega) with h2 | ⟨h2, h3⟩
      all_goals
        go_enter Try.func13, Try.ntmps13
        go_wp2_with (first | (go_at_call 46; (with_reducible refine HF2.out.mono ?_); rintro e w2 ⟨rfl, rfl⟩) | (go_at_call 47; (with_reducible refine (HAw.out _).mono ?_); rintro e w2 ⟨rfl, hb2⟩))
        go_ret
        exact ⟨rfl, hb2⟩
    · obtain ⟨hl30, hkeep⟩ := fewB_true HFb.out
      have HKp := Lib.hid hkeep
      clear hkeep
      by_cases h2 : n < 2 ∨ 512 < n
      · have HN := Lib.hid (new_bad n w h2)
        have HR := Lib.hid (rnew_bad n w h2)
        rcases h2 with h2 | h2
        · have h20 : n ≤ 20 := by omega
          go_enter Try.func13, Try.ntmps13
          go_wp2_with (first | (go_at_call 46; (with_reducible refine HF2.out.mono ?_); rintro e w2 ⟨rfl, rfl⟩) | (go_at_call 45; (with_reducible refine HN.out.mono ?_); rintro e w2 ⟨rfl, rfl⟩) | (go_at_call 53; (with_reducible refine HR.out.mono ?_); rintro e w2 ⟨rfl, rfl⟩))
          go_loopw [9] (fun i W => i = .int .i64 0 ∧ W = w) (fun _ _ => 0)
          case atStart => exact ⟨rfl, rfl⟩
          case round =>
            obtain ⟨rfl, rfl⟩ := hrel
            rcases (show (l.length : Int) ≤ 0 ∨ 0 < (l.length : Int) by omega) with hz | hz
            all_goals
              go_wp2
              refine wp_region_grow (by kernel_rfl) (by kernel_rfl) ?_
              repeat (go_big_quiet_step (first | (intro hq; go_at_call 47; exact (HAw.out _).mono fun e w' ⟨he, hw⟩ => ⟨he, below_next hq hw⟩) | (intro _; with_reducible rfl)))
              refine wpQuiet_nil ?_
              intro w1 hb1
              go_wp2
              go_ret
              exact ⟨rfl, hb1⟩
        · have h20 : ¬ n ≤ 20 := by omega
          have h21 : ¬ n ≤ 512 := by omega
          have h22 : 20 < n := by omega
          go_enter Try.func13, Try.ntmps13
          go_wp2_with (first | (go_at_call 46; (with_reducible refine HF2.out.mono ?_); rintro e w2 ⟨rfl, rfl⟩) | (go_at_call 45; (with_reducible refine HN.out.mono ?_); rintro e w2 ⟨rfl, rfl⟩) | (go_at_call 53; (with_reducible refine HR.out.mono ?_); rintro e w2 ⟨rfl, rfl⟩))
          go_loopw [9] (fun i W => i = .int .i64 0 ∧ W = w) (fun _ _ => 0)
          case atStart => exact ⟨rfl, rfl⟩
          case round =>
            obtain ⟨rfl, rfl⟩ := hrel
            rcases (show (l.length : Int) ≤ 0 ∨ 0 < (l.length : Int) by omega) with hz | hz
            all_goals
              go_wp2
              refine wp_region_grow (by kernel_rfl) (by kernel_rfl) ?_
              repeat (go_big_quiet_step (first | (intro hq; go_at_call 47; exact (HAw.out _).mono fun e w' ⟨he, hw⟩ => ⟨he, below_next hq hw⟩) | (intro _; with_reducible rfl)))
              refine wpQuiet_nil ?_
              intro w1 hb1
              go_wp2
              go_ret
              exact ⟨rfl, hb1⟩
      · obtain ⟨N, rfl⟩ : ∃ N : Nat, n = (N : Int) := ⟨n.toNat, by omega⟩
        have hN2 : 2 ≤ N := by omega
        have hN20 : N ≤ 20 := by omega
        have hNI : (N : Int) ≤ 20 := by omega
        have HN := Lib.hid (new_any N w hN2 (by omega))
        have HR := Lib.hid fun W => rnew_any N W hN2 (by omega)
        clear h1 h2 hn
        go_enter Try.func13, Try.ntmps13
        go_wp2_with (first | (go_at_call 46; (with_reducible refine HF2.out.mono ?_); rintro e w2 ⟨rfl, rfl⟩) | (go_at_call 45; (with_reducible refine HN.out.mono ?_); rintro e w2 ⟨b1, sv1, wv1, rfl, hd1, hf1, hb1⟩) | (go_at_call 53; (with_reducible refine (HR.out _).mono ?_); rintro e w3 ⟨b2, sv2, wv2, rfl, hd2, hf2, hb2⟩))
        have HB0 : Hid (Both w w3 b1 b2 (newSt N) sv1 wv1 sv2 wv2) := Lib.hid ⟨hd1.bel hb2, hd2, fun k hk hk2 => by have := hd1.lt k hk; have := hf2 k hk2; omega, hf1, fun k hk => Nat.le_trans hb1.size (hf2 k hk), below_next hb1 hb2⟩
        clear hd1 hd2 hf1 hf2 hb1 hb2
        go_loopw [9] (fun i W => ∃ k : Nat, k ≤ l.length ∧ i = .int .i64 k ∧ Hid (∃ s p1 q1 p2 q2, Both w W b1 b2 s p1 q1 p2 q2 ∧ s.ok (k + 10) ∧ s.left ≤ 9223372036854775807 ∧ s.sec.length = N)) (fun i _ => l.length - (intOf i).toNat)
        case atStart => exact ⟨0, by omega, rfl, Lib.hid ⟨newSt N, sv1, wv1, sv2, wv2, HB0.out, newSt_ok N _ hN2 (by omega), by simp [newSt], by simp [newSt]⟩⟩
        case round =>
          obtain ⟨k, hk, rfl, HE⟩ := hrel
          obtain ⟨s, p1, q1, p2, q2, hB, hok, hleft, hsl⟩ := HE.out
          have HB := Lib.hid hB
          clear HE hB
          by_cases hlt : k < l.length
          · have hltI : (k : Int) < (l.length : Int) := by omega
            obtain ⟨A', c', hv', hcells⟩ := HA.out
            cases hv'
            obtain ⟨bk, off, kv, rfl, y0, y1, y2, y3, y4, hkv⟩ := hcells k hlt
            clear hcells
            have haok := (HFit.out _ (List.getElem_mem hlt)).1
            have hak := HKp.out _ (List.getElem_mem hlt)
            obtain ⟨a, hae⟩ : ∃ a, l[k] = a := ⟨_, rfl⟩
            rw [hae] at y0 y1 y2 y3 hkv haok hak
            clear hae
            have HCells : Hid (∀ W2, Below w.heap.size w W2 → W2.cell? ⟨bk, off + k * 5, none⟩ = some (.int .i64 a.kind) ∧ W2.cell? ⟨bk, off + k * 5 + 1, none⟩ = some (.int .i64 a.at_) ∧ W2.cell? ⟨bk, off + k * 5 + 2, none⟩ = some (.int .u8 a.fill) ∧ W2.cell? ⟨bk, off + k * 5 + 3, none⟩ = some (.int .i64 a.size) ∧ W2.cell? ⟨bk, off + k * 5 + 4, none⟩ = some kv) := Lib.hid fun W2 hb =>
              ⟨cell_below hb y0, cell_below hb y1, cell_below hb y2, cell_below hb y3, cell_below hb y4⟩
            clear y0 y1 y2 y3 y4
            obtain ⟨y0, y1, y2, y3, y4⟩ := HCells.out _ HB.out.bel
            obtain ⟨hDo1, hDo2⟩ := both_do HB.out (hok.mono (by omega)) hleft a haok hkv hak
            have hok' := hok.act a
            have hleft' := act_left hleft a haok.a1
            have hsl' : (s.act a).1.sec.length = N := by rw [act_secs, hsl]
            obtain ⟨s', hs'⟩ : ∃ s', (s.act a).1 = s' := ⟨_, rfl⟩
            obtain ⟨X, hX⟩ : ∃ X, (s.act a).2.1 = X := ⟨_, rfl⟩
            obtain ⟨g, hg⟩ : ∃ g, (s.act a).2.2 = g := ⟨_, rfl⟩
            rw [hs', hX, hg] at hDo1 hDo2
            rw [hs'] at hok' hleft' hsl'
            have HDo1 := Lib.hid hDo1
            have HDo2 := Lib.hid hDo2
            have HOK := Lib.hid hok'
            have HLS := Lib.hid (And.intro hleft' hsl')
            have hXX := str_eq (show X = X from rfl)
            clear hs' hX hg hDo1 hDo2 hok hleft hsl hok' hleft' hsl' haok hak hkv
            go_wp2_with (first | (go_at_call 48; (with_reducible refine HDo1.out.mono ?_); rintro e w2 ⟨rfl, hs2⟩; obtain ⟨z0, z1, z2, z3, z4⟩ := HCells.out w2 (HB.out.bel.trans (hs2.tou.below HB.out.bel.size HB.out.f1))) | (go_at_call 54; (with_reducible refine (HDo2.out _ hs2).mono ?_); rintro e w5 ⟨rfl, hr3⟩))
            obtain ⟨p1', q1', p2', q2', hB'⟩ := HB.out.step hs2 hr3
            have HB' := Lib.hid hB'
            have PC := Lib.hid (playCalls hB' (HOK.out.mono (by omega)))
            have hx : w5.cell? ⟨b2, 1, none⟩ = some q2' ∧ w5.cell? ⟨b2, 3, none⟩ = some (.int .i64 (s'.done : Int)) ∧ w5.cell? ⟨b2, 4, none⟩ = some (.bool s'.dead) := ⟨hB'.r.five.c1, hB'.r.five.c3, hB'.r.five.c4⟩
            have HXB : Hid (∀ W, Below w5.heap.size w5 W → W.cell? ⟨b2, 1, none⟩ = some q2' ∧ W.cell? ⟨b2, 3, none⟩ = some (.int .i64 (s'.done : Int)) ∧ W.cell? ⟨b2, 4, none⟩ = some (.bool s'.dead)) := Lib.hid fun W hb => ⟨cell_below hb hx.1, cell_below hb hx.2.1, cell_below hb hx.2.2⟩
            have hbr : Below w5.heap.size w5 w5.drew := (Below.refl w5.heap.size w5).drew
            clear hs2 hr3 hB' y0 y1 y2 y3 y4 z0 z1 z2 z3 z4 HDo1 HDo2 HB
            go_region_held3 (fun W' : World => W'.cell? ⟨b2, 1, none⟩ = some q2' ∧ W'.cell? ⟨b2, 3, none⟩ = some (.int .i64 (s'.done : Int)) ∧ W'.cell? ⟨b2, 4, none⟩ = some (.bool s'.dead))
              (first | exact hx | exact y7 | exact y8)
              (first | (go_at_call 52; (with_reducible refine (PC.out.dead _ hbr).mono ?_); rintro e w6 ⟨rfl, rfl⟩) | (go_at_call 55; (with_reducible refine (PC.out.ops _ hbr).mono ?_); rintro e w6 ⟨rfl, rfl⟩) | (go_at_call 50; (with_reducible refine (PC.out.waits _ hbr).mono ?_); rintro e w7 ⟨v7, rfl, ho7, hb7⟩; have y7 := HXB.out _ (below_dr hb7); obtain ⟨A7, c7, rfl, _⟩ := sl_form ho7) | (go_at_call 56; (with_reducible refine (PC.out.same _ _ (below_dr hb7) ho7).mono ?_); rintro e w8 ⟨rfl, hb8⟩; have y8 := HXB.out _ (below_next (below_dr hb7) hb8)))
            all_goals go_wp2
            all_goals go_roundw
            all_goals first | (simp [intOf]; omega) | exact ⟨k + 1, by omega, by go_num, Lib.hid ⟨s', _, _, _, _, HB'.out.below (below_next (below_dr hb7) hb8), HOK.out.mono (by omega), HLS.out.1, HLS.out.2⟩⟩
          · obtain rfl : k = l.length := by omega
            have EC := Lib.hid (endCalls HB.out (hok.mono (by omega)))
            have hx : wr.cell? ⟨b2, 0, none⟩ = some p2 := HB.out.r.five.c0
            have HXB : Hid (∀ W, Below wr.heap.size wr W → W.cell? ⟨b2, 0, none⟩ = some p2) := Lib.hid fun W hb => cell_below hb hx
            have hbr : Below wr.heap.size wr wr.drew := (Below.refl wr.heap.size wr).drew
            have HSz : Hid (∀ W, Below wr.heap.size wr W → Calls Try.prog 57 #[.pointer (some ⟨b1, 0, none⟩)] W fun e w' => e = .returned (.int .i64 (N : Int)) ∧ W = w') := Lib.hid fun W hb => by
              have := EC.out.size W hb
              rw [hsl] at this; exact this
            clear hsl hok hleft
            go_wp2
            go_region_held3 (fun W' : World => W'.cell? ⟨b2, 0, none⟩ = some p2)
              (first | exact hx | exact y7 | exact y8 | exact y9)
              (first | (go_at_call 49; (with_reducible refine (EC.out.secs _ hbr).mono ?_); rintro e w7 ⟨v7, rfl, ho7, hb7⟩; have y7 := HXB.out _ (below_dr hb7); have hb7' := below_dr hb7; obtain ⟨A7, c7, rfl, _⟩ := id ho7) | (go_at_call 44; (with_reducible refine (EC.out.same _ _ hb7' ho7).mono ?_); rintro e w8 ⟨rfl, hb8⟩; have y8 := HXB.out _ (below_next hb7' hb8); have hb8' := below_next hb7' hb8) | (go_at_call 57; (with_reducible refine (HSz.out _ hb8').mono ?_); rintro e w9 ⟨rfl, rfl⟩) | (go_at_call 47; (with_reducible refine (HAw.out _).mono ?_); rintro e w9 ⟨rfl, hb9⟩; have y9 := HXB.out _ (below_next hb8' hb9)))
            all_goals go_wp2
            all_goals go_ret
            all_goals exact ⟨rfl, HB.out.bel.trans ((below_next hb8' hb9).mono HB.out.bel.size)⟩
end Go.Proofs.Ytmmajdkngboecaa
