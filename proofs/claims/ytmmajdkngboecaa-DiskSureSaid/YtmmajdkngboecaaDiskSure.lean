/- The law DiskSure. -/
import Derived.Test.YtmmajdkngboecaaDiskOne
namespace Go.Proofs.Ytmmajdkngboecaa
open Go.RowKit
set_option maxRecDepth 10000

def lateB (ws : List (Nat × ByteArray)) (k : Nat) : Bool := ws.any fun x => decide (x.1 = k)
theorem lateB_snoc (ws : List (Nat × ByteArray)) (k i : Nat) (h : i < ws.length) : lateB (ws.take (i + 1)) k = (lateB (ws.take i) k || decide (ws[i].1 = k)) := by
  unfold lateB; rw [take_succ' _ _ h, List.any_append]; simp
theorem sure_pure (s : St) (keep : List Bool) (tear : Int) (k : Nat) (h : lateB s.waits k = false) : (s.crash keep tear).sec.getD k ByteArray.empty = s.sec.getD k ByteArray.empty := by
  rw [List.getD_eq_getElem?_getD, List.getD_eq_getElem?_getD]
  congr 1
  refine crashL_other _ _ _ _ fun x hx hk => ?_
  have := List.any_eq_false.1 h x (keptL_mem hx)
  simp [hk] at this
set_option maxHeartbeats 4000000 in
theorem diskSure_walk (v : Value) (l : List Ac) (kv : Value) (keep : List Bool) (tear : Int) (w : World) (hl : ActsAt w v l ∧ (∀ a ∈ l, a.ok ∧ a.keep.length ≤ maxLen) ∧ l.length ≤ maxLen) (hkv : Sl Value.bool w kv keep ∧ keep.length ≤ maxLen) (ht : (Lit.int .i64 tear).wf = true) :
    Calls Try.prog 12 #[v, kv, .int .i64 tear] w fun e w' => e = .returned (.bool true) ∧ Below w.heap.size w w' := by
  obtain ⟨hs, hfit, hlm⟩ := hl
  obtain ⟨hkv, hkm⟩ := hkv
  unfold maxLen at hlm hfit hkm
  obtain ⟨ht0, ht1⟩ := wf_i64 ht
  have HF : Hid (∀ W, Below w.heap.size w W → Calls Try.prog 46 #[v, .int .i64 20] W fun e w' => e = .returned (.bool (fewB l 20)) ∧ W = w') := Lib.hid fun W hb => few_any v l 20 W (hs.below hb) hlm (fun a ha => (hfit a ha).2) (by omega)
  have HAw := Lib.hid awake_any
  have HA := Lib.hid hs
  have HFit := Lib.hid hfit
  have HKv := Lib.hid hkv
  obtain ⟨A, c, rfl, _⟩ := hs
  obtain ⟨KA, kc, rfl, _⟩ := hkv
  have hlI : (l.length : Int) ≤ 9223372036854775807 := by omega
  have hkI : (keep.length : Int) ≤ 9223372036854775807 := by omega
  clear hfit ht
  have HN : Hid (Calls Try.prog 45 #[.int .i64 8] w (NewDisk w (newSt 8))) := Lib.hid (new_any 8 w (by omega) (by omega))
  obtain ⟨fb, hfb⟩ : ∃ fb, fewB l 20 = fb := ⟨_, rfl⟩
  rw [hfb] at HF
  have HFb := Lib.hid hfb
  clear hfb
  cases fb
  · go_enter Try.func12, Try.ntmps12
    go_wp2_with (first | (go_at_call 45; (with_reducible refine HN.out.mono ?_); rintro e w2 ⟨b, sv, wv, rfl, hd, hf, hb⟩) | (go_at_call 46; (with_reducible refine (HF.out _ hb).mono ?_); rintro e w3 ⟨rfl, rfl⟩) | (go_at_call 47; (with_reducible refine (HAw.out _).mono ?_); rintro e w4 ⟨rfl, hb4⟩))
    go_ret
    exact ⟨rfl, below_next hb hb4⟩
  · by_cases hk100 : 100 < keep.length
    · have hk100I : 100 < (keep.length : Int) := by omega
      go_enter Try.func12, Try.ntmps12
      go_wp2_with (first | (go_at_call 45; (with_reducible refine HN.out.mono ?_); rintro e w2 ⟨b, sv, wv, rfl, hd, hf, hb⟩) | (go_at_call 46; (with_reducible refine (HF.out _ hb).mono ?_); rintro e w3 ⟨rfl, rfl⟩) | (go_at_call 47; (with_reducible refine (HAw.out _).mono ?_); rintro e w4 ⟨rfl, hb4⟩))
      go_ret
      exact ⟨rfl, below_next hb hb4⟩
    · have hk100I : (keep.length : Int) ≤ 100 := by omega
      obtain ⟨hl20, hkeep⟩ := fewB_true HFb.out
      have HKp := Lib.hid hkeep
      clear hkeep
      go_enter Try.func12, Try.ntmps12
      go_wp2_with (first | (go_at_call 45; (with_reducible refine HN.out.mono ?_); rintro e w2 ⟨b, sv, wv, rfl, hd, hf, hb⟩) | (go_at_call 46; (with_reducible refine (HF.out _ hb).mono ?_); rintro e w3 ⟨rfl, rfl⟩))
      go_loopw [9] (fun i W => ∃ k : Nat, k ≤ l.length ∧ i = .int .i64 k ∧ Hid (∃ s p q, One w W b s p q ∧ s.ok (k + 10) ∧ s.left ≤ 9223372036854775807 ∧ s.sec.length = 8)) (fun i _ => l.length - (intOf i).toNat)
      case atStart => exact ⟨0, by omega, rfl, Lib.hid ⟨newSt 8, sv, wv, ⟨hd, hf, hb⟩, newSt_ok 8 _ (by omega) (by omega), by simp [newSt], by simp [newSt]⟩⟩
      case round =>
        obtain ⟨k, hk, rfl, HE⟩ := hrel
        obtain ⟨s, p, q, hO, hok, hleft, hsl⟩ := HE.out
        have HO := Lib.hid hO
        clear HE hO
        by_cases hlt : k < l.length
        · have hltI : (k : Int) < (l.length : Int) := by omega
          obtain ⟨A', c', hv', hcells⟩ := HA.out
          cases hv'
          obtain ⟨bk, off, akv, rfl, y0, y1, y2, y3, y4, hkv⟩ := hcells k hlt
          clear hcells
          have haok := (HFit.out _ (List.getElem_mem hlt)).1
          have hak := HKp.out _ (List.getElem_mem hlt)
          obtain ⟨a, hae⟩ : ∃ a, l[k] = a := ⟨_, rfl⟩
          rw [hae] at y0 y1 y2 y3 hkv haok hak
          clear hae
          replace y0 := (HO.out.bel.cell (p := ⟨bk, off + k * 5, none⟩) (block_lt y0)).trans y0
          replace y1 := (HO.out.bel.cell (p := ⟨bk, off + k * 5 + 1, none⟩) (block_lt y1)).trans y1
          replace y2 := (HO.out.bel.cell (p := ⟨bk, off + k * 5 + 2, none⟩) (block_lt y2)).trans y2
          replace y3 := (HO.out.bel.cell (p := ⟨bk, off + k * 5 + 3, none⟩) (block_lt y3)).trans y3
          replace y4 := (HO.out.bel.cell (p := ⟨bk, off + k * 5 + 4, none⟩) (block_lt y4)).trans y4
          have HDo := Lib.hid (one_do HO.out (hok.mono (by omega)) hleft a haok hkv hak)
          have HNx : Hid ((s.act a).1.ok (k + 1 + 10) ∧ (s.act a).1.left ≤ 9223372036854775807 ∧ (s.act a).1.sec.length = 8) := Lib.hid ⟨(hok.act a).mono (by omega), act_left hleft a haok.a1, by rw [act_secs, hsl]⟩
          clear hok hleft hsl haok hak hkv
          go_wp2_with (go_at_call 48; (with_reducible refine HDo.out.mono ?_); rintro e w3 ⟨⟨x, y, rfl⟩, hs3⟩)
          go_roundw
          case measure => simp [intOf]; omega
          case rel =>
            obtain ⟨p3, q3, hO3⟩ := HO.out.step hs3
            exact ⟨k + 1, by omega, by go_num, Lib.hid ⟨_, p3, q3, hO3, HNx.out⟩⟩
        · obtain rfl : k = l.length := by omega
          have LC := Lib.hid (lastCalls (n := 8) (kv := .slice KA keep.length kc) (keep := keep) (tear := tear) HO.out (hok.mono (by omega)) hsl HKv.out (by omega) ht0 ht1)
          have hok2 := hok.mono (show l.length + 10 ≤ 1000000 by omega)
          have HE2 : Hid (∀ w3 sv3 wv3, One w w3 b (s.crash keep tear) sv3 wv3 → EndCalls2 b (s.crash keep tear) 8 w3) := Lib.hid fun w3 sv3 wv3 h => endCalls2 h (hok2.crash keep tear) (by rw [← hsl]; exact crashL_length _ _ _) rfl rfl
          have HFew := Lib.hid hok2.few
          have HSl := Lib.hid hsl
          clear hok hok2 hleft hsl
          go_wp2_with (first | (go_at_call 49; (with_reducible refine LC.out.secs.mono ?_); rintro e w1 ⟨A1, c1, rfl, hb1, ho1⟩) | (go_at_call 50; (with_reducible refine (LC.out.waits _ hb1).mono ?_); rintro e w2 ⟨A2, c2, rfl, hb2, ho2⟩; have hb12 := below_next hb1 hb2) | (go_at_call 51; (with_reducible refine (LC.out.crash _ hb12).mono ?_); rintro e w3 ⟨rfl, ⟨sv3, wv3, hO3⟩, ht3⟩; have EC := HE2.out w3 sv3 wv3 hO3; have hbr3 := Below.refl w3.heap.size w3) | (go_at_call 50; (with_reducible refine (EC.waits _ hbr3).mono ?_); rintro e w4 ⟨A4, c4, rfl, hb4⟩) | (go_at_call 52; (with_reducible refine (EC.dead _ hb4).mono ?_); rintro e w5 ⟨rfl, rfl⟩) | (go_at_call 49; (with_reducible refine (EC.secs _ hb4).mono ?_); rintro e w6 ⟨A6, c6, rfl, hb6, ho6⟩))
          have hbw6 : Below w.heap.size w w6 := below_next (below_next hO3.bel hb4) hb6
          have HWas : Hid (SlN w6 A1 8 s.sec) := Lib.hid (slN_row (row_below (row_below (row_tou (row_below ho1 hb2) ht3 fun k h => h) hb4) hb6) HSl.out)
          have HWs : Hid (WrAt w6 (.slice A2 s.waits.length c2) s.waits) := Lib.hid (wrAt_row (row_below (row_below (row_tou ho2 ht3 fun k h => h) hb4) hb6))
          have HNow := Lib.hid ho6
          have hfewI : (s.waits.length : Int) ≤ 1000000 := by have := HFew.out; omega
          have HBw := Lib.hid hbw6
          clear EC hbr3 hb1 hb2 hb12 hb4 hb6 ho1 ho2 ho6 ht3 hO3 hbw6
          go_loopw [13] (fun i W => ∃ k : Nat, k ≤ 8 ∧ i = .int .i64 k ∧ Hid (Below w6.heap.size w6 W)) (fun i _ => 8 - (intOf i).toNat)
          case atStart => exact ⟨0, by omega, rfl, Lib.hid (Below.refl _ _)⟩
          case round =>
            obtain ⟨k, hk, rfl, HI⟩ := hrel
            by_cases hlt2 : k < 8
            · have hk8 : (k : Int) < 8 := by omega
              obtain ⟨a1, rfl, hp1⟩ := HWas.out.below HI.out k hlt2
              obtain ⟨a6, rfl, hp6⟩ := HNow.out.below HI.out k hlt2
              go_wp2
              go_loop [14, 15] (fun v i => ∃ j : Nat, j ≤ s.waits.length ∧ i = .int .i64 j ∧ ∃ lt, v = .bool lt ∧ Hid (lateB (s.waits.take j) k = lt)) (fun _ i => s.waits.length - (intOf i).toNat)
              case atStart => exact ⟨0, by omega, rfl, false, rfl, Lib.hid rfl⟩
              case round =>
                obtain ⟨j, hj, rfl, lt, rfl, HLt⟩ := hrel
                by_cases hjl : j < s.waits.length
                · have hjI : (j : Int) < (s.waits.length : Int) := by omega
                  obtain ⟨A2', c2', hv2, hws⟩ := HWs.out.below HI.out
                  cases hv2
                  obtain ⟨g2, rfl, q0, _⟩ := hws j hjl
                  have HS := Lib.hid (lateB_snoc s.waits k j hjl)
                  obtain ⟨x, hx⟩ : ∃ x, s.waits[j] = x := ⟨_, rfl⟩
                  rw [hx] at q0 HS
                  clear hx hws
                  cases lt
                  · by_cases he : x.1 = k
                    · have HS2 : Hid (lateB (s.waits.take (j + 1)) k = true) := Lib.hid (by rw [HS.out, HLt.out, decide_eq_true he]; rfl)
                      rw [he] at q0
                      go_wp2
                      go_round
                      case measure => simp [intOf]; omega
                      case rel => exact ⟨j + 1, by omega, by go_num, true, rfl, HS2⟩
                    · have HS2 : Hid (lateB (s.waits.take (j + 1)) k = false) := Lib.hid (by rw [HS.out, HLt.out, decide_eq_false he]; rfl)
                      have heB : ((x.1 : Int) == (k : Int)) = false := by simp; omega
                      go_wp2
                      go_round
                      case measure => simp [intOf]; omega
                      case rel => exact ⟨j + 1, by omega, by go_num, false, rfl, HS2⟩
                  · have HS2 : Hid (lateB (s.waits.take (j + 1)) k = true) := Lib.hid (by rw [HS.out, HLt.out]; rfl)
                    go_wp2
                    go_round
                    case measure => simp [intOf]; omega
                    case rel => exact ⟨j + 1, by omega, by go_num, true, rfl, HS2⟩
                · obtain rfl : j = s.waits.length := by omega
                  rw [List.take_length] at HLt
                  cases lt
                  · have hsp := sure_pure s keep tear k HLt.out
                    rw [hsp] at hp6
                    generalize s.sec.getD k ByteArray.empty = Y at *
                    have hYY := str_eq (show Y = Y from rfl)
                    clear hsp
                    go_wp2
                    go_quiet (fail)
                    go_wp2
                    go_roundw
                    case measure => simp [intOf]; omega
                    case rel => exact ⟨k + 1, by omega, by go_num, Lib.hid (below_drewN HI.out _)⟩
                  · go_wp2
                    go_quiet (fail)
                    go_wp2
                    go_roundw
                    case measure => simp [intOf]; omega
                    case rel => exact ⟨k + 1, by omega, by go_num, Lib.hid (below_drewN HI.out _)⟩
            · obtain rfl : k = 8 := by omega
              go_wp2_with (go_at_call 47; (with_reducible refine (HAw.out _).mono ?_); rintro e w7 ⟨rfl, hb7⟩)
              go_ret
              exact ⟨rfl, HBw.out.trans ((below_next HI.out hb7).mono HBw.out.size)⟩
end Go.Proofs.Ytmmajdkngboecaa
