/- The law DiskTorn. -/
import Derived.Test.YtmmajdkngboecaaDiskOne
namespace Go.Proofs.Ytmmajdkngboecaa
open Go.RowKit
set_option maxRecDepth 10000

def wholeB (y1 y0 : ByteArray) (ws : List (Nat × ByteArray)) (k : Nat) : Bool := decide (y1 = y0) || ws.any fun x => decide (x.1 = k) && decide (y1 = x.2)
def beginsB (y1 : ByteArray) (tear : Int) (ws : List (Nat × ByteArray)) (k : Nat) : Bool := ws.any fun x => decide (x.1 = k) && (decide (1 ≤ tear ∧ tear < 128) && decide (y1.extract 0 tear.toNat = x.2.extract 0 tear.toNat))
theorem wholeB_snoc (y1 y0 : ByteArray) (ws : List (Nat × ByteArray)) (k i : Nat) (h : i < ws.length) : wholeB y1 y0 (ws.take (i + 1)) k = (wholeB y1 y0 (ws.take i) k || (decide (ws[i].1 = k) && decide (y1 = ws[i].2))) := by
  unfold wholeB; rw [take_succ' _ _ h, List.any_append]; simp [Bool.or_assoc]
theorem beginsB_snoc (y1 : ByteArray) (tear : Int) (ws : List (Nat × ByteArray)) (k i : Nat) (h : i < ws.length) : beginsB y1 tear (ws.take (i + 1)) k = (beginsB y1 tear (ws.take i) k || (decide (ws[i].1 = k) && (decide (1 ≤ tear ∧ tear < 128) && decide (y1.extract 0 tear.toNat = ws[i].2.extract 0 tear.toNat)))) := by
  unfold beginsB; rw [take_succ' _ _ h, List.any_append]; simp
theorem torn_pure (s : St) (hok : s.ok 1000000) (keep : List Bool) (tear : Int) : ∃ J : Nat, ∀ k, k < s.sec.length →
    wholeB ((s.crash keep tear).sec.getD k ByteArray.empty) (s.sec.getD k ByteArray.empty) s.waits k = true ∨ (k = J ∧ beginsB ((s.crash keep tear).sec.getD k ByteArray.empty) tear s.waits k = true) := by
  obtain ⟨J, hJ⟩ := crashL_at s.sec (keptL s.waits keep) tear fun x hx => hok.fits x (keptL_mem hx)
  refine ⟨J, fun k hk => ?_⟩
  have hk2 : k < (crashL s.sec (keptL s.waits keep) tear).length := by rw [crashL_length]; exact hk
  obtain ⟨y1, hy1⟩ : ∃ y1, (crashL s.sec (keptL s.waits keep) tear)[k]? = some y1 := ⟨_, List.getElem?_eq_getElem hk2⟩
  have e1 : (s.crash keep tear).sec.getD k ByteArray.empty = y1 := by
    rw [List.getD_eq_getElem?_getD]
    show ((crashL s.sec (keptL s.waits keep) tear)[k]?).getD _ = _
    rw [hy1]; rfl
  rw [e1]
  rcases hJ k y1 hy1 with (h1 | ⟨x, hx, h2, h3⟩) | ⟨h1, x, hx, h2, h3, h4, h5⟩
  · left
    unfold wholeB
    rw [List.getD_eq_getElem?_getD, h1]
    simp
  · left
    unfold wholeB
    rw [Bool.or_eq_true]
    right
    exact List.any_eq_true.2 ⟨x, keptL_mem hx, by simp [h2, h3]⟩
  · right
    refine ⟨h1, List.any_eq_true.2 ⟨x, keptL_mem hx, by simp [h2, h3, h4, h5]⟩⟩
theorem beq_dec (a b : ByteArray) : (a.toList == b.toList) = decide (a = b) := by
  by_cases h : a = b
  · rw [str_eq h, decide_eq_true h]
  · rw [str_ne h, decide_eq_false h]
set_option maxHeartbeats 4000000 in
theorem diskTorn_walk (v : Value) (l : List Ac) (kv : Value) (keep : List Bool) (tear : Int) (w : World) (hl : ActsAt w v l ∧ (∀ a ∈ l, a.ok ∧ a.keep.length ≤ maxLen) ∧ l.length ≤ maxLen) (hkv : Sl Value.bool w kv keep ∧ keep.length ≤ maxLen) (ht : (Lit.int .i64 tear).wf = true) :
    Calls Try.prog 11 #[v, kv, .int .i64 tear] w fun e w' => e = .returned (.bool true) ∧ Below w.heap.size w w' := by
  obtain ⟨hs, hfit, hlm⟩ := hl
  obtain ⟨hkv, hkm⟩ := hkv
  unfold maxLen at hlm hfit hkm
  obtain ⟨ht0, ht1⟩ := wf_i64 ht
  have HF : Hid (∀ W, Below w.heap.size w W → Calls Try.prog 46 #[v, .int .i64 20] W fun e w' => e = .returned (.bool (fewB l 20)) ∧ W = w') := Lib.hid fun W hb => few_any v l 20 W (hs.below hb) hlm (fun a ha => (hfit a ha).2) (by omega)
  have HAw := Lib.hid awake_any
  have HA := Lib.hid hs
  have HFit := Lib.hid hfit
  have HKv := Lib.hid hkv
  obtain ⟨A, c, rfl, _⟩ := hs
  obtain ⟨KA, kc, rfl, _⟩ := hkv
  have hlI : (l.length : Int) ≤ 9223372036854775807 := by omega
  have hkI : (keep.length : Int) ≤ 9223372036854775807 := by omega
  clear hfit ht
  have HN : Hid (Calls Try.prog 45 #[.int .i64 4] w (NewDisk w (newSt 4))) := Lib.hid (new_any 4 w (by omega) (by omega))
  obtain ⟨fb, hfb⟩ : ∃ fb, fewB l 20 = fb := ⟨_, rfl⟩
  rw [hfb] at HF
  have HFb := Lib.hid hfb
  clear hfb
  cases fb
  · go_enter Try.func11, Try.ntmps11
    go_wp2_with (first | (go_at_call 45; (with_reducible refine HN.out.mono ?_); rintro e w2 ⟨b, sv, wv, rfl, hd, hf, hb⟩) | (go_at_call 46; (with_reducible refine (HF.out _ hb).mono ?_); rintro e w3 ⟨rfl, rfl⟩) | (go_at_call 47; (with_reducible refine (HAw.out _).mono ?_); rintro e w4 ⟨rfl, hb4⟩))
    go_ret
    exact ⟨rfl, below_next hb hb4⟩
  · by_cases hk100 : 100 < keep.length
    · have hk100I : 100 < (keep.length : Int) := by omega
      go_enter Try.func11, Try.ntmps11
      go_wp2_with (first | (go_at_call 45; (with_reducible refine HN.out.mono ?_); rintro e w2 ⟨b, sv, wv, rfl, hd, hf, hb⟩) | (go_at_call 46; (with_reducible refine (HF.out _ hb).mono ?_); rintro e w3 ⟨rfl, rfl⟩) | (go_at_call 47; (with_reducible refine (HAw.out _).mono ?_); rintro e w4 ⟨rfl, hb4⟩))
      go_ret
      exact ⟨rfl, below_next hb hb4⟩
    · have hk100I : (keep.length : Int) ≤ 100 := by omega
      obtain ⟨hl20, hkeep⟩ := fewB_true HFb.out
      have HKp := Lib.hid hkeep
      clear hkeep
      go_enter Try.func11, Try.ntmps11
      go_wp2_with (first | (go_at_call 45; (with_reducible refine HN.out.mono ?_); rintro e w2 ⟨b, sv, wv, rfl, hd, hf, hb⟩) | (go_at_call 46; (with_reducible refine (HF.out _ hb).mono ?_); rintro e w3 ⟨rfl, rfl⟩))
      go_loopw [9] (fun i W => ∃ k : Nat, k ≤ l.length ∧ i = .int .i64 k ∧ Hid (∃ s p q, One w W b s p q ∧ s.ok (k + 10) ∧ s.left ≤ 9223372036854775807 ∧ s.sec.length = 4)) (fun i _ => l.length - (intOf i).toNat)
      case atStart => exact ⟨0, by omega, rfl, Lib.hid ⟨newSt 4, sv, wv, ⟨hd, hf, hb⟩, newSt_ok 4 _ (by omega) (by omega), by simp [newSt], by simp [newSt]⟩⟩
      case round =>
        obtain ⟨k, hk, rfl, HE⟩ := hrel
        obtain ⟨s, p, q, hO, hok, hleft, hsl⟩ := HE.out
        have HO := Lib.hid hO
        clear HE hO
        by_cases hlt : k < l.length
        · have hltI : (k : Int) < (l.length : Int) := by omega
          obtain ⟨A', c', hv', hcells⟩ := HA.out
          cases hv'
          obtain ⟨bk, off, akv, rfl, y0, y1, y2, y3, y4, hkv⟩ := hcells k hlt
          clear hcells
          have haok := (HFit.out _ (List.getElem_mem hlt)).1
          have hak := HKp.out _ (List.getElem_mem hlt)
          obtain ⟨a, hae⟩ : ∃ a, l[k] = a := ⟨_, rfl⟩
          rw [hae] at y0 y1 y2 y3 hkv haok hak
          clear hae
          replace y0 := (HO.out.bel.cell (p := ⟨bk, off + k * 5, none⟩) (block_lt y0)).trans y0
          replace y1 := (HO.out.bel.cell (p := ⟨bk, off + k * 5 + 1, none⟩) (block_lt y1)).trans y1
          replace y2 := (HO.out.bel.cell (p := ⟨bk, off + k * 5 + 2, none⟩) (block_lt y2)).trans y2
          replace y3 := (HO.out.bel.cell (p := ⟨bk, off + k * 5 + 3, none⟩) (block_lt y3)).trans y3
          replace y4 := (HO.out.bel.cell (p := ⟨bk, off + k * 5 + 4, none⟩) (block_lt y4)).trans y4
          have HDo := Lib.hid (one_do HO.out (hok.mono (by omega)) hleft a haok hkv hak)
          have HNx : Hid ((s.act a).1.ok (k + 1 + 10) ∧ (s.act a).1.left ≤ 9223372036854775807 ∧ (s.act a).1.sec.length = 4) := Lib.hid ⟨(hok.act a).mono (by omega), act_left hleft a haok.a1, by rw [act_secs, hsl]⟩
          clear hok hleft hsl haok hak hkv
          go_wp2_with (go_at_call 48; (with_reducible refine HDo.out.mono ?_); rintro e w3 ⟨⟨x, y, rfl⟩, hs3⟩)
          go_roundw
          case measure => simp [intOf]; omega
          case rel =>
            obtain ⟨p3, q3, hO3⟩ := HO.out.step hs3
            exact ⟨k + 1, by omega, by go_num, Lib.hid ⟨_, p3, q3, hO3, HNx.out⟩⟩
        · obtain rfl : k = l.length := by omega
          have LC := Lib.hid (lastCalls (n := 4) (kv := .slice KA keep.length kc) (keep := keep) (tear := tear) HO.out (hok.mono (by omega)) hsl HKv.out (by omega) ht0 ht1)
          have hok2 := hok.mono (show l.length + 10 ≤ 1000000 by omega)
          have hok2b := hok2
          have HE2 : Hid (∀ w3 sv3 wv3, One w w3 b (s.crash keep tear) sv3 wv3 → EndCalls2 b (s.crash keep tear) 4 w3) := Lib.hid fun w3 sv3 wv3 h => endCalls2 h (hok2.crash keep tear) (by rw [← hsl]; exact crashL_length _ _ _) rfl rfl
          have HFew := Lib.hid hok2.few
          have HSl := Lib.hid hsl
          clear hok hok2 hleft hsl
          have HFits := Lib.hid hok2b.fits
          have HFull2 := Lib.hid (hok2b.crash keep tear).full
          have HTp := Lib.hid (torn_pure s hok2b keep tear)
          clear hok2b
          go_wp2_with (first | (go_at_call 49; (with_reducible refine LC.out.secs.mono ?_); rintro e w1 ⟨A1, c1, rfl, hb1, ho1⟩) | (go_at_call 50; (with_reducible refine (LC.out.waits _ hb1).mono ?_); rintro e w2 ⟨A2, c2, rfl, hb2, ho2⟩; have hb12 := below_next hb1 hb2) | (go_at_call 51; (with_reducible refine (LC.out.crash _ hb12).mono ?_); rintro e w3 ⟨rfl, ⟨sv3, wv3, hO3⟩, ht3⟩; have EC := HE2.out w3 sv3 wv3 hO3; have hbr3 := Below.refl w3.heap.size w3) | (go_at_call 49; (with_reducible refine (EC.secs _ hbr3).mono ?_); rintro e w6 ⟨A6, c6, rfl, hb6, ho6⟩))
          have hbw6 : Below w.heap.size w w6 := below_next hO3.bel hb6
          have HWas : Hid (SlN w6 A1 4 s.sec) := Lib.hid (slN_row (row_below (row_tou (row_below ho1 hb2) ht3 fun k h => h) hb6) HSl.out)
          have HWs : Hid (WrAt w6 (.slice A2 s.waits.length c2) s.waits) := Lib.hid (wrAt_row (row_below (row_tou ho2 ht3 fun k h => h) hb6))
          have HNow := Lib.hid ho6
          have hfewI : (s.waits.length : Int) ≤ 1000000 := by have := HFew.out; omega
          have HBw := Lib.hid hbw6
          obtain ⟨J, hJ⟩ := HTp.out
          have HJ := Lib.hid hJ
          clear EC hbr3 hb1 hb2 hb12 hb6 ho1 ho2 ho6 ht3 hO3 hbw6 hJ HTp
          go_loopw [13, 14] (fun o i W => ∃ k : Nat, k ≤ 4 ∧ i = .int .i64 k ∧ ∃ m : Nat, o = .int .i64 m ∧ m ≤ 1 ∧ (k ≤ J → m = 0) ∧ Hid (Below w6.heap.size w6 W)) (fun _ i _ => 4 - (intOf i).toNat)
          case atStart => exact ⟨0, by omega, rfl, 0, rfl, by omega, fun _ => rfl, Lib.hid (Below.refl _ _)⟩
          case round =>
            obtain ⟨k, hk, rfl, m, rfl, hm1, hmJ, HI⟩ := hrel
            by_cases hlt2 : k < 4
            · have hk4 : (k : Int) < 4 := by omega
              obtain ⟨a1, rfl, hp1⟩ := HWas.out.below HI.out k hlt2
              obtain ⟨a6, rfl, hp6⟩ := HNow.out.below HI.out k hlt2
              have HP6 : Hid (∀ W, Below w6.heap.size w6 W → W.cell? (a6.add k) = some (.string ((s.crash keep tear).sec.getD k ByteArray.empty))) := Lib.hid fun W hb => by
                obtain ⟨a6', ha, h⟩ := HNow.out.below hb k hlt2
                cases ha; exact h
              have hJk := HJ.out k (by rw [HSl.out]; exact hlt2)
              have hy1 : ((s.crash keep tear).sec.getD k ByteArray.empty).size = 128 := by
                have hkl : k < (s.crash keep tear).sec.length := by show k < (crashL _ _ _).length; rw [crashL_length, HSl.out]; exact hlt2
                rw [List.getD_eq_getElem?_getD, List.getElem?_eq_getElem hkl]
                exact HFull2.out _ (List.getElem_mem hkl)
              obtain ⟨y1, he1⟩ : ∃ y1, (s.crash keep tear).sec.getD k ByteArray.empty = y1 := ⟨_, rfl⟩
              obtain ⟨y0, he0⟩ : ∃ y0, s.sec.getD k ByteArray.empty = y0 := ⟨_, rfl⟩
              rw [he1] at hp6 HP6 hJk hy1
              rw [he0] at hp1 hJk
              have HJk := Lib.hid hJk
              clear he1 he0 hJk
              have hb0 := beq_dec y1 y0
              have HW0 : Hid (wholeB y1 y0 [] k = decide (y1 = y0)) := Lib.hid (by unfold wholeB; simp)
              generalize decide (y1 = y0) = d0 at *
              have hyT : (y1.size : Int) = 128 := by omega
              have HyT := Lib.hid hyT
              clear hy1 hyT
              go_wp2
              go_quiet (fail)
              go_wp2
              go_loopw [15, 16, 17] (fun wv bv i W => ∃ j : Nat, j ≤ s.waits.length ∧ i = .int .i64 j ∧ ∃ wb bb, wv = .bool wb ∧ bv = .bool bb ∧ Hid (wholeB y1 y0 (s.waits.take j) k = wb ∧ beginsB y1 tear (s.waits.take j) k = bb ∧ Below w6.heap.size w6 W)) (fun _ _ i _ => s.waits.length - (intOf i).toNat)
              case atStart => exact ⟨0, by omega, rfl, d0, false, rfl, rfl, Lib.hid ⟨HW0.out, rfl, below_drewN HI.out _⟩⟩
              case round =>
                obtain ⟨j, hj, rfl, wb, bb, rfl, rfl, HL⟩ := hrel
                by_cases hjl : j < s.waits.length
                · have hjI : (j : Int) < (s.waits.length : Int) := by omega
                  obtain ⟨A2', c2', hv2, hws⟩ := HWs.out.below HL.out.2.2
                  cases hv2
                  obtain ⟨g2, rfl, q0, q1⟩ := hws j hjl
                  have HS1 := Lib.hid (wholeB_snoc y1 y0 s.waits k j hjl)
                  have HS2 := Lib.hid (beginsB_snoc y1 tear s.waits k j hjl)
                  have hxs := (HFits.out _ (List.getElem_mem hjl)).2
                  obtain ⟨x, hx⟩ : ∃ x, s.waits[j] = x := ⟨_, rfl⟩
                  rw [hx] at q0 q1 HS1 HS2 hxs
                  rw [HL.out.1] at HS1
                  rw [HL.out.2.1] at HS2
                  have HBa : Hid (Below w6.heap.size w6 (wr.alloc (.cells #[.int .i64 (x.1 : Int), .string x.2] 71))) := Lib.hid (below_next HL.out.2.2 (below_new _ _))
                  clear hx hws
                  by_cases he : x.1 = k
                  · obtain ⟨x1, x2⟩ := x
                    simp only at he q0 q1 HS1 HS2 hxs HBa
                    subst he
                    rw [decide_eq_true (rfl : x1 = x1), Bool.true_and] at HS1
                    have hbx := beq_dec y1 x2
                    generalize decide (y1 = x2) = eb at *
                    have n1 : (wr.alloc (.cells #[.int .i64 (x1 : Int), .string x2] 71)).cell? ⟨wr.heap.size, 1, none⟩ = some (.string x2) := by rw [World.cell?_alloc_new]; rfl
                    have n0 : (wr.alloc (.cells #[.int .i64 (x1 : Int), .string x2] 71)).cell? ⟨wr.heap.size, 0, none⟩ = some (.int .i64 (x1 : Int)) := by rw [World.cell?_alloc_new]; rfl
                    have p6 := HP6.out _ HBa.out
                    go_wp2
                    obtain ⟨W1, hW1⟩ : ∃ W1, wr.alloc (.cells #[.int .i64 (x1 : Int), .string x2] 71) = W1 := ⟨_, rfl⟩
                    rw [hW1] at n1 n0 p6 HBa ⊢
                    clear hW1
                    cases wb
                    · rw [Bool.false_or] at HS1
                      go_quiet (fail)
                      go_wp2
                      cases bb
                      · rcases (show tear < 1 ∨ (1 ≤ tear ∧ 128 ≤ tear) ∨ (1 ≤ tear ∧ tear < 128) by omega) with ht | ⟨ht, ht2⟩ | ⟨ht, ht2⟩
                        · have HS2' : Hid (beginsB y1 tear (s.waits.take (j + 1)) x1 = false) := Lib.hid (by rw [HS2.out, decide_eq_false (show ¬ (1 ≤ tear ∧ tear < 128) by omega)]; simp)
                          have hd1 : decide (1 ≤ tear) = false := decide_eq_false (by omega)
                          go_quiet (fail)
                          go_wp2
                          go_roundw
                          case measure => simp [intOf]; omega
                          case rel => exact ⟨j + 1, by omega, by go_num, eb, false, rfl, rfl, Lib.hid ⟨HS1.out, HS2'.out, below_drewN HBa.out _⟩⟩
                        · have HS2' : Hid (beginsB y1 tear (s.waits.take (j + 1)) x1 = false) := Lib.hid (by rw [HS2.out, decide_eq_false (show ¬ (1 ≤ tear ∧ tear < 128) by omega)]; simp)
                          have hd1 : decide (1 ≤ tear) = true := decide_eq_true ht
                          have hd2 : decide (tear < 128) = false := decide_eq_false (by omega)
                          go_quiet (fail)
                          go_wp2
                          go_roundw
                          case measure => simp [intOf]; omega
                          case rel => exact ⟨j + 1, by omega, by go_num, eb, false, rfl, rfl, Lib.hid ⟨HS1.out, HS2'.out, below_drewN HBa.out _⟩⟩
                        · obtain ⟨T, hT⟩ : ∃ T : Nat, tear = (T : Int) := ⟨tear.toNat, by omega⟩
                          subst hT
                          have hT1 : (T : Int) ≤ (y1.size : Int) := by have := HyT.out; omega
                          have hT2 : (T : Int) ≤ (x2.size : Int) := by omega
                          have hpb := beq_dec (y1.extract 0 T) (x2.extract 0 T)
                          have HS2' : Hid (beginsB y1 T (s.waits.take (j + 1)) x1 = decide (y1.extract 0 T = x2.extract 0 T)) := Lib.hid (by rw [HS2.out, decide_eq_true (show 1 ≤ (T : Int) ∧ (T : Int) < 128 by omega)]; simp)
                          generalize decide (y1.extract 0 T = x2.extract 0 T) = pb at *
                          go_quiet (fail)
                          go_wp2
                          go_roundw
                          case measure => simp [intOf]; omega
                          case rel => exact ⟨j + 1, by omega, by go_num, eb, pb, rfl, rfl, Lib.hid ⟨HS1.out, HS2'.out, below_drewN HBa.out _⟩⟩
                      · have HS2' : Hid (beginsB y1 tear (s.waits.take (j + 1)) x1 = true) := Lib.hid (by rw [HS2.out]; rfl)
                        go_quiet (fail)
                        go_wp2
                        go_roundw
                        case measure => simp [intOf]; omega
                        case rel => exact ⟨j + 1, by omega, by go_num, eb, true, rfl, rfl, Lib.hid ⟨HS1.out, HS2'.out, below_drewN HBa.out _⟩⟩
                    · rw [Bool.true_or] at HS1
                      go_quiet (fail)
                      go_wp2
                      cases bb
                      · rcases (show tear < 1 ∨ (1 ≤ tear ∧ 128 ≤ tear) ∨ (1 ≤ tear ∧ tear < 128) by omega) with ht | ⟨ht, ht2⟩ | ⟨ht, ht2⟩
                        · have HS2' : Hid (beginsB y1 tear (s.waits.take (j + 1)) x1 = false) := Lib.hid (by rw [HS2.out, decide_eq_false (show ¬ (1 ≤ tear ∧ tear < 128) by omega)]; simp)
                          have hd1 : decide (1 ≤ tear) = false := decide_eq_false (by omega)
                          go_quiet (fail)
                          go_wp2
                          go_roundw
                          case measure => simp [intOf]; omega
                          case rel => exact ⟨j + 1, by omega, by go_num, true, false, rfl, rfl, Lib.hid ⟨HS1.out, HS2'.out, below_drewN HBa.out _⟩⟩
                        · have HS2' : Hid (beginsB y1 tear (s.waits.take (j + 1)) x1 = false) := Lib.hid (by rw [HS2.out, decide_eq_false (show ¬ (1 ≤ tear ∧ tear < 128) by omega)]; simp)
                          have hd1 : decide (1 ≤ tear) = true := decide_eq_true ht
                          have hd2 : decide (tear < 128) = false := decide_eq_false (by omega)
                          go_quiet (fail)
                          go_wp2
                          go_roundw
                          case measure => simp [intOf]; omega
                          case rel => exact ⟨j + 1, by omega, by go_num, true, false, rfl, rfl, Lib.hid ⟨HS1.out, HS2'.out, below_drewN HBa.out _⟩⟩
                        · obtain ⟨T, hT⟩ : ∃ T : Nat, tear = (T : Int) := ⟨tear.toNat, by omega⟩
                          subst hT
                          have hT1 : (T : Int) ≤ (y1.size : Int) := by have := HyT.out; omega
                          have hT2 : (T : Int) ≤ (x2.size : Int) := by omega
                          have hpb := beq_dec (y1.extract 0 T) (x2.extract 0 T)
                          have HS2' : Hid (beginsB y1 T (s.waits.take (j + 1)) x1 = decide (y1.extract 0 T = x2.extract 0 T)) := Lib.hid (by rw [HS2.out, decide_eq_true (show 1 ≤ (T : Int) ∧ (T : Int) < 128 by omega)]; simp)
                          generalize decide (y1.extract 0 T = x2.extract 0 T) = pb at *
                          go_quiet (fail)
                          go_wp2
                          go_roundw
                          case measure => simp [intOf]; omega
                          case rel => exact ⟨j + 1, by omega, by go_num, true, pb, rfl, rfl, Lib.hid ⟨HS1.out, HS2'.out, below_drewN HBa.out _⟩⟩
                      · have HS2' : Hid (beginsB y1 tear (s.waits.take (j + 1)) x1 = true) := Lib.hid (by rw [HS2.out]; rfl)
                        go_quiet (fail)
                        go_wp2
                        go_roundw
                        case measure => simp [intOf]; omega
                        case rel => exact ⟨j + 1, by omega, by go_num, true, true, rfl, rfl, Lib.hid ⟨HS1.out, HS2'.out, below_drewN HBa.out _⟩⟩
                  · have HS1' : Hid (wholeB y1 y0 (s.waits.take (j + 1)) k = wb) := Lib.hid (by rw [HS1.out, decide_eq_false he]; simp)
                    have HS2' : Hid (beginsB y1 tear (s.waits.take (j + 1)) k = bb) := Lib.hid (by rw [HS2.out, decide_eq_false he]; simp)
                    have heB : ((x.1 : Int) != (k : Int)) = true := by simp; omega
                    go_wp2
                    go_roundw
                    case measure => simp [intOf]; omega
                    case rel => exact ⟨j + 1, by omega, by go_num, wb, bb, rfl, rfl, Lib.hid ⟨HS1'.out, HS2'.out, HBa.out⟩⟩
                · obtain rfl : j = s.waits.length := by omega
                  rw [List.take_length] at HL
                  cases wb
                  · have hJ2 : k = J ∧ beginsB y1 tear s.waits k = true := by
                      rcases HJk.out with h | h
                      · rw [HL.out.1] at h; cases h
                      · exact h
                    have hm0 := hmJ (by omega)
                    subst hm0
                    cases bb
                    · have := HL.out.2.1; rw [hJ2.2] at this; cases this
                    · have hkJ := hJ2.1
                      clear hJ2
                      go_wp2
                      go_roundw
                      case measure => simp [intOf]; omega
                      case rel => exact ⟨k + 1, by omega, by go_num, 1, by first | rfl | go_num, by omega, fun h => by omega, Lib.hid HL.out.2.2⟩
                  · go_wp2
                    go_roundw
                    case measure => simp [intOf]; omega
                    case rel => exact ⟨k + 1, by omega, by go_num, m, rfl, hm1, fun h => hmJ (by omega), Lib.hid HL.out.2.2⟩
            · obtain rfl : k = 4 := by omega
              have hmI : (m : Int) ≤ 1 := by omega
              go_wp2_with (go_at_call 47; (with_reducible refine (HAw.out _).mono ?_); rintro e w7 ⟨rfl, hb7⟩)
              go_ret
              exact ⟨rfl, HBw.out.trans ((below_next HI.out hb7).mono HBw.out.size)⟩
end Go.Proofs.Ytmmajdkngboecaa
