/- The walk of the document's disk's Crash. -/
import Derived.Test.YtoojdknfommpbaaDoorDiskRef2
import Derived.Deep.RegionHeld3
namespace Go.Proofs.YtoojdknfommpbaaDoor
open Go.RowKit
set_option maxRecDepth 10000

theorem below_from_drewN {B n : Nat} {w W : World} (h : Below B (w.drewN n) W) : Below B w W := ⟨h.os, h.tape, h.output, h.size, h.block⟩
theorem kept_at (ws : List (Nat × ByteArray)) (keep : List Bool) (k : Nat) (hk : k < ws.length) (hb : keep[k]? = some true) : (keptL ws keep)[(keptL (ws.take k) keep).length]? = some ws[k] := by
  induction ws generalizing k keep with
  | nil => simp at hk
  | cons w ws ih =>
    cases keep with
    | nil => simp at hb
    | cons b keep =>
      cases k with
      | zero =>
        have : b = true := by simpa using hb
        subst this
        simp [keptL]
      | succ k =>
        have h := ih keep k (by simpa using hk) (by simpa using hb)
        unfold keptL at h ⊢
        cases b <;> simpa using h
set_option maxHeartbeats 4000000 in
theorem rcrash_any (w : World) (b : Nat) (s : St) (sv wv kv : Value) (keep : List Bool) (tear : Int) (h : RefAt w b s sv wv) (hok : s.ok 1000000) (hk : Sl Value.bool w kv keep) (hkl : keep.length ≤ 1000000)
    (hkF : ∀ a n c, kv = .slice (some a) n c → 0 < n → ¬ Foot b sv wv a.block) (ht0 : -9223372036854775808 ≤ tear) (ht1 : tear ≤ 9223372036854775807) :
    Calls Tryd.prog 94 #[.pointer (some ⟨b, 0, none⟩), kv, .int .i64 tear] w fun e w' => e = .returned (.tuple #[]) ∧ RStep w b sv wv (s.crash keep tear) w' := by
  have hlen : s.sec.length ≤ 512 := hok.most
  have hlen2 : 2 ≤ s.sec.length := hok.two
  have hfew := hok.few
  obtain ⟨A2, c2, rfl, hc2⟩ := sl_form h.rows.wai
  have HS : Hid (RSecAt w w b s sv (.slice A2 s.waits.length c2) sv s.sec) := Lib.hid ⟨h.five, h.rows.sec, h.rows.wai, Tou.refl _ _, h.rows.fs, h.rows.fw, h.rows.ap, fun k hk => .inl hk⟩
  have c1 := h.five.c1
  have hwI : (s.waits.length : Int) ≤ 1000000 := by omega
  have hmI : (keep.length : Int) ≤ 1000000 := by omega
  obtain ⟨K, kc, rfl, _, hkeep⟩ := hk
  have HK := Lib.hid hkeep
  have HKF := Lib.hid fun (a : Addr) (ha : K = some a) (hp : 0 < keep.length) => hkF a keep.length kc (by rw [ha]) hp
  clear hkF
  have HFull := Lib.hid hok.full
  have HFits := Lib.hid hok.fits
  clear h hkeep hok
  obtain ⟨m, hm⟩ : ∃ m, min s.waits.length keep.length = m := ⟨_, rfl⟩
  have hm1 : m ≤ s.waits.length := by omega
  have hm2 : m ≤ keep.length := by omega
  have HM := Lib.hid hm
  clear hm
  go_enter Tryd.func94, Tryd.ntmps94
  go_wp2
  go_loop [6, 7] (fun v i => ∃ k : Nat, k ≤ m ∧ i = .int .i64 k ∧ v = .int .i64 (lastK keep k)) (fun _ i => m - (intOf i).toNat)
  case atStart => exact ⟨0, by omega, rfl, rfl⟩
  case round =>
    obtain ⟨k, hk, rfl, rfl⟩ := hrel
    by_cases hlt : k < m
    · have hkI : (k : Int) < (s.waits.length : Int) := by omega
      have hkJ : (k : Int) < (keep.length : Int) := by omega
      obtain ⟨a, rfl, hcell⟩ := HK.out k (by omega)
      have HL : Hid (lastK keep (k + 1) = if keep[k]? = some true then (k : Int) else lastK keep k) := Lib.hid rfl
      rw [List.getElem?_eq_getElem (show k < keep.length by omega)] at HL
      generalize keep[k] = kb at *
      cases kb
      · go_wp2
        go_round
        case measure => simp [intOf]; omega
        case rel => exact ⟨k + 1, by omega, by go_num, by rw [HL.out, if_neg (by decide)]⟩
      · go_wp2
        go_round
        case measure => simp [intOf]; omega
        case rel => exact ⟨k + 1, by omega, by go_num, by rw [HL.out, if_pos rfl]⟩
    · obtain rfl : k = m := by omega
      have hlk := lastK_lt keep k
      obtain ⟨ls, hls⟩ : ∃ ls, lastK keep k = ls := ⟨_, rfl⟩
      have HIs : Hid (∀ j : Nat, j < k → keep[j]? = some true → (ls = (j : Int) ↔ (keptL (s.waits.take j) keep).length + 1 = (keptL s.waits keep).length)) := Lib.hid fun j hj hb => by
        rw [← hls, lastK_is s.waits keep k j hm1 hj hb]
        rw [keptL_short s.waits keep, HM.out]
      rw [hls] at hlk ⊢
      clear hls hlt hk
      obtain ⟨hlk1, hlk2⟩ := hlk
      obtain ⟨kept, hkept⟩ : ∃ kept, keptL s.waits keep = kept := ⟨_, rfl⟩
      rw [hkept] at HIs
      have HKp := Lib.hid hkept
      clear hkept
      rcases (show (s.waits.length : Int) ≤ (k : Int) ∨ ((k : Int) < (s.waits.length : Int) ∧ (keep.length : Int) ≤ (k : Int)) by have := HM.out; omega) with hend | ⟨hend, hend2⟩
      all_goals
        go_wp2
        go_loopw [8] (fun i W => ∃ j : Nat, j ≤ k ∧ i = .int .i64 j ∧ Hid (∃ sv1, RSecAt w W b s sv (.slice A2 s.waits.length c2) sv1 (crashTo s.sec kept tear (keptL (s.waits.take j) keep).length))) (fun i _ => k - (intOf i).toNat)
        case atStart => exact ⟨0, by omega, rfl, Lib.hid ⟨sv, by rw [List.take_zero]; show RSecAt w w b s sv (.slice A2 s.waits.length c2) sv (crashTo s.sec kept tear 0); rw [crashTo_zero]; exact HS.out⟩⟩
        case round =>
          obtain ⟨j, hj, rfl, HE⟩ := hrel
          obtain ⟨sv1, hI⟩ := HE.out
          have HI := Lib.hid hI
          clear HE hI
          have b1 := HI.out.five.c1
          by_cases hlt : j < k
          · have hjI : (j : Int) < (s.waits.length : Int) := by omega
            have hjJ : (j : Int) < (keep.length : Int) := by omega
            obtain ⟨a, rfl, hcell0⟩ := HK.out j (by omega)
            have hcell := (World.cell?_of_block (HI.out.tou.block _ (block_lt hcell0) (by rw [add_block]; exact HKF.out a rfl (by omega)))).trans hcell0
            clear hcell0
            have hsn := keptL_snoc s.waits keep j (by omega)
            have hka := kept_at s.waits keep j (by omega)
            have hIs := HIs.out j hlt
            rw [List.getElem?_eq_getElem (show j < keep.length by omega)] at hsn hka hIs
            generalize keep[j] = kb at *
            cases kb
            · have HSn : Hid (keptL (s.waits.take (j + 1)) keep = keptL (s.waits.take j) keep) := Lib.hid (by rw [hsn, if_neg (by decide), List.append_nil])
              clear hsn hka hIs
              go_wp2
              go_roundw
              case measure => simp [intOf]; omega
              case rel => exact ⟨j + 1, by omega, by go_num, Lib.hid ⟨sv1, by rw [HSn.out]; exact HI.out⟩⟩
            · have hka2 := hka rfl
              rw [HKp.out] at hka2
              have hI2 := hIs rfl
              rw [if_pos rfl] at hsn
              clear hka hIs
              obtain ⟨g2, rfl⟩ : ∃ g2, A2 = some ⟨g2, 0, none⟩ := by
                obtain ⟨g, c, he, _⟩ := World.ownsRow.form HI.out.wai (by omega)
                simp only [Value.slice.injEq] at he
                exact ⟨g, he.1⟩
              obtain ⟨g1, c1', rfl, _⟩ := World.ownsRow.form HI.out.sec (by omega)
              have q0 := own_at HI.out.wai (j * 2) _ (by rw [Nat.mul_comm]; exact (wcells_at s.waits j (by omega)).1)
              have q1 := own_at HI.out.wai (j * 2 + 1) _ (by rw [Nat.mul_comm]; exact (wcells_at s.waits j (by omega)).2)
              have hx := HFits.out _ (List.getElem_mem (show j < s.waits.length by omega))
              obtain ⟨x, hxe⟩ : ∃ x, s.waits[j] = x := ⟨_, rfl⟩
              rw [hxe] at q0 q1 hx hka2 hsn
              clear hxe
              obtain ⟨c, hc⟩ : ∃ c, (keptL (s.waits.take j) keep).length = c := ⟨_, rfl⟩
              have HSn : Hid ((keptL (s.waits.take (j + 1)) keep).length = c + 1) := Lib.hid (by rw [hsn, List.length_append, hc]; rfl)
              rw [hc] at HI hka2 hI2
              clear hc hsn
              obtain ⟨hcl, hkx⟩ := List.getElem?_eq_some_iff.1 hka2
              have HT := Lib.hid (crashTo_succ s.sec kept tear c hcl)
              rw [hkx] at HT
              have hLl : (crashTo s.sec kept tear c).length = s.sec.length := crashTo_length _ _ _ _
              have hLf := full_crashTo s.sec kept tear c HFull.out (by intro y hy; exact HFits.out y (keptL_mem (by rw [HKp.out]; exact hy)))
              obtain ⟨L, hL⟩ : ∃ L, crashTo s.sec kept tear c = L := ⟨_, rfl⟩
              rw [hL] at HI HT hLl hLf
              clear hL hka2 hkx
              have b0 := HI.out.five.c0
              have hx1 : x.1 < L.length := by rw [hLl]; exact hx.1
              have hxI : (x.1 : Int) < (s.sec.length : Int) := by omega
              have HC : Hid (∀ y W0, Below wr.heap.size wr W0 → Calls Tryd.prog 116 #[.slice (some ⟨g1, 0, none⟩) s.sec.length c1', .int .i64 (x.1 : Int), .string y] W0 fun e w' =>
                  ∃ v', e = .returned v' ∧ w'.ownsRow W0.heap.size 9 1 v' s.sec.length ((L.set x.1 y).map Value.string) ∧ Below W0.heap.size W0 w') := Lib.hid fun y W0 hb => by
                have := with_any W0 (.slice (some ⟨g1, 0, none⟩) s.sec.length c1') L x.1 y (by rw [hLl]; exact own_block HI.out.sec fun k hk => hb.block k (World.ownsRow.lt HI.out.sec k hk).2) (by omega) (by omega)
                rw [hLl] at this
                exact this
              have hgb : g2 ≠ b := fun e => HI.out.fw (by subst e; rfl)
              have HSt : Hid (∀ w3, Below wr.heap.size wr w3 → (w3.cell? ⟨b, 0, none⟩ = some (.slice (some ⟨g1, 0, none⟩) s.sec.length c1') ∧ w3.frozen? ⟨b, 0, none⟩ = false) ∧
                  (w3.cell? ⟨b, 1, none⟩ = some (.slice (some ⟨g2, 0, none⟩) s.waits.length c2) ∧ w3.cell? ⟨g2, j * 2, none⟩ = some (.int .i64 (x.1 : Int))) ∧
                  ∀ v, (w3.setCell ⟨b, 0, none⟩ v).cell? ⟨b, 1, none⟩ = some (.slice (some ⟨g2, 0, none⟩) s.waits.length c2) ∧ (w3.setCell ⟨b, 0, none⟩ v).cell? ⟨g2, j * 2, none⟩ = some (.int .i64 (x.1 : Int))) := Lib.hid fun w3 hb =>
                ⟨⟨cell_below hb b0, (HI.out.five.below hb).fz 0⟩, ⟨cell_below hb b1, cell_below hb q0⟩, fun v =>
                  ⟨(World.cell?_setCell_other _ _ _ _ (by simp)).trans (cell_below hb b1), (World.cell?_setCell_other _ _ _ _ (by simp only [ne_eq, Addr.mk.injEq]; omega)).trans (cell_below hb q0)⟩⟩
              have hbr := Below.refl wr.heap.size wr
              by_cases htorn : ls = (j : Int) ∧ 0 < tear ∧ tear < 128
              · obtain ⟨h1, hT0, hT1⟩ := htorn
                have hk1 := hI2.1 h1
                subst h1
                obtain ⟨T, rfl⟩ : ∃ T : Nat, tear = (T : Int) := ⟨tear.toNat, by omega⟩
                obtain ⟨old, hold⟩ : ∃ old, L[x.1] = old := ⟨_, rfl⟩
                have hos : old.size = 128 := by rw [← hold]; exact hLf _ (List.getElem_mem hx1)
                have hoI : (T : Int) ≤ (old.size : Int) := by omega
                have hxT : (T : Int) ≤ (x.2.size : Int) := by have := hx.2; omega
                have hT2 : 1 ≤ (T : Int) := by omega
                have hcc : ¬ 9223372036854775807 < min T x.2.size + (old.size - T) := by omega
                have HT2 : Hid (crashTo s.sec kept T (c + 1) = L.set x.1 (x.2.extract 0 T ++ old.extract T old.size)) := Lib.hid (by
                  rw [HT.out, if_pos hk1, List.getD_eq_getElem?_getD, List.getElem?_eq_getElem hx1, hold]
                  unfold tornD
                  rw [if_pos (by omega)]; rfl)
                have hco := own_at HI.out.sec x.1 _ (getElem?_secs _ x.1 hx1)
                rw [hold] at hco
                clear HT hLf hx hos hold hcl hI2 hk1
                go_wp2
                go_quiet (fail)
                obtain ⟨y, hy⟩ : ∃ y, x.2.extract 0 T ++ old.extract T old.size = y := ⟨_, rfl⟩
                rw [hy] at HT2 ⊢
                go_wp2
                refine wp_region_noPanic ?_
                refine wp_region_held_drew (S := fun W' : World => W'.cell? ⟨b, 1, none⟩ = some (.slice (some ⟨g2, 0, none⟩) s.waits.length c2) ∧ W'.cell? ⟨g2, j * 2, none⟩ = some (.int .i64 (x.1 : Int))) (by kernel_rfl) ?_ (fun hHeld => ?_)
                · exact ⟨b1, q0⟩
                refine wpAnyH_take (i := 0) (oi := { dst := some 89, op := _, type := _, pos := _, after := _, guard := _ }) (v := ?_) rfl (by kernel_rfl) (by kernel_rfl) (by kernel_rfl) (fun _ _ _ h => h) (Or.inl ⟨by rfl, ?_⟩) (by assumption) ?_
                rotate_left
                · (intro w hSw; (try dsimp only at hSw); go_simp; try with_reducible rfl)
                (try simp only [Act.put, List.setIfInBounds_toArray, List.set_cons_zero, List.set_cons_succ])
                refine wpAnyH_take (i := 1) (oi := { dst := some 90, op := _, type := _, pos := _, after := _, guard := _ }) (v := ?_) rfl (by kernel_rfl) (by kernel_rfl) (by kernel_rfl) (fun _ _ _ h => h) (Or.inl ⟨by rfl, ?_⟩) (by assumption) ?_
                rotate_left
                · (intro w hSw; (try dsimp only at hSw); go_simp; try with_reducible rfl)
                (try simp only [Act.put, List.setIfInBounds_toArray, List.set_cons_zero, List.set_cons_succ])
                refine wpAnyH_take (i := 2) (oi := { dst := some 91, op := _, type := _, pos := _, after := _, guard := _ }) (v := ?_) rfl (by kernel_rfl) (by kernel_rfl) (by kernel_rfl) (fun _ _ _ h => h) (Or.inl ⟨by rfl, ?_⟩) (by assumption) ?_
                rotate_left
                · (intro w hSw; (try dsimp only at hSw); go_simp; try with_reducible rfl)
                (try simp only [Act.put, List.setIfInBounds_toArray, List.set_cons_zero, List.set_cons_succ])
                refine wpAnyH_take (i := 3) (oi := { dst := some 92, op := _, type := _, pos := _, after := _, guard := _ }) (v := ?_) rfl (by kernel_rfl) (by kernel_rfl) (by kernel_rfl) (fun _ _ _ h => h) (Or.inl ⟨by rfl, ?_⟩) (by assumption) ?_
                rotate_left
                · (intro w hSw; (try dsimp only at hSw); go_simp; try with_reducible rfl)
                (try simp only [Act.put, List.setIfInBounds_toArray, List.set_cons_zero, List.set_cons_succ])
                refine wpAnyH_take (i := 5) (oi := { dst := some 94, op := _, type := _, pos := _, after := _, guard := _ }) (v := ?_) rfl (by kernel_rfl) (by kernel_rfl) (by kernel_rfl) (fun _ _ _ h => h) (Or.inl ⟨by rfl, ?_⟩) (by assumption) ?_
                rotate_left
                · (intro w hSw; (try dsimp only at hSw); go_simp; try with_reducible rfl)
                (try simp only [Act.put, List.setIfInBounds_toArray, List.set_cons_zero, List.set_cons_succ])
                refine wpAnyH_take (i := 6) (oi := { dst := some 95, op := _, type := _, pos := _, after := _, guard := _ }) (v := ?_) rfl (by kernel_rfl) (by kernel_rfl) (by kernel_rfl) (fun _ _ _ h => h) (Or.inl ⟨by rfl, ?_⟩) (by assumption) ?_
                rotate_left
                · (intro w hSw; (try dsimp only at hSw); go_simp; try with_reducible rfl)
                (try simp only [Act.put, List.setIfInBounds_toArray, List.set_cons_zero, List.set_cons_succ])
                refine wpAnyH_take (i := 7) (oi := { dst := some 96, op := _, type := _, pos := _, after := _, guard := _ }) (v := ?_) rfl (by kernel_rfl) (by kernel_rfl) (by kernel_rfl) (fun _ _ _ h => h) (Or.inl ⟨by rfl, ?_⟩) (by assumption) ?_
                rotate_left
                · (intro w hSw; (try dsimp only at hSw); go_simp; try with_reducible rfl)
                (try simp only [Act.put, List.setIfInBounds_toArray, List.set_cons_zero, List.set_cons_succ])
                refine wpAnyH_take (i := 8) (oi := { dst := some 97, op := _, type := _, pos := _, after := _, guard := _ }) (v := ?_) rfl (by kernel_rfl) (by kernel_rfl) (by kernel_rfl) (fun _ _ _ h => h) (Or.inl ⟨by rfl, ?_⟩) (by assumption) ?_
                rotate_left
                · (intro w hSw; (try dsimp only at hSw); go_simp; try with_reducible rfl)
                (try simp only [Act.put, List.setIfInBounds_toArray, List.set_cons_zero, List.set_cons_succ])
                refine wpAnyH_take (i := 9) (oi := { dst := some 98, op := _, type := _, pos := _, after := _, guard := _ }) (v := ?_) rfl (by kernel_rfl) (by kernel_rfl) (by kernel_rfl) (fun _ _ _ h => h) (Or.inl ⟨by rfl, ?_⟩) (by assumption) ?_
                rotate_left
                · (intro w hSw; (try dsimp only at hSw); go_simp; try with_reducible rfl)
                (try simp only [Act.put, List.setIfInBounds_toArray, List.set_cons_zero, List.set_cons_succ])
                refine wpAnyH_take (i := 10) (oi := { dst := some 99, op := _, type := _, pos := _, after := _, guard := _ }) (v := ?_) rfl (by kernel_rfl) (by kernel_rfl) (by kernel_rfl) (fun _ _ _ h => h) (Or.inl ⟨by rfl, ?_⟩) (by assumption) ?_
                rotate_left
                · (intro w hSw; (try dsimp only at hSw); go_simp; try with_reducible rfl)
                (try simp only [Act.put, List.setIfInBounds_toArray, List.set_cons_zero, List.set_cons_succ])
                refine wpAnyH_take (i := 11) (oi := { dst := some 100, op := _, type := _, pos := _, after := _, guard := _ }) (v := ?_) rfl (by kernel_rfl) (by kernel_rfl) (by kernel_rfl) (fun _ _ _ h => h) (Or.inl ⟨by rfl, ?_⟩) (by assumption) ?_
                rotate_left
                · (intro w hSw; (try dsimp only at hSw); go_simp; try with_reducible rfl)
                (try simp only [Act.put, List.setIfInBounds_toArray, List.set_cons_zero, List.set_cons_succ])
                refine wpAnyH_take (i := 12) (oi := { dst := some 101, op := _, type := _, pos := _, after := _, guard := _ }) (v := ?_) rfl (by kernel_rfl) (by kernel_rfl) (by kernel_rfl) (fun _ _ _ h => h) (Or.inl ⟨by rfl, ?_⟩) (by assumption) ?_
                rotate_left
                · (intro w hSw; (try dsimp only at hSw); go_simp; try with_reducible rfl)
                (try simp only [Act.put, List.setIfInBounds_toArray, List.set_cons_zero, List.set_cons_succ])
                refine wpAnyH_take (i := 13) (oi := { dst := some 102, op := _, type := _, pos := _, after := _, guard := _ }) (v := ?_) rfl (by kernel_rfl) (by kernel_rfl) (by kernel_rfl) (fun _ _ _ h => h) (Or.inl ⟨by rfl, ?_⟩) (by assumption) ?_
                rotate_left
                · (intro w hSw; (try dsimp only at hSw); go_simp; try with_reducible rfl)
                (try simp only [Act.put, List.setIfInBounds_toArray, List.set_cons_zero, List.set_cons_succ])
                refine wpAnyH_ready (rs := [4]) (by kernel_rfl) (by simp) ?_
                refine AllReadyH.cons (o := { dst := some 93, op := _, type := _, pos := _, after := _, guard := _ }) rfl (fun K hK => ?_) ?_
                · go_simp
                  refine hK.out _ _ ?_ (fun hHeld => ?_)
                  · exact ⟨b1, q0⟩
                  clear hK K
                  (try simp only [Act.put, List.setIfInBounds_toArray, List.set_cons_zero, List.set_cons_succ])
                  refine wpAnyH_ready (rs := [14]) (by kernel_rfl) (by simp) ?_
                  refine AllReadyH.cons (o := { dst := some 103, op := _, type := _, pos := _, after := _, guard := _ }) rfl (fun K hK => ?_) ?_
                  · go_simp
                    (go_at_call 116; (with_reducible refine (HC.out _ _ (below_drewN hbr _)).mono ?_); rintro e w3 ⟨v3, rfl, hown3, hb3⟩; obtain ⟨⟨z0, z1⟩, y1, y2⟩ := HSt.out w3 (below_from_drewN hb3); obtain ⟨A3, c3, rfl, _⟩ := sl_form hown3)
                    go_wp2_with fail
                    refine hK.out _ _ ?_ (fun hHeld => ?_)
                    · exact y1
                    clear hK K
                    (try simp only [Act.put, List.setIfInBounds_toArray, List.set_cons_zero, List.set_cons_succ])
                    refine wpAnyH_take (i := 15) (oi := { dst := some 104, op := _, type := _, pos := _, after := _, guard := _ }) (v := ?_) rfl (by kernel_rfl) (by kernel_rfl) (by kernel_rfl) (fun _ _ _ h => h) (Or.inl ⟨by rfl, ?_⟩) (by assumption) ?_
                    rotate_left
                    · (intro w hSw; (try dsimp only at hSw); go_simp; try with_reducible rfl)
                    (try simp only [Act.put, List.setIfInBounds_toArray, List.set_cons_zero, List.set_cons_succ])
                    refine wpAnyH_take (i := 16) (oi := { dst := some 105, op := _, type := _, pos := _, after := _, guard := _ }) (v := ?_) rfl (by kernel_rfl) (by kernel_rfl) (by kernel_rfl) (fun _ _ _ h => h) (Or.inl ⟨by rfl, ?_⟩) (by assumption) ?_
                    rotate_left
                    · (intro w hSw; (try dsimp only at hSw); go_simp; try with_reducible rfl)
                    (try simp only [Act.put, List.setIfInBounds_toArray, List.set_cons_zero, List.set_cons_succ])
                    refine wpAnyH_ready (rs := [17]) (by kernel_rfl) (by simp) ?_
                    refine AllReadyH.cons (o := { dst := none, op := _, type := _, pos := _, after := _, guard := _ }) rfl (fun K hK => ?_) ?_
                    · go_simp
                      refine hK.out _ _ ?_ (fun hHeld => ?_)
                      · exact y2 _
                      clear hK K
                      (try simp only [Act.put, List.setIfInBounds_toArray, List.set_cons_zero, List.set_cons_succ])
                      refine wpAnyH_done (by kernel_rfl) ?_ _
                      refine NoPanic.normal ?_
                      go_wp2
                      go_roundw
                      case measure => simp [intOf]; omega
                      case rel => exact ⟨j + 1, by omega, by go_num, Lib.hid ⟨_, by rw [HSn.out, HT2.out]; exact HI.out.next (below_from_drewN hb3) rfl hown3⟩⟩
                    exact AllReadyH.nil
                  exact AllReadyH.nil
                exact AllReadyH.nil
              · have HT2 : Hid (crashTo s.sec kept tear (c + 1) = L.set x.1 x.2) := Lib.hid (by
                  rw [HT.out]
                  split
                  · next h => congr 1; unfold tornD; rw [if_neg]; intro h2; exact htorn ⟨hI2.2 h, by omega, by omega⟩
                  · rfl)
                clear HT hLf hcl hI2
                rcases (show ¬ (j : Int) = ls ∨ (ls = (j : Int) ∧ tear < 1) ∨ (ls = (j : Int) ∧ 1 ≤ tear ∧ 128 ≤ tear) by omega) with h1 | ⟨h1, h2⟩ | ⟨h1, h2, h3⟩
                · have h1B : ((j : Int) == ls) = false := by simpa using h1
                  go_wp2
                  refine wp_region_noPanic ?_
                  refine wp_region_held_drew (S := fun W' : World => W'.cell? ⟨b, 1, none⟩ = some (.slice (some ⟨g2, 0, none⟩) s.waits.length c2) ∧ W'.cell? ⟨g2, j * 2, none⟩ = some (.int .i64 (x.1 : Int))) (by kernel_rfl) ?_ (fun hHeld => ?_)
                  · exact ⟨b1, q0⟩
                  refine wpAnyH_take (i := 0) (oi := { dst := some 89, op := _, type := _, pos := _, after := _, guard := _ }) (v := ?_) rfl (by kernel_rfl) (by kernel_rfl) (by kernel_rfl) (fun _ _ _ h => h) (Or.inl ⟨by rfl, ?_⟩) (by assumption) ?_
                  rotate_left
                  · (intro w hSw; (try dsimp only at hSw); go_simp; try with_reducible rfl)
                  (try simp only [Act.put, List.setIfInBounds_toArray, List.set_cons_zero, List.set_cons_succ])
                  refine wpAnyH_take (i := 1) (oi := { dst := some 90, op := _, type := _, pos := _, after := _, guard := _ }) (v := ?_) rfl (by kernel_rfl) (by kernel_rfl) (by kernel_rfl) (fun _ _ _ h => h) (Or.inl ⟨by rfl, ?_⟩) (by assumption) ?_
                  rotate_left
                  · (intro w hSw; (try dsimp only at hSw); go_simp; try with_reducible rfl)
                  (try simp only [Act.put, List.setIfInBounds_toArray, List.set_cons_zero, List.set_cons_succ])
                  refine wpAnyH_take (i := 2) (oi := { dst := some 91, op := _, type := _, pos := _, after := _, guard := _ }) (v := ?_) rfl (by kernel_rfl) (by kernel_rfl) (by kernel_rfl) (fun _ _ _ h => h) (Or.inl ⟨by rfl, ?_⟩) (by assumption) ?_
                  rotate_left
                  · (intro w hSw; (try dsimp only at hSw); go_simp; try with_reducible rfl)
                  (try simp only [Act.put, List.setIfInBounds_toArray, List.set_cons_zero, List.set_cons_succ])
                  refine wpAnyH_take (i := 3) (oi := { dst := some 92, op := _, type := _, pos := _, after := _, guard := _ }) (v := ?_) rfl (by kernel_rfl) (by kernel_rfl) (by kernel_rfl) (fun _ _ _ h => h) (Or.inl ⟨by rfl, ?_⟩) (by assumption) ?_
                  rotate_left
                  · (intro w hSw; (try dsimp only at hSw); go_simp; try with_reducible rfl)
                  (try simp only [Act.put, List.setIfInBounds_toArray, List.set_cons_zero, List.set_cons_succ])
                  refine wpAnyH_take (i := 5) (oi := { dst := some 94, op := _, type := _, pos := _, after := _, guard := _ }) (v := ?_) rfl (by kernel_rfl) (by kernel_rfl) (by kernel_rfl) (fun _ _ _ h => h) (Or.inl ⟨by rfl, ?_⟩) (by assumption) ?_
                  rotate_left
                  · (intro w hSw; (try dsimp only at hSw); go_simp; try with_reducible rfl)
                  (try simp only [Act.put, List.setIfInBounds_toArray, List.set_cons_zero, List.set_cons_succ])
                  refine wpAnyH_take (i := 6) (oi := { dst := some 95, op := _, type := _, pos := _, after := _, guard := _ }) (v := ?_) rfl (by kernel_rfl) (by kernel_rfl) (by kernel_rfl) (fun _ _ _ h => h) (Or.inl ⟨by rfl, ?_⟩) (by assumption) ?_
                  rotate_left
                  · (intro w hSw; (try dsimp only at hSw); go_simp; try with_reducible rfl)
                  (try simp only [Act.put, List.setIfInBounds_toArray, List.set_cons_zero, List.set_cons_succ])
                  refine wpAnyH_take (i := 7) (oi := { dst := some 96, op := _, type := _, pos := _, after := _, guard := _ }) (v := ?_) rfl (by kernel_rfl) (by kernel_rfl) (by kernel_rfl) (fun _ _ _ h => h) (Or.inl ⟨by rfl, ?_⟩) (by assumption) ?_
                  rotate_left
                  · (intro w hSw; (try dsimp only at hSw); go_simp; try with_reducible rfl)
                  (try simp only [Act.put, List.setIfInBounds_toArray, List.set_cons_zero, List.set_cons_succ])
                  refine wpAnyH_take (i := 8) (oi := { dst := some 97, op := _, type := _, pos := _, after := _, guard := _ }) (v := ?_) rfl (by kernel_rfl) (by kernel_rfl) (by kernel_rfl) (fun _ _ _ h => h) (Or.inl ⟨by rfl, ?_⟩) (by assumption) ?_
                  rotate_left
                  · (intro w hSw; (try dsimp only at hSw); go_simp; try with_reducible rfl)
                  (try simp only [Act.put, List.setIfInBounds_toArray, List.set_cons_zero, List.set_cons_succ])
                  refine wpAnyH_take (i := 9) (oi := { dst := some 98, op := _, type := _, pos := _, after := _, guard := _ }) (v := ?_) rfl (by kernel_rfl) (by kernel_rfl) (by kernel_rfl) (fun _ _ _ h => h) (Or.inl ⟨by rfl, ?_⟩) (by assumption) ?_
                  rotate_left
                  · (intro w hSw; (try dsimp only at hSw); go_simp; try with_reducible rfl)
                  (try simp only [Act.put, List.setIfInBounds_toArray, List.set_cons_zero, List.set_cons_succ])
                  refine wpAnyH_take (i := 10) (oi := { dst := some 99, op := _, type := _, pos := _, after := _, guard := _ }) (v := ?_) rfl (by kernel_rfl) (by kernel_rfl) (by kernel_rfl) (fun _ _ _ h => h) (Or.inl ⟨by rfl, ?_⟩) (by assumption) ?_
                  rotate_left
                  · (intro w hSw; (try dsimp only at hSw); go_simp; try with_reducible rfl)
                  (try simp only [Act.put, List.setIfInBounds_toArray, List.set_cons_zero, List.set_cons_succ])
                  refine wpAnyH_take (i := 11) (oi := { dst := some 100, op := _, type := _, pos := _, after := _, guard := _ }) (v := ?_) rfl (by kernel_rfl) (by kernel_rfl) (by kernel_rfl) (fun _ _ _ h => h) (Or.inl ⟨by rfl, ?_⟩) (by assumption) ?_
                  rotate_left
                  · (intro w hSw; (try dsimp only at hSw); go_simp; try with_reducible rfl)
                  (try simp only [Act.put, List.setIfInBounds_toArray, List.set_cons_zero, List.set_cons_succ])
                  refine wpAnyH_take (i := 12) (oi := { dst := some 101, op := _, type := _, pos := _, after := _, guard := _ }) (v := ?_) rfl (by kernel_rfl) (by kernel_rfl) (by kernel_rfl) (fun _ _ _ h => h) (Or.inl ⟨by rfl, ?_⟩) (by assumption) ?_
                  rotate_left
                  · (intro w hSw; (try dsimp only at hSw); go_simp; try with_reducible rfl)
                  (try simp only [Act.put, List.setIfInBounds_toArray, List.set_cons_zero, List.set_cons_succ])
                  refine wpAnyH_take (i := 13) (oi := { dst := some 102, op := _, type := _, pos := _, after := _, guard := _ }) (v := ?_) rfl (by kernel_rfl) (by kernel_rfl) (by kernel_rfl) (fun _ _ _ h => h) (Or.inl ⟨by rfl, ?_⟩) (by assumption) ?_
                  rotate_left
                  · (intro w hSw; (try dsimp only at hSw); go_simp; try with_reducible rfl)
                  (try simp only [Act.put, List.setIfInBounds_toArray, List.set_cons_zero, List.set_cons_succ])
                  refine wpAnyH_ready (rs := [4]) (by kernel_rfl) (by simp) ?_
                  refine AllReadyH.cons (o := { dst := some 93, op := _, type := _, pos := _, after := _, guard := _ }) rfl (fun K hK => ?_) ?_
                  · go_simp
                    refine hK.out _ _ ?_ (fun hHeld => ?_)
                    · exact ⟨b1, q0⟩
                    clear hK K
                    (try simp only [Act.put, List.setIfInBounds_toArray, List.set_cons_zero, List.set_cons_succ])
                    refine wpAnyH_ready (rs := [14]) (by kernel_rfl) (by simp) ?_
                    refine AllReadyH.cons (o := { dst := some 103, op := _, type := _, pos := _, after := _, guard := _ }) rfl (fun K hK => ?_) ?_
                    · go_simp
                      (go_at_call 116; (with_reducible refine (HC.out _ _ (Below.drew hbr)).mono ?_); rintro e w3 ⟨v3, rfl, hown3, hb3⟩; obtain ⟨⟨z0, z1⟩, y1, y2⟩ := HSt.out w3 (below_drew1 hb3); obtain ⟨A3, c3, rfl, _⟩ := sl_form hown3)
                      go_wp2_with fail
                      refine hK.out _ _ ?_ (fun hHeld => ?_)
                      · exact y1
                      clear hK K
                      (try simp only [Act.put, List.setIfInBounds_toArray, List.set_cons_zero, List.set_cons_succ])
                      refine wpAnyH_take (i := 15) (oi := { dst := some 104, op := _, type := _, pos := _, after := _, guard := _ }) (v := ?_) rfl (by kernel_rfl) (by kernel_rfl) (by kernel_rfl) (fun _ _ _ h => h) (Or.inl ⟨by rfl, ?_⟩) (by assumption) ?_
                      rotate_left
                      · (intro w hSw; (try dsimp only at hSw); go_simp; try with_reducible rfl)
                      (try simp only [Act.put, List.setIfInBounds_toArray, List.set_cons_zero, List.set_cons_succ])
                      refine wpAnyH_take (i := 16) (oi := { dst := some 105, op := _, type := _, pos := _, after := _, guard := _ }) (v := ?_) rfl (by kernel_rfl) (by kernel_rfl) (by kernel_rfl) (fun _ _ _ h => h) (Or.inl ⟨by rfl, ?_⟩) (by assumption) ?_
                      rotate_left
                      · (intro w hSw; (try dsimp only at hSw); go_simp; try with_reducible rfl)
                      (try simp only [Act.put, List.setIfInBounds_toArray, List.set_cons_zero, List.set_cons_succ])
                      refine wpAnyH_ready (rs := [17]) (by kernel_rfl) (by simp) ?_
                      refine AllReadyH.cons (o := { dst := none, op := _, type := _, pos := _, after := _, guard := _ }) rfl (fun K hK => ?_) ?_
                      · go_simp
                        refine hK.out _ _ ?_ (fun hHeld => ?_)
                        · exact y2 _
                        clear hK K
                        (try simp only [Act.put, List.setIfInBounds_toArray, List.set_cons_zero, List.set_cons_succ])
                        refine wpAnyH_done (by kernel_rfl) ?_ _
                        refine NoPanic.normal ?_
                        go_wp2
                        go_roundw
                        case measure => simp [intOf]; omega
                        case rel => exact ⟨j + 1, by omega, by go_num, Lib.hid ⟨_, by rw [HSn.out, HT2.out]; exact HI.out.next (below_drew1 hb3) rfl hown3⟩⟩
                      exact AllReadyH.nil
                    exact AllReadyH.nil
                  exact AllReadyH.nil
                · subst h1
                  go_wp2
                  refine wp_region_noPanic ?_
                  refine wp_region_held_drew (S := fun W' : World => W'.cell? ⟨b, 1, none⟩ = some (.slice (some ⟨g2, 0, none⟩) s.waits.length c2) ∧ W'.cell? ⟨g2, j * 2, none⟩ = some (.int .i64 (x.1 : Int))) (by kernel_rfl) ?_ (fun hHeld => ?_)
                  · exact ⟨b1, q0⟩
                  refine wpAnyH_take (i := 0) (oi := { dst := some 89, op := _, type := _, pos := _, after := _, guard := _ }) (v := ?_) rfl (by kernel_rfl) (by kernel_rfl) (by kernel_rfl) (fun _ _ _ h => h) (Or.inl ⟨by rfl, ?_⟩) (by assumption) ?_
                  rotate_left
                  · (intro w hSw; (try dsimp only at hSw); go_simp; try with_reducible rfl)
                  (try simp only [Act.put, List.setIfInBounds_toArray, List.set_cons_zero, List.set_cons_succ])
                  refine wpAnyH_take (i := 1) (oi := { dst := some 90, op := _, type := _, pos := _, after := _, guard := _ }) (v := ?_) rfl (by kernel_rfl) (by kernel_rfl) (by kernel_rfl) (fun _ _ _ h => h) (Or.inl ⟨by rfl, ?_⟩) (by assumption) ?_
                  rotate_left
                  · (intro w hSw; (try dsimp only at hSw); go_simp; try with_reducible rfl)
                  (try simp only [Act.put, List.setIfInBounds_toArray, List.set_cons_zero, List.set_cons_succ])
                  refine wpAnyH_take (i := 2) (oi := { dst := some 91, op := _, type := _, pos := _, after := _, guard := _ }) (v := ?_) rfl (by kernel_rfl) (by kernel_rfl) (by kernel_rfl) (fun _ _ _ h => h) (Or.inl ⟨by rfl, ?_⟩) (by assumption) ?_
                  rotate_left
                  · (intro w hSw; (try dsimp only at hSw); go_simp; try with_reducible rfl)
                  (try simp only [Act.put, List.setIfInBounds_toArray, List.set_cons_zero, List.set_cons_succ])
                  refine wpAnyH_take (i := 3) (oi := { dst := some 92, op := _, type := _, pos := _, after := _, guard := _ }) (v := ?_) rfl (by kernel_rfl) (by kernel_rfl) (by kernel_rfl) (fun _ _ _ h => h) (Or.inl ⟨by rfl, ?_⟩) (by assumption) ?_
                  rotate_left
                  · (intro w hSw; (try dsimp only at hSw); go_simp; try with_reducible rfl)
                  (try simp only [Act.put, List.setIfInBounds_toArray, List.set_cons_zero, List.set_cons_succ])
                  refine wpAnyH_take (i := 5) (oi := { dst := some 94, op := _, type := _, pos := _, after := _, guard := _ }) (v := ?_) rfl (by kernel_rfl) (by kernel_rfl) (by kernel_rfl) (fun _ _ _ h => h) (Or.inl ⟨by rfl, ?_⟩) (by assumption) ?_
                  rotate_left
                  · (intro w hSw; (try dsimp only at hSw); go_simp; try with_reducible rfl)
                  (try simp only [Act.put, List.setIfInBounds_toArray, List.set_cons_zero, List.set_cons_succ])
                  refine wpAnyH_take (i := 6) (oi := { dst := some 95, op := _, type := _, pos := _, after := _, guard := _ }) (v := ?_) rfl (by kernel_rfl) (by kernel_rfl) (by kernel_rfl) (fun _ _ _ h => h) (Or.inl ⟨by rfl, ?_⟩) (by assumption) ?_
                  rotate_left
                  · (intro w hSw; (try dsimp only at hSw); go_simp; try with_reducible rfl)
                  (try simp only [Act.put, List.setIfInBounds_toArray, List.set_cons_zero, List.set_cons_succ])
                  refine wpAnyH_take (i := 7) (oi := { dst := some 96, op := _, type := _, pos := _, after := _, guard := _ }) (v := ?_) rfl (by kernel_rfl) (by kernel_rfl) (by kernel_rfl) (fun _ _ _ h => h) (Or.inl ⟨by rfl, ?_⟩) (by assumption) ?_
                  rotate_left
                  · (intro w hSw; (try dsimp only at hSw); go_simp; try with_reducible rfl)
                  (try simp only [Act.put, List.setIfInBounds_toArray, List.set_cons_zero, List.set_cons_succ])
                  refine wpAnyH_take (i := 8) (oi := { dst := some 97, op := _, type := _, pos := _, after := _, guard := _ }) (v := ?_) rfl (by kernel_rfl) (by kernel_rfl) (by kernel_rfl) (fun _ _ _ h => h) (Or.inl ⟨by rfl, ?_⟩) (by assumption) ?_
                  rotate_left
                  · (intro w hSw; (try dsimp only at hSw); go_simp; try with_reducible rfl)
                  (try simp only [Act.put, List.setIfInBounds_toArray, List.set_cons_zero, List.set_cons_succ])
                  refine wpAnyH_take (i := 9) (oi := { dst := some 98, op := _, type := _, pos := _, after := _, guard := _ }) (v := ?_) rfl (by kernel_rfl) (by kernel_rfl) (by kernel_rfl) (fun _ _ _ h => h) (Or.inl ⟨by rfl, ?_⟩) (by assumption) ?_
                  rotate_left
                  · (intro w hSw; (try dsimp only at hSw); go_simp; try with_reducible rfl)
                  (try simp only [Act.put, List.setIfInBounds_toArray, List.set_cons_zero, List.set_cons_succ])
                  refine wpAnyH_take (i := 10) (oi := { dst := some 99, op := _, type := _, pos := _, after := _, guard := _ }) (v := ?_) rfl (by kernel_rfl) (by kernel_rfl) (by kernel_rfl) (fun _ _ _ h => h) (Or.inl ⟨by rfl, ?_⟩) (by assumption) ?_
                  rotate_left
                  · (intro w hSw; (try dsimp only at hSw); go_simp; try with_reducible rfl)
                  (try simp only [Act.put, List.setIfInBounds_toArray, List.set_cons_zero, List.set_cons_succ])
                  refine wpAnyH_take (i := 11) (oi := { dst := some 100, op := _, type := _, pos := _, after := _, guard := _ }) (v := ?_) rfl (by kernel_rfl) (by kernel_rfl) (by kernel_rfl) (fun _ _ _ h => h) (Or.inl ⟨by rfl, ?_⟩) (by assumption) ?_
                  rotate_left
                  · (intro w hSw; (try dsimp only at hSw); go_simp; try with_reducible rfl)
                  (try simp only [Act.put, List.setIfInBounds_toArray, List.set_cons_zero, List.set_cons_succ])
                  refine wpAnyH_take (i := 12) (oi := { dst := some 101, op := _, type := _, pos := _, after := _, guard := _ }) (v := ?_) rfl (by kernel_rfl) (by kernel_rfl) (by kernel_rfl) (fun _ _ _ h => h) (Or.inl ⟨by rfl, ?_⟩) (by assumption) ?_
                  rotate_left
                  · (intro w hSw; (try dsimp only at hSw); go_simp; try with_reducible rfl)
                  (try simp only [Act.put, List.setIfInBounds_toArray, List.set_cons_zero, List.set_cons_succ])
                  refine wpAnyH_take (i := 13) (oi := { dst := some 102, op := _, type := _, pos := _, after := _, guard := _ }) (v := ?_) rfl (by kernel_rfl) (by kernel_rfl) (by kernel_rfl) (fun _ _ _ h => h) (Or.inl ⟨by rfl, ?_⟩) (by assumption) ?_
                  rotate_left
                  · (intro w hSw; (try dsimp only at hSw); go_simp; try with_reducible rfl)
                  (try simp only [Act.put, List.setIfInBounds_toArray, List.set_cons_zero, List.set_cons_succ])
                  refine wpAnyH_ready (rs := [4]) (by kernel_rfl) (by simp) ?_
                  refine AllReadyH.cons (o := { dst := some 93, op := _, type := _, pos := _, after := _, guard := _ }) rfl (fun K hK => ?_) ?_
                  · go_simp
                    refine hK.out _ _ ?_ (fun hHeld => ?_)
                    · exact ⟨b1, q0⟩
                    clear hK K
                    (try simp only [Act.put, List.setIfInBounds_toArray, List.set_cons_zero, List.set_cons_succ])
                    refine wpAnyH_ready (rs := [14]) (by kernel_rfl) (by simp) ?_
                    refine AllReadyH.cons (o := { dst := some 103, op := _, type := _, pos := _, after := _, guard := _ }) rfl (fun K hK => ?_) ?_
                    · go_simp
                      (go_at_call 116; (with_reducible refine (HC.out _ _ (Below.drew hbr)).mono ?_); rintro e w3 ⟨v3, rfl, hown3, hb3⟩; obtain ⟨⟨z0, z1⟩, y1, y2⟩ := HSt.out w3 (below_drew1 hb3); obtain ⟨A3, c3, rfl, _⟩ := sl_form hown3)
                      go_wp2_with fail
                      refine hK.out _ _ ?_ (fun hHeld => ?_)
                      · exact y1
                      clear hK K
                      (try simp only [Act.put, List.setIfInBounds_toArray, List.set_cons_zero, List.set_cons_succ])
                      refine wpAnyH_take (i := 15) (oi := { dst := some 104, op := _, type := _, pos := _, after := _, guard := _ }) (v := ?_) rfl (by kernel_rfl) (by kernel_rfl) (by kernel_rfl) (fun _ _ _ h => h) (Or.inl ⟨by rfl, ?_⟩) (by assumption) ?_
                      rotate_left
                      · (intro w hSw; (try dsimp only at hSw); go_simp; try with_reducible rfl)
                      (try simp only [Act.put, List.setIfInBounds_toArray, List.set_cons_zero, List.set_cons_succ])
                      refine wpAnyH_take (i := 16) (oi := { dst := some 105, op := _, type := _, pos := _, after := _, guard := _ }) (v := ?_) rfl (by kernel_rfl) (by kernel_rfl) (by kernel_rfl) (fun _ _ _ h => h) (Or.inl ⟨by rfl, ?_⟩) (by assumption) ?_
                      rotate_left
                      · (intro w hSw; (try dsimp only at hSw); go_simp; try with_reducible rfl)
                      (try simp only [Act.put, List.setIfInBounds_toArray, List.set_cons_zero, List.set_cons_succ])
                      refine wpAnyH_ready (rs := [17]) (by kernel_rfl) (by simp) ?_
                      refine AllReadyH.cons (o := { dst := none, op := _, type := _, pos := _, after := _, guard := _ }) rfl (fun K hK => ?_) ?_
                      · go_simp
                        refine hK.out _ _ ?_ (fun hHeld => ?_)
                        · exact y2 _
                        clear hK K
                        (try simp only [Act.put, List.setIfInBounds_toArray, List.set_cons_zero, List.set_cons_succ])
                        refine wpAnyH_done (by kernel_rfl) ?_ _
                        refine NoPanic.normal ?_
                        go_wp2
                        go_roundw
                        case measure => simp [intOf]; omega
                        case rel => exact ⟨j + 1, by omega, by go_num, Lib.hid ⟨_, by rw [HSn.out, HT2.out]; exact HI.out.next (below_drew1 hb3) rfl hown3⟩⟩
                      exact AllReadyH.nil
                    exact AllReadyH.nil
                  exact AllReadyH.nil
                · subst h1
                  go_wp2
                  refine wp_region_noPanic ?_
                  refine wp_region_held_drew (S := fun W' : World => W'.cell? ⟨b, 1, none⟩ = some (.slice (some ⟨g2, 0, none⟩) s.waits.length c2) ∧ W'.cell? ⟨g2, j * 2, none⟩ = some (.int .i64 (x.1 : Int))) (by kernel_rfl) ?_ (fun hHeld => ?_)
                  · exact ⟨b1, q0⟩
                  refine wpAnyH_take (i := 0) (oi := { dst := some 89, op := _, type := _, pos := _, after := _, guard := _ }) (v := ?_) rfl (by kernel_rfl) (by kernel_rfl) (by kernel_rfl) (fun _ _ _ h => h) (Or.inl ⟨by rfl, ?_⟩) (by assumption) ?_
                  rotate_left
                  · (intro w hSw; (try dsimp only at hSw); go_simp; try with_reducible rfl)
                  (try simp only [Act.put, List.setIfInBounds_toArray, List.set_cons_zero, List.set_cons_succ])
                  refine wpAnyH_take (i := 1) (oi := { dst := some 90, op := _, type := _, pos := _, after := _, guard := _ }) (v := ?_) rfl (by kernel_rfl) (by kernel_rfl) (by kernel_rfl) (fun _ _ _ h => h) (Or.inl ⟨by rfl, ?_⟩) (by assumption) ?_
                  rotate_left
                  · (intro w hSw; (try dsimp only at hSw); go_simp; try with_reducible rfl)
                  (try simp only [Act.put, List.setIfInBounds_toArray, List.set_cons_zero, List.set_cons_succ])
                  refine wpAnyH_take (i := 2) (oi := { dst := some 91, op := _, type := _, pos := _, after := _, guard := _ }) (v := ?_) rfl (by kernel_rfl) (by kernel_rfl) (by kernel_rfl) (fun _ _ _ h => h) (Or.inl ⟨by rfl, ?_⟩) (by assumption) ?_
                  rotate_left
                  · (intro w hSw; (try dsimp only at hSw); go_simp; try with_reducible rfl)
                  (try simp only [Act.put, List.setIfInBounds_toArray, List.set_cons_zero, List.set_cons_succ])
                  refine wpAnyH_take (i := 3) (oi := { dst := some 92, op := _, type := _, pos := _, after := _, guard := _ }) (v := ?_) rfl (by kernel_rfl) (by kernel_rfl) (by kernel_rfl) (fun _ _ _ h => h) (Or.inl ⟨by rfl, ?_⟩) (by assumption) ?_
                  rotate_left
                  · (intro w hSw; (try dsimp only at hSw); go_simp; try with_reducible rfl)
                  (try simp only [Act.put, List.setIfInBounds_toArray, List.set_cons_zero, List.set_cons_succ])
                  refine wpAnyH_take (i := 5) (oi := { dst := some 94, op := _, type := _, pos := _, after := _, guard := _ }) (v := ?_) rfl (by kernel_rfl) (by kernel_rfl) (by kernel_rfl) (fun _ _ _ h => h) (Or.inl ⟨by rfl, ?_⟩) (by assumption) ?_
                  rotate_left
                  · (intro w hSw; (try dsimp only at hSw); go_simp; try with_reducible rfl)
                  (try simp only [Act.put, List.setIfInBounds_toArray, List.set_cons_zero, List.set_cons_succ])
                  refine wpAnyH_take (i := 6) (oi := { dst := some 95, op := _, type := _, pos := _, after := _, guard := _ }) (v := ?_) rfl (by kernel_rfl) (by kernel_rfl) (by kernel_rfl) (fun _ _ _ h => h) (Or.inl ⟨by rfl, ?_⟩) (by assumption) ?_
                  rotate_left
                  · (intro w hSw; (try dsimp only at hSw); go_simp; try with_reducible rfl)
                  (try simp only [Act.put, List.setIfInBounds_toArray, List.set_cons_zero, List.set_cons_succ])
                  refine wpAnyH_take (i := 7) (oi := { dst := some 96, op := _, type := _, pos := _, after := _, guard := _ }) (v := ?_) rfl (by kernel_rfl) (by kernel_rfl) (by kernel_rfl) (fun _ _ _ h => h) (Or.inl ⟨by rfl, ?_⟩) (by assumption) ?_
                  rotate_left
                  · (intro w hSw; (try dsimp only at hSw); go_simp; try with_reducible rfl)
                  (try simp only [Act.put, List.setIfInBounds_toArray, List.set_cons_zero, List.set_cons_succ])
                  refine wpAnyH_take (i := 8) (oi := { dst := some 97, op := _, type := _, pos := _, after := _, guard := _ }) (v := ?_) rfl (by kernel_rfl) (by kernel_rfl) (by kernel_rfl) (fun _ _ _ h => h) (Or.inl ⟨by rfl, ?_⟩) (by assumption) ?_
                  rotate_left
                  · (intro w hSw; (try dsimp only at hSw); go_simp; try with_reducible rfl)
                  (try simp only [Act.put, List.setIfInBounds_toArray, List.set_cons_zero, List.set_cons_succ])
                  refine wpAnyH_take (i := 9) (oi := { dst := some 98, op := _, type := _, pos := _, after := _, guard := _ }) (v := ?_) rfl (by kernel_rfl) (by kernel_rfl) (by kernel_rfl) (fun _ _ _ h => h) (Or.inl ⟨by rfl, ?_⟩) (by assumption) ?_
                  rotate_left
                  · (intro w hSw; (try dsimp only at hSw); go_simp; try with_reducible rfl)
                  (try simp only [Act.put, List.setIfInBounds_toArray, List.set_cons_zero, List.set_cons_succ])
                  refine wpAnyH_take (i := 10) (oi := { dst := some 99, op := _, type := _, pos := _, after := _, guard := _ }) (v := ?_) rfl (by kernel_rfl) (by kernel_rfl) (by kernel_rfl) (fun _ _ _ h => h) (Or.inl ⟨by rfl, ?_⟩) (by assumption) ?_
                  rotate_left
                  · (intro w hSw; (try dsimp only at hSw); go_simp; try with_reducible rfl)
                  (try simp only [Act.put, List.setIfInBounds_toArray, List.set_cons_zero, List.set_cons_succ])
                  refine wpAnyH_take (i := 11) (oi := { dst := some 100, op := _, type := _, pos := _, after := _, guard := _ }) (v := ?_) rfl (by kernel_rfl) (by kernel_rfl) (by kernel_rfl) (fun _ _ _ h => h) (Or.inl ⟨by rfl, ?_⟩) (by assumption) ?_
                  rotate_left
                  · (intro w hSw; (try dsimp only at hSw); go_simp; try with_reducible rfl)
                  (try simp only [Act.put, List.setIfInBounds_toArray, List.set_cons_zero, List.set_cons_succ])
                  refine wpAnyH_take (i := 12) (oi := { dst := some 101, op := _, type := _, pos := _, after := _, guard := _ }) (v := ?_) rfl (by kernel_rfl) (by kernel_rfl) (by kernel_rfl) (fun _ _ _ h => h) (Or.inl ⟨by rfl, ?_⟩) (by assumption) ?_
                  rotate_left
                  · (intro w hSw; (try dsimp only at hSw); go_simp; try with_reducible rfl)
                  (try simp only [Act.put, List.setIfInBounds_toArray, List.set_cons_zero, List.set_cons_succ])
                  refine wpAnyH_take (i := 13) (oi := { dst := some 102, op := _, type := _, pos := _, after := _, guard := _ }) (v := ?_) rfl (by kernel_rfl) (by kernel_rfl) (by kernel_rfl) (fun _ _ _ h => h) (Or.inl ⟨by rfl, ?_⟩) (by assumption) ?_
                  rotate_left
                  · (intro w hSw; (try dsimp only at hSw); go_simp; try with_reducible rfl)
                  (try simp only [Act.put, List.setIfInBounds_toArray, List.set_cons_zero, List.set_cons_succ])
                  refine wpAnyH_ready (rs := [4]) (by kernel_rfl) (by simp) ?_
                  refine AllReadyH.cons (o := { dst := some 93, op := _, type := _, pos := _, after := _, guard := _ }) rfl (fun K hK => ?_) ?_
                  · go_simp
                    refine hK.out _ _ ?_ (fun hHeld => ?_)
                    · exact ⟨b1, q0⟩
                    clear hK K
                    (try simp only [Act.put, List.setIfInBounds_toArray, List.set_cons_zero, List.set_cons_succ])
                    refine wpAnyH_ready (rs := [14]) (by kernel_rfl) (by simp) ?_
                    refine AllReadyH.cons (o := { dst := some 103, op := _, type := _, pos := _, after := _, guard := _ }) rfl (fun K hK => ?_) ?_
                    · go_simp
                      (go_at_call 116; (with_reducible refine (HC.out _ _ (Below.drew hbr)).mono ?_); rintro e w3 ⟨v3, rfl, hown3, hb3⟩; obtain ⟨⟨z0, z1⟩, y1, y2⟩ := HSt.out w3 (below_drew1 hb3); obtain ⟨A3, c3, rfl, _⟩ := sl_form hown3)
                      go_wp2_with fail
                      refine hK.out _ _ ?_ (fun hHeld => ?_)
                      · exact y1
                      clear hK K
                      (try simp only [Act.put, List.setIfInBounds_toArray, List.set_cons_zero, List.set_cons_succ])
                      refine wpAnyH_take (i := 15) (oi := { dst := some 104, op := _, type := _, pos := _, after := _, guard := _ }) (v := ?_) rfl (by kernel_rfl) (by kernel_rfl) (by kernel_rfl) (fun _ _ _ h => h) (Or.inl ⟨by rfl, ?_⟩) (by assumption) ?_
                      rotate_left
                      · (intro w hSw; (try dsimp only at hSw); go_simp; try with_reducible rfl)
                      (try simp only [Act.put, List.setIfInBounds_toArray, List.set_cons_zero, List.set_cons_succ])
                      refine wpAnyH_take (i := 16) (oi := { dst := some 105, op := _, type := _, pos := _, after := _, guard := _ }) (v := ?_) rfl (by kernel_rfl) (by kernel_rfl) (by kernel_rfl) (fun _ _ _ h => h) (Or.inl ⟨by rfl, ?_⟩) (by assumption) ?_
                      rotate_left
                      · (intro w hSw; (try dsimp only at hSw); go_simp; try with_reducible rfl)
                      (try simp only [Act.put, List.setIfInBounds_toArray, List.set_cons_zero, List.set_cons_succ])
                      refine wpAnyH_ready (rs := [17]) (by kernel_rfl) (by simp) ?_
                      refine AllReadyH.cons (o := { dst := none, op := _, type := _, pos := _, after := _, guard := _ }) rfl (fun K hK => ?_) ?_
                      · go_simp
                        refine hK.out _ _ ?_ (fun hHeld => ?_)
                        · exact y2 _
                        clear hK K
                        (try simp only [Act.put, List.setIfInBounds_toArray, List.set_cons_zero, List.set_cons_succ])
                        refine wpAnyH_done (by kernel_rfl) ?_ _
                        refine NoPanic.normal ?_
                        go_wp2
                        go_roundw
                        case measure => simp [intOf]; omega
                        case rel => exact ⟨j + 1, by omega, by go_num, Lib.hid ⟨_, by rw [HSn.out, HT2.out]; exact HI.out.next (below_drew1 hb3) rfl hown3⟩⟩
                      exact AllReadyH.nil
                    exact AllReadyH.nil
                  exact AllReadyH.nil
          · obtain rfl : j = k := by omega
            have hc4 := HI.out.five.c4
            have hc2' := HI.out.five.c2
            have f1 := HI.out.five.fz 1
            have f2 := HI.out.five.fz 2
            have f4 := HI.out.five.fz 4
            have HE := Lib.hid (((HI.out.five.s1 (.slice none 0 0)).s4 (.bool false)).s2 (.int .i64 0))
            have HT' := Lib.hid (((HI.out.tou.set (.inl (.inl rfl)) 1 (.slice none 0 0)).set (.inl (.inl rfl)) 4 (.bool false)).set (.inl (.inl rfl)) 2 (.int .i64 0))
            have HR' : Hid ((((wr.setCell ⟨b, 1, none⟩ (.slice none 0 0)).setCell ⟨b, 4, none⟩ (.bool false)).setCell ⟨b, 2, none⟩ (.int .i64 0)).ownsRow 0 9 1 sv1 s.sec.length ((s.crash keep tear).sec.map Value.string)) := Lib.hid (by
              have h0 := HI.out.sec
              rw [← HM.out, ← keptL_short, HKp.out, crashTo_all] at h0
              show World.ownsRow _ 0 _ 1 _ _ ((crashL s.sec (keptL s.waits keep) tear).map Value.string)
              rw [HKp.out]
              refine own_block h0 fun i hi => ?_
              have hjb : i ≠ b := by rintro rfl; exact HI.out.fs hi
              rw [Below.heap_setCell _ _ _ _ hjb, Below.heap_setCell _ _ _ _ hjb, Below.heap_setCell _ _ _ _ hjb])
            go_wp2
            go_end0
            refine ⟨rfl, sv1, .slice none 0 0, ⟨HE.out, ?_, World.ownsRow_nil _ _ _ _, HI.out.fs, by simp [Value.ownBlock], fun k _ => by simp [Value.ownBlock]⟩, ?_, HT'.out⟩
            · rw [show (s.crash keep tear).sec.length = s.sec.length from crashL_length _ _ _]
              exact HR'.out
            · rintro i (hi | hi | hi)
              · exact .inl (.inl hi)
              · rcases HI.out.fr i hi with h1 | h1
                · exact .inl (.inr (.inl h1))
                · exact .inr h1
              · simp [Value.ownBlock] at hi
end Go.Proofs.YtoojdknfommpbaaDoor
