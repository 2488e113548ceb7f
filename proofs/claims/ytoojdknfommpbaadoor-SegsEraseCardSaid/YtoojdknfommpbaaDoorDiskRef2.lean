/- The walks of the document's disk: Flush and Crash. -/
import Derived.Test.YtoojdknfommpbaaDoorDiskRef
import Derived.Deep.RegionHeld3
namespace Go.Proofs.YtoojdknfommpbaaDoor
open Go.RowKit
set_option maxRecDepth 10000

/-- Where a flush or a crash of the document's disk is at. -/
structure RSecAt (w W : World) (b : Nat) (s : St) (sv0 wv sv : Value) (L : List ByteArray) : Prop where
  five : Five 77 W b sv wv (.int .i64 (s.left : Int)) (.int .i64 (s.done : Int)) (.bool s.dead)
  sec : W.ownsRow 0 9 1 sv s.sec.length (L.map Value.string)
  wai : W.ownsRow 0 119 2 wv s.waits.length (wcells s.waits)
  tou : Tou (Foot b sv0 wv) w W
  fs : sv.ownBlock ≠ some b
  fw : wv.ownBlock ≠ some b
  ap : ∀ k, sv.ownBlock = some k → wv.ownBlock ≠ some k
  fr : ∀ k, sv.ownBlock = some k → sv0.ownBlock = some k ∨ w.heap.size ≤ k
theorem RSecAt.next {w W W1 : World} {b n : Nat} {s : St} {sv0 wv sv v1 : Value} {L L1 : List ByteArray} (h : RSecAt w W b s sv0 wv sv L) (hT : Below W.heap.size W W1) (hn : n = s.sec.length)
    (hown : W1.ownsRow W.heap.size 9 1 v1 n (L1.map Value.string)) : RSecAt w (W1.setCell ⟨b, 0, none⟩ v1) b s sv0 wv v1 L1 := by
  subst hn
  have hlt := h.five.lt
  have hv1 : v1.ownBlock ≠ some b := fun e => by have := (World.ownsRow.lt hown b e).1; omega
  refine ⟨(h.five.below hT).s0 v1, ?_, ?_, ?_, hv1, h.fw, ?_, ?_⟩
  · exact own_block (own_rebase hown fun _ _ => Nat.zero_le _) fun k hk => Below.heap_setCell _ _ _ _ (by rintro rfl; exact hv1 hk)
  · refine own_block (own_block h.wai fun k hk => hT.block k (World.ownsRow.lt h.wai k hk).2) fun k hk => Below.heap_setCell _ _ _ _ (by rintro rfl; exact h.fw hk)
  · exact (h.tou.trans (tou_of_below hT)).set (.inl (.inl rfl)) 0 v1
  · intro k hk hk2
    have h1 := (World.ownsRow.lt hown k hk).1
    have h2 := (World.ownsRow.lt h.wai k hk2).2
    omega
  · intro k hk
    have h1 := (World.ownsRow.lt hown k hk).1
    have h2 := h.tou.size
    omega
theorem RSecAt.drew {w W : World} {b : Nat} {s : St} {sv0 wv sv : Value} {L : List ByteArray} (h : RSecAt w W b s sv0 wv sv L) : RSecAt w W.drew b s sv0 wv sv L :=
  ⟨h.five.drew 1, h.sec.drew, h.wai.drew, h.tou.drew 1, h.fs, h.fw, h.ap, h.fr⟩
set_option maxHeartbeats 4000000 in
theorem rflush_any (w : World) (b : Nat) (s : St) (sv wv : Value) (h : RefAt w b s sv wv) (hok : s.ok 1000000) (hleft : s.left ≤ 9223372036854775807) :
    Calls Tryd.prog 93 #[.pointer (some ⟨b, 0, none⟩)] w fun e w' => e = .returned (.int .i64 s.flush.2) ∧ RStep w b sv wv s.flush.1 w' := by
  have hlen : s.sec.length ≤ 512 := hok.most
  have hlen2 : 2 ≤ s.sec.length := hok.two
  have hf := h.five
  have HS := Lib.hid h.same
  have c4 := hf.c4
  have HD := Lib.hid h
  have HW : Hid (∃ r : St × Int, r = s.flush) := Lib.hid ⟨_, rfl⟩
  obtain ⟨r, hr⟩ := HW.out
  rw [← hr]
  unfold St.flush at hr
  clear HW h
  by_cases hd : s.dead = true
  · rw [if_pos hd] at hr
    subst hr
    clear hf
    go_enter Tryd.func93, Tryd.ntmps93
    go_wp2
    go_ret
    exact ⟨rfl, HS.out⟩
  · rw [if_neg hd] at hr
    have hd' : s.dead = false := by simpa using hd
    have hop : s.op.dead = decide (s.left = 1) := by unfold St.op; rw [hd']; simp
    rw [hop] at hr
    rw [hd'] at hf c4
    have hdone := hok.ops
    have hfew := hok.few
    have HB := Lib.hid (rop_any _ w b s.left s.done sv wv hf hleft hdone)
    clear hf
    by_cases hl1 : s.left = 1
    · rw [decide_eq_true hl1] at hr HB
      rw [if_pos rfl] at hr
      subst hr
      go_enter Tryd.func93, Tryd.ntmps93
      go_wp2_with (go_at_call 115; (with_reducible refine HB.out.mono ?_); rintro e w2 ⟨rfl, hf2, ht2⟩)
      go_ret
      exact ⟨rfl, _, wv, ⟨by unfold St.op; rw [hl1, hd'] at *; exact hf2, (HD.out.rows.five ht2).of_eq rfl rfl⟩, fun _ hk => .inl hk, ht2.mono fun k _ hk => .inl hk⟩
    · rw [decide_eq_false hl1] at hr HB
      rw [if_neg (by decide)] at hr
      subst hr
      obtain ⟨A2, c2, rfl, hc2⟩ := sl_form HD.out.rows.wai
      have hwI : (s.waits.length : Int) ≤ 1000000 := by omega
      go_enter Tryd.func93, Tryd.ntmps93
      go_wp2_with (go_at_call 115; (with_reducible refine HB.out.mono ?_); rintro e w2 ⟨rfl, hf2, ht2⟩)
      go_loopw [3] (fun i W => ∃ k : Nat, k ≤ s.waits.length ∧ i = .int .i64 k ∧ Hid (∃ sv1, RSecAt w W b { s.op with waits := s.waits } sv (.slice A2 s.waits.length c2) sv1 (applyW s.sec (s.waits.take k)))) (fun i _ => s.waits.length - (intOf i).toNat)
      case atStart =>
        have hr2 := HD.out.rows.five ht2
        exact ⟨0, by omega, rfl, Lib.hid ⟨sv, by unfold St.op; simpa [hd', hl1] using hf2, hr2.sec, hr2.wai, ht2.mono fun k _ hk => .inl hk, hr2.fs, hr2.fw, hr2.ap, fun k hk => .inl hk⟩⟩
      case round =>
        obtain ⟨k, hk, rfl, HE⟩ := hrel
        obtain ⟨sv1, hI⟩ := HE.out
        have HI := Lib.hid hI
        clear HE hI
        have b1 := HI.out.five.c1
        by_cases hlt : k < s.waits.length
        · obtain ⟨g2, rfl⟩ : ∃ g2, A2 = some ⟨g2, 0, none⟩ := by
            obtain ⟨g, c, he, _⟩ := World.ownsRow.form HI.out.wai (by show 0 < s.waits.length; omega)
            simp only [Value.slice.injEq] at he
            exact ⟨g, he.1⟩
          have hIs : wr.ownsRow 0 9 1 sv1 s.sec.length ((applyW s.sec (s.waits.take k)).map Value.string) := HI.out.sec
          obtain ⟨g1, c1, rfl, _⟩ := World.ownsRow.form hIs (by omega)
          clear hIs
          have q0 := own_at HI.out.wai (k * 2) _ (by rw [Nat.mul_comm]; exact (wcells_at s.waits k hlt).1)
          have q1 := own_at HI.out.wai (k * 2 + 1) _ (by rw [Nat.mul_comm]; exact (wcells_at s.waits k hlt).2)
          have hkI : (k : Int) < (s.waits.length : Int) := by omega
          have hx := hok.fits _ (List.getElem_mem hlt)
          have HT : Hid (applyW s.sec (s.waits.take (k + 1)) = (applyW s.sec (s.waits.take k)).set s.waits[k].1 s.waits[k].2) := Lib.hid (by rw [take_succ' _ _ hlt, applyW_snoc])
          obtain ⟨x, hxe⟩ : ∃ x, s.waits[k] = x := ⟨_, rfl⟩
          rw [hxe] at q0 q1 hx HT
          clear hxe
          obtain ⟨L, hL⟩ : ∃ L, applyW s.sec (s.waits.take k) = L := ⟨_, rfl⟩
          have hLl : L.length = s.sec.length := by rw [← hL]; exact applyW_length _ _
          rw [hL] at HI HT
          clear hL
          have b0 := HI.out.five.c0
          have hxI : (x.1 : Int) < (s.sec.length : Int) := by omega
          have HC : Hid (∀ W0, Below wr.heap.size wr W0 → Calls Tryd.prog 116 #[.slice (some ⟨g1, 0, none⟩) s.sec.length c1, .int .i64 (x.1 : Int), .string x.2] W0 fun e w' =>
              ∃ v', e = .returned v' ∧ w'.ownsRow W0.heap.size 9 1 v' s.sec.length ((L.set x.1 x.2).map Value.string) ∧ Below W0.heap.size W0 w') := Lib.hid fun W0 hb => by
            have := with_any W0 (.slice (some ⟨g1, 0, none⟩) s.sec.length c1) L x.1 x.2 (by rw [hLl]; exact own_block HI.out.sec fun k hk => hb.block k (World.ownsRow.lt HI.out.sec k hk).2) (by omega) (by omega)
            rw [hLl] at this
            exact this
          have hgb : g2 ≠ b := fun e => HI.out.fw (by subst e; rfl)
          have HSt : Hid (∀ w3, Below wr.heap.size wr w3 → (w3.cell? ⟨b, 0, none⟩ = some (.slice (some ⟨g1, 0, none⟩) s.sec.length c1) ∧ w3.frozen? ⟨b, 0, none⟩ = false) ∧
              (w3.cell? ⟨b, 1, none⟩ = some (.slice (some ⟨g2, 0, none⟩) s.waits.length c2) ∧ w3.cell? ⟨g2, k * 2, none⟩ = some (.int .i64 (x.1 : Int)) ∧ w3.cell? ⟨g2, k * 2 + 1, none⟩ = some (.string x.2)) ∧
              ∀ v, (w3.setCell ⟨b, 0, none⟩ v).cell? ⟨b, 1, none⟩ = some (.slice (some ⟨g2, 0, none⟩) s.waits.length c2) ∧ (w3.setCell ⟨b, 0, none⟩ v).cell? ⟨g2, k * 2, none⟩ = some (.int .i64 (x.1 : Int)) ∧ (w3.setCell ⟨b, 0, none⟩ v).cell? ⟨g2, k * 2 + 1, none⟩ = some (.string x.2)) := Lib.hid fun w3 hb =>
            ⟨⟨cell_below hb b0, (HI.out.five.below hb).fz 0⟩, ⟨cell_below hb b1, cell_below hb q0, cell_below hb q1⟩, fun v =>
              ⟨(World.cell?_setCell_other _ _ _ _ (by simp)).trans (cell_below hb b1), (World.cell?_setCell_other _ _ _ _ (by simp only [ne_eq, Addr.mk.injEq]; omega)).trans (cell_below hb q0), (World.cell?_setCell_other _ _ _ _ (by simp only [ne_eq, Addr.mk.injEq]; omega)).trans (cell_below hb q1)⟩⟩
          have hbr := Below.refl wr.heap.size wr
          go_wp2
          clear HB HS hdone hfew hl1 hop hd hd' c4 hlt
          refine wp_region_noPanic ?_
          refine wp_region_held_drew (S := fun W' : World => W'.cell? ⟨b, 1, none⟩ = some (.slice (some ⟨g2, 0, none⟩) s.waits.length c2) ∧ W'.cell? ⟨g2, k * 2, none⟩ = some (.int .i64 (x.1 : Int)) ∧ W'.cell? ⟨g2, k * 2 + 1, none⟩ = some (.string x.2)) (by kernel_rfl) ?_ (fun hHeld => ?_)
          · exact ⟨b1, q0, q1⟩
          refine wpAnyH_take (i := 0) (oi := { dst := some 22, op := _, type := _, pos := _, after := _, guard := _ }) (v := ?_) rfl (by kernel_rfl) (by kernel_rfl) (by kernel_rfl) (fun _ _ _ h => h) (Or.inl ⟨by rfl, ?_⟩) (by assumption) ?_
          rotate_left
          · (intro w hSw; (try dsimp only at hSw); go_simp; try with_reducible rfl)
          (try simp only [Act.put, List.setIfInBounds_toArray, List.set_cons_zero, List.set_cons_succ])
          refine wpAnyH_take (i := 1) (oi := { dst := some 23, op := _, type := _, pos := _, after := _, guard := _ }) (v := ?_) rfl (by kernel_rfl) (by kernel_rfl) (by kernel_rfl) (fun _ _ _ h => h) (Or.inl ⟨by rfl, ?_⟩) (by assumption) ?_
          rotate_left
          · (intro w hSw; (try dsimp only at hSw); go_simp; try with_reducible rfl)
          (try simp only [Act.put, List.setIfInBounds_toArray, List.set_cons_zero, List.set_cons_succ])
          refine wpAnyH_take (i := 2) (oi := { dst := some 24, op := _, type := _, pos := _, after := _, guard := _ }) (v := ?_) rfl (by kernel_rfl) (by kernel_rfl) (by kernel_rfl) (fun _ _ _ h => h) (Or.inl ⟨by rfl, ?_⟩) (by assumption) ?_
          rotate_left
          · (intro w hSw; (try dsimp only at hSw); go_simp; try with_reducible rfl)
          (try simp only [Act.put, List.setIfInBounds_toArray, List.set_cons_zero, List.set_cons_succ])
          refine wpAnyH_take (i := 3) (oi := { dst := some 25, op := _, type := _, pos := _, after := _, guard := _ }) (v := ?_) rfl (by kernel_rfl) (by kernel_rfl) (by kernel_rfl) (fun _ _ _ h => h) (Or.inl ⟨by rfl, ?_⟩) (by assumption) ?_
          rotate_left
          · (intro w hSw; (try dsimp only at hSw); go_simp; try with_reducible rfl)
          (try simp only [Act.put, List.setIfInBounds_toArray, List.set_cons_zero, List.set_cons_succ])
          refine wpAnyH_take (i := 5) (oi := { dst := some 27, op := _, type := _, pos := _, after := _, guard := _ }) (v := ?_) rfl (by kernel_rfl) (by kernel_rfl) (by kernel_rfl) (fun _ _ _ h => h) (Or.inl ⟨by rfl, ?_⟩) (by assumption) ?_
          rotate_left
          · (intro w hSw; (try dsimp only at hSw); go_simp; try with_reducible rfl)
          (try simp only [Act.put, List.setIfInBounds_toArray, List.set_cons_zero, List.set_cons_succ])
          refine wpAnyH_take (i := 6) (oi := { dst := some 28, op := _, type := _, pos := _, after := _, guard := _ }) (v := ?_) rfl (by kernel_rfl) (by kernel_rfl) (by kernel_rfl) (fun _ _ _ h => h) (Or.inl ⟨by rfl, ?_⟩) (by assumption) ?_
          rotate_left
          · (intro w hSw; (try dsimp only at hSw); go_simp; try with_reducible rfl)
          (try simp only [Act.put, List.setIfInBounds_toArray, List.set_cons_zero, List.set_cons_succ])
          refine wpAnyH_take (i := 7) (oi := { dst := some 29, op := _, type := _, pos := _, after := _, guard := _ }) (v := ?_) rfl (by kernel_rfl) (by kernel_rfl) (by kernel_rfl) (fun _ _ _ h => h) (Or.inl ⟨by rfl, ?_⟩) (by assumption) ?_
          rotate_left
          · (intro w hSw; (try dsimp only at hSw); go_simp; try with_reducible rfl)
          (try simp only [Act.put, List.setIfInBounds_toArray, List.set_cons_zero, List.set_cons_succ])
          refine wpAnyH_take (i := 8) (oi := { dst := some 30, op := _, type := _, pos := _, after := _, guard := _ }) (v := ?_) rfl (by kernel_rfl) (by kernel_rfl) (by kernel_rfl) (fun _ _ _ h => h) (Or.inl ⟨by rfl, ?_⟩) (by assumption) ?_
          rotate_left
          · (intro w hSw; (try dsimp only at hSw); go_simp; try with_reducible rfl)
          (try simp only [Act.put, List.setIfInBounds_toArray, List.set_cons_zero, List.set_cons_succ])
          refine wpAnyH_take (i := 9) (oi := { dst := some 31, op := _, type := _, pos := _, after := _, guard := _ }) (v := ?_) rfl (by kernel_rfl) (by kernel_rfl) (by kernel_rfl) (fun _ _ _ h => h) (Or.inl ⟨by rfl, ?_⟩) (by assumption) ?_
          rotate_left
          · (intro w hSw; (try dsimp only at hSw); go_simp; try with_reducible rfl)
          (try simp only [Act.put, List.setIfInBounds_toArray, List.set_cons_zero, List.set_cons_succ])
          refine wpAnyH_take (i := 10) (oi := { dst := some 32, op := _, type := _, pos := _, after := _, guard := _ }) (v := ?_) rfl (by kernel_rfl) (by kernel_rfl) (by kernel_rfl) (fun _ _ _ h => h) (Or.inl ⟨by rfl, ?_⟩) (by assumption) ?_
          rotate_left
          · (intro w hSw; (try dsimp only at hSw); go_simp; try with_reducible rfl)
          (try simp only [Act.put, List.setIfInBounds_toArray, List.set_cons_zero, List.set_cons_succ])
          refine wpAnyH_take (i := 11) (oi := { dst := some 33, op := _, type := _, pos := _, after := _, guard := _ }) (v := ?_) rfl (by kernel_rfl) (by kernel_rfl) (by kernel_rfl) (fun _ _ _ h => h) (Or.inl ⟨by rfl, ?_⟩) (by assumption) ?_
          rotate_left
          · (intro w hSw; (try dsimp only at hSw); go_simp; try with_reducible rfl)
          (try simp only [Act.put, List.setIfInBounds_toArray, List.set_cons_zero, List.set_cons_succ])
          refine wpAnyH_take (i := 12) (oi := { dst := some 34, op := _, type := _, pos := _, after := _, guard := _ }) (v := ?_) rfl (by kernel_rfl) (by kernel_rfl) (by kernel_rfl) (fun _ _ _ h => h) (Or.inl ⟨by rfl, ?_⟩) (by assumption) ?_
          rotate_left
          · (intro w hSw; (try dsimp only at hSw); go_simp; try with_reducible rfl)
          (try simp only [Act.put, List.setIfInBounds_toArray, List.set_cons_zero, List.set_cons_succ])
          refine wpAnyH_take (i := 13) (oi := { dst := some 35, op := _, type := _, pos := _, after := _, guard := _ }) (v := ?_) rfl (by kernel_rfl) (by kernel_rfl) (by kernel_rfl) (fun _ _ _ h => h) (Or.inl ⟨by rfl, ?_⟩) (by assumption) ?_
          rotate_left
          · (intro w hSw; (try dsimp only at hSw); go_simp; try with_reducible rfl)
          (try simp only [Act.put, List.setIfInBounds_toArray, List.set_cons_zero, List.set_cons_succ])
          refine wpAnyH_take (i := 14) (oi := { dst := some 36, op := _, type := _, pos := _, after := _, guard := _ }) (v := ?_) rfl (by kernel_rfl) (by kernel_rfl) (by kernel_rfl) (fun _ _ _ h => h) (Or.inl ⟨by rfl, ?_⟩) (by assumption) ?_
          rotate_left
          · (intro w hSw; (try dsimp only at hSw); go_simp; try with_reducible rfl)
          (try simp only [Act.put, List.setIfInBounds_toArray, List.set_cons_zero, List.set_cons_succ])
          refine wpAnyH_take (i := 15) (oi := { dst := some 37, op := _, type := _, pos := _, after := _, guard := _ }) (v := ?_) rfl (by kernel_rfl) (by kernel_rfl) (by kernel_rfl) (fun _ _ _ h => h) (Or.inl ⟨by rfl, ?_⟩) (by assumption) ?_
          rotate_left
          · (intro w hSw; (try dsimp only at hSw); go_simp; try with_reducible rfl)
          (try simp only [Act.put, List.setIfInBounds_toArray, List.set_cons_zero, List.set_cons_succ])
          refine wpAnyH_take (i := 16) (oi := { dst := some 38, op := _, type := _, pos := _, after := _, guard := _ }) (v := ?_) rfl (by kernel_rfl) (by kernel_rfl) (by kernel_rfl) (fun _ _ _ h => h) (Or.inl ⟨by rfl, ?_⟩) (by assumption) ?_
          rotate_left
          · (intro w hSw; (try dsimp only at hSw); go_simp; try with_reducible rfl)
          (try simp only [Act.put, List.setIfInBounds_toArray, List.set_cons_zero, List.set_cons_succ])
          refine wpAnyH_take (i := 17) (oi := { dst := some 39, op := _, type := _, pos := _, after := _, guard := _ }) (v := ?_) rfl (by kernel_rfl) (by kernel_rfl) (by kernel_rfl) (fun _ _ _ h => h) (Or.inl ⟨by rfl, ?_⟩) (by assumption) ?_
          rotate_left
          · (intro w hSw; (try dsimp only at hSw); go_simp; try with_reducible rfl)
          (try simp only [Act.put, List.setIfInBounds_toArray, List.set_cons_zero, List.set_cons_succ])
          refine wpAnyH_take (i := 18) (oi := { dst := some 40, op := _, type := _, pos := _, after := _, guard := _ }) (v := ?_) rfl (by kernel_rfl) (by kernel_rfl) (by kernel_rfl) (fun _ _ _ h => h) (Or.inl ⟨by rfl, ?_⟩) (by assumption) ?_
          rotate_left
          · (intro w hSw; (try dsimp only at hSw); go_simp; try with_reducible rfl)
          (try simp only [Act.put, List.setIfInBounds_toArray, List.set_cons_zero, List.set_cons_succ])
          refine wpAnyH_take (i := 19) (oi := { dst := some 41, op := _, type := _, pos := _, after := _, guard := _ }) (v := ?_) rfl (by kernel_rfl) (by kernel_rfl) (by kernel_rfl) (fun _ _ _ h => h) (Or.inl ⟨by rfl, ?_⟩) (by assumption) ?_
          rotate_left
          · (intro w hSw; (try dsimp only at hSw); go_simp; try with_reducible rfl)
          (try simp only [Act.put, List.setIfInBounds_toArray, List.set_cons_zero, List.set_cons_succ])
          refine wpAnyH_take (i := 20) (oi := { dst := some 42, op := _, type := _, pos := _, after := _, guard := _ }) (v := ?_) rfl (by kernel_rfl) (by kernel_rfl) (by kernel_rfl) (fun _ _ _ h => h) (Or.inl ⟨by rfl, ?_⟩) (by assumption) ?_
          rotate_left
          · (intro w hSw; (try dsimp only at hSw); go_simp; try with_reducible rfl)
          (try simp only [Act.put, List.setIfInBounds_toArray, List.set_cons_zero, List.set_cons_succ])
          refine wpAnyH_ready (rs := [4]) (by kernel_rfl) (by simp) ?_
          refine AllReadyH.cons (o := { dst := some 26, op := _, type := _, pos := _, after := _, guard := _ }) rfl (fun K hK => ?_) ?_
          · go_simp
            refine hK.out _ _ ?_ (fun hHeld => ?_)
            · exact ⟨b1, q0, q1⟩
            clear hK K
            (try simp only [Act.put, List.setIfInBounds_toArray, List.set_cons_zero, List.set_cons_succ])
            refine wpAnyH_ready (rs := [21]) (by kernel_rfl) (by simp) ?_
            refine AllReadyH.cons (o := { dst := some 43, op := _, type := _, pos := _, after := _, guard := _ }) rfl (fun K hK => ?_) ?_
            · go_simp
              (go_at_call 116; (with_reducible refine (HC.out _ (Below.drew hbr)).mono ?_); rintro e w3 ⟨v3, rfl, hown3, hb3⟩; obtain ⟨⟨z0, z1⟩, y1, y2⟩ := HSt.out w3 (below_drew1 hb3); obtain ⟨A3, c3, rfl, _⟩ := sl_form hown3)
              go_wp2_with fail
              refine hK.out _ _ ?_ (fun hHeld => ?_)
              · exact y1
              clear hK K
              (try simp only [Act.put, List.setIfInBounds_toArray, List.set_cons_zero, List.set_cons_succ])
              refine wpAnyH_take (i := 22) (oi := { dst := some 44, op := _, type := _, pos := _, after := _, guard := _ }) (v := ?_) rfl (by kernel_rfl) (by kernel_rfl) (by kernel_rfl) (fun _ _ _ h => h) (Or.inl ⟨by rfl, ?_⟩) (by assumption) ?_
              rotate_left
              · (intro w hSw; (try dsimp only at hSw); go_simp; try with_reducible rfl)
              (try simp only [Act.put, List.setIfInBounds_toArray, List.set_cons_zero, List.set_cons_succ])
              refine wpAnyH_take (i := 23) (oi := { dst := some 45, op := _, type := _, pos := _, after := _, guard := _ }) (v := ?_) rfl (by kernel_rfl) (by kernel_rfl) (by kernel_rfl) (fun _ _ _ h => h) (Or.inl ⟨by rfl, ?_⟩) (by assumption) ?_
              rotate_left
              · (intro w hSw; (try dsimp only at hSw); go_simp; try with_reducible rfl)
              (try simp only [Act.put, List.setIfInBounds_toArray, List.set_cons_zero, List.set_cons_succ])
              refine wpAnyH_ready (rs := [24]) (by kernel_rfl) (by simp) ?_
              refine AllReadyH.cons (o := { dst := none, op := _, type := _, pos := _, after := _, guard := _ }) rfl (fun K hK => ?_) ?_
              · go_simp
                refine hK.out _ _ ?_ (fun hHeld => ?_)
                · exact y2 _
                clear hK K
                (try simp only [Act.put, List.setIfInBounds_toArray, List.set_cons_zero, List.set_cons_succ])
                refine wpAnyH_done (by kernel_rfl) ?_ _
                refine NoPanic.normal ?_
                go_wp2
                go_roundw
                case measure => simp [intOf]; omega
                case rel => exact ⟨k + 1, by omega, by go_num, Lib.hid ⟨_, by rw [HT.out]; exact HI.out.next (below_drew1 hb3) rfl hown3⟩⟩
              exact AllReadyH.nil
            exact AllReadyH.nil
          exact AllReadyH.nil
        · obtain rfl : k = s.waits.length := by omega
          have f1 := HI.out.five.fz 1
          rw [List.take_length] at HI
          go_wp2
          go_ret
          refine ⟨rfl, sv1, .slice none 0 0, ⟨by have h5 := HI.out.five.s1 (.slice none 0 0); simp only [hop, decide_eq_false hl1] at h5; exact h5, ?_, World.ownsRow_nil _ _ _ _, HI.out.fs, by simp [Value.ownBlock], fun k _ => by simp [Value.ownBlock]⟩, ?_, HI.out.tou.set (.inl (.inl rfl)) 1 _⟩
          · rw [show ({ left := s.op.left, done := s.op.done, dead := s.op.dead, sec := applyW s.sec s.waits, waits := [] } : St).sec.length = s.sec.length from applyW_length _ _]
            exact own_block HI.out.sec fun k hk => Below.heap_setCell _ _ _ _ (by rintro rfl; exact HI.out.fs hk)
          · rintro k (hk | hk | hk)
            · exact .inl (.inl hk)
            · rcases HI.out.fr k hk with h1 | h1
              · exact .inl (.inr (.inl h1))
              · exact .inr h1
            · simp [Value.ownBlock] at hk
end Go.Proofs.YtoojdknfommpbaaDoor
