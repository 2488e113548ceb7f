/- The walk of the document's Put: what it computes. -/
import Derived.Test.YtmmajdkngboecaaFrameWalk
import Derived.Deep.RegionHeld3
namespace Go.Proofs.Ytmmajdkngboecaa
open Go.RowKit
set_option maxRecDepth 10000

theorem conv2_at (W : World) (b : Nat) (x y : Int) (h0 : W.cell? ⟨b, 0, none⟩ = some (.int .u8 x)) (h1 : W.cell? ⟨b, 1, none⟩ = some (.int .u8 y)) :
    (convert 33 9 (.slice (some ⟨b, 0, none⟩) 2 2)).run Try.prog W = .ok (.string (strOfNums [x, y])) W :=
  run_convert_bytes_arg (P := Try.prog) _ 33 5 Try.underlying33 Try.underlying5 b 0 2 2 [x, y] rfl (fun i hi => by
    rcases (show i = 0 ∨ i = 1 by omega) with rfl | rfl <;> assumption) 9 Try.underlying9

theorem bl_append (a b : ByteArray) : bl (a ++ b) = bl a ++ bl b := by unfold bl; simp
theorem frameStr (t s : ByteArray) (hs : s.size ≤ 4096) :
    bl (t ++ strOfNums [IntKind.u8.wrap (IntKind.i64.wrap ((s.size : Int) / 256)), IntKind.u8.wrap ((s.size : Int).tmod 256)] ++ octS (sumB (bl s)) ++ s) = bl t ++ frameB (bl s) := by
  have h1 : IntKind.u8.wrap (IntKind.i64.wrap ((s.size : Int) / 256)) = (s.size / 256 : Nat) := by
    rw [IntWalk.i64_in _ (by omega), IntKind.wrap_u8]; omega
  have h2 : IntKind.u8.wrap ((s.size : Int).tmod 256) = (s.size % 256 : Nat) := by
    rw [Int.tmod_eq_emod_of_nonneg (by omega), IntKind.wrap_u8]; omega
  rw [h1, h2, bl_append, bl_append, bl_append, bl_octS]
  have h3 : bl (strOfNums [((s.size / 256 : Nat) : Int), ((s.size % 256 : Nat) : Int)]) = [UInt8.ofNat (s.size / 256), UInt8.ofNat s.size] := by
    show [UInt8.ofNat _, UInt8.ofNat _] = _
    simp only [Int.toNat_natCast, List.cons.injEq, and_true, true_and]
    apply UInt8.toNat_inj.1; rw [UInt8.toNat_ofNat', UInt8.toNat_ofNat']; omega
  rw [h3]
  unfold frameB
  rw [bl_length]; simp
theorem bl_eq {t : ByteArray} {l : List UInt8} (h : bl t = l) : t = ⟨l.toArray⟩ := by
  cases t with | mk d => rw [← h]; rfl
theorem ks_drew {w W : World} {a : Addr} {v : Value} (h : W.cell? a = some v ∧ Below w.heap.size w W) : W.drew.cell? a = some v ∧ Below w.heap.size w W.drew := ⟨h.1, h.2.drew⟩
theorem ks_alloc {w W : World} {a : Addr} {v : Value} {o : Obj} (h : W.cell? a = some v ∧ Below w.heap.size w W) : (W.alloc o).cell? a = some v ∧ Below w.heap.size w (W.alloc o) :=
  ⟨cell_below (below_new _ _) h.1, below_alloc h.2 _⟩
theorem ks_ad {w W : World} {a : Addr} {v : Value} {o : Obj} (h : W.cell? a = some v ∧ Below w.heap.size w W) : (W.alloc o).drew.cell? a = some v ∧ Below w.heap.size w (W.alloc o).drew := ks_drew (ks_alloc h)
theorem cells2_after {W0 W2 : World} {x y : Value} {T : TypeId} (hb : Below (W0.alloc (.cells #[x, y] T)).heap.size (W0.alloc (.cells #[x, y] T)) W2) :
    W2.cell? ⟨W0.heap.size, 0, none⟩ = some x ∧ W2.cell? ⟨W0.heap.size, 1, none⟩ = some y :=
  ⟨cell_below hb (by rw [World.cell?_alloc_new]; rfl), cell_below hb (by rw [World.cell?_alloc_new]; rfl)⟩

theorem cells2_drew {W0 W2 : World} {x y : Value} {T : TypeId} (hb : Below (W0.alloc (.cells #[x, y] T)).drew.heap.size (W0.alloc (.cells #[x, y] T)).drew W2) :
    W2.cell? ⟨W0.heap.size, 0, none⟩ = some x ∧ W2.cell? ⟨W0.heap.size, 1, none⟩ = some y := cells2_after (below_drew1 hb)
theorem conv2_drew (w : World) (T : TypeId) (a b : Int) : (convert 33 9 (.slice (some ⟨w.heap.size, 0, none⟩) 2 2)).run Try.prog (w.alloc (.cells #[.int .u8 a, .int .u8 b] T)).drew = .ok (.string (strOfNums [a, b])) (w.alloc (.cells #[.int .u8 a, .int .u8 b] T)).drew :=
  conv2_at _ _ _ _ ((World.cell?_alloc_new _ _ _ _).trans rfl) ((World.cell?_alloc_new _ _ _ _).trans rfl)

set_option maxHeartbeats 600000 in
theorem put_ref (v : Value) (l : List ByteArray) (w : World) (hs : Sl Value.string w v l) (hl : sizeL l ≤ 1000000000) :
    Calls Try.prog 39 #[v] w fun e w' => e = .returned (.tuple #[.string (putS l), .int .i64 (putE l)]) ∧ Below w.heap.size w w' := by
  have HV := Lib.hid hs
  obtain ⟨A, c, rfl, hc, hread⟩ := hs
  have HR := Lib.hid hread; clear hread
  have hlen := length_le_sizeL l
  have hlI : (l.length : Int) ≤ 1000000000 := by omega
  have HSz := Lib.hid (size_ref _ l w HV.out (by omega))
  go_enter Try.func39, Try.ntmps39
  go_wp2_with fail
  go_loop [4] (fun i => ∃ k : Nat, k ≤ l.length ∧ i = .int .i64 k ∧ Hid ((l.take k).all okRec = true)) (fun i => l.length - (intOf i).toNat)
  case atStart => exact ⟨0, by omega, rfl, Lib.hid rfl⟩
  case round =>
    obtain ⟨k, hk, rfl, HA⟩ := hrel
    by_cases hlt : k < l.length
    · obtain ⟨a, rfl, hcell⟩ := HR.out k hlt
      have HT := Lib.hid (okRec_snoc l k hlt)
      have HMem := Lib.hid (List.getElem_mem hlt)
      generalize l[k] = s at *
      by_cases h0 : s.size = 0
      · have t1 : (s.size : Int) < 1 := by omega
        have HE : Hid (putE l = 1) := Lib.hid (by
          unfold putE; rw [if_neg]
          intro h; have := okRec_mem h HMem.out; omega)
        have HE2 : Hid (putS l = ByteArray.empty) := Lib.hid (by unfold putS; rw [HE.out]; rfl)
        clear h0
        go_wp2
        go_ret2
        exact ⟨by rw [HE.out, HE2.out]; rfl, Below.refl _ _⟩
      · have t1 : 1 ≤ (s.size : Int) := by omega
        by_cases hb : 4096 < s.size
        · have hbI : (4096 : Int) < (s.size : Int) := by omega
          have HE : Hid (putE l = 1) := Lib.hid (by
            unfold putE; rw [if_neg]
            intro h; have := okRec_mem h HMem.out; omega)
          have HE2 : Hid (putS l = ByteArray.empty) := Lib.hid (by unfold putS; rw [HE.out]; rfl)
          clear h0
          go_wp2
          go_ret2
          exact ⟨by rw [HE.out, HE2.out]; rfl, Below.refl _ _⟩
        · have hbI : (s.size : Int) ≤ 4096 := by omega
          have HK : Hid ((l.take (k + 1)).all okRec = true) := Lib.hid (by rw [HT.out, HA.out]; unfold okRec; simp; omega)
          clear h0
          go_wp2
          go_round
          case measure => simp [intOf]; omega
          case rel => exact ⟨k + 1, by omega, by go_num, HK⟩
    · obtain rfl : k = l.length := by omega
      have HAll : Hid (l.all okRec = true) := Lib.hid (by have := HA.out; rw [List.take_length] at this; exact this)
      by_cases hbig : 16384 < sizeL l
      · have hbI : (16384 : Int) < (sizeL l : Int) := by omega
        have HE : Hid (putE l = 9) := Lib.hid (by unfold putE; rw [if_pos HAll.out, if_pos hbig])
        have HE2 : Hid (putS l = ByteArray.empty) := Lib.hid (by unfold putS; rw [HE.out]; rfl)
        go_wp2_with (go_at_call 41; (with_reducible refine HSz.out.mono ?_); rintro e w' ⟨rfl, rfl⟩)
        go_ret2
        exact ⟨by rw [HE.out, HE2.out]; rfl, Below.refl _ _⟩
      · have hbI : (sizeL l : Int) ≤ 16384 := by omega
        have HE : Hid (putE l = 0) := Lib.hid (by unfold putE; rw [if_pos HAll.out, if_neg hbig])
        have HE2 : Hid (putS l = ⟨(framesB l).toArray⟩) := Lib.hid (by unfold putS; rw [HE.out]; rfl)
        go_wp2_with (go_at_call 41; (with_reducible refine HSz.out.mono ?_); rintro e w' ⟨rfl, rfl⟩)
        go_loopw [5, 6] (fun t i w' => ∃ k : Nat, k ≤ l.length ∧ i = .int .i64 k ∧ ∃ s : ByteArray, t = .string s ∧ Hid (bl s = framesB (l.take k)) ∧ Below w.heap.size w w') (fun _ i _ => l.length - (intOf i).toNat)
        case atStart => exact ⟨0, by omega, rfl, _, rfl, Lib.hid rfl, Below.refl _ _⟩
        case round =>
          obtain ⟨k, hk, rfl, t, rfl, HB, hbel⟩ := hrel
          by_cases hlt : k < l.length
          · obtain ⟨a, rfl, hcell0⟩ := HR.out k hlt
            have hcell := cell_below hbel hcell0
            clear hcell0
            have HMem := Lib.hid (List.getElem_mem hlt)
            have hok := okRec_mem HAll.out HMem.out
            have hs0 : 0 ≤ (l[k].size : Int) := by omega
            have hs1 : (l[k].size : Int) ≤ 4096 := by omega
            have HT := Lib.hid (take_snoc' l k hlt)
            have hs4 : l[k].size ≤ 4096 := hok.2
            have ht : t.size ≤ 16384 := by
              have h1 := congrArg List.length HB.out
              rw [bl_length, framesB_length] at h1
              have := sizeL_take_le l k; omega
            clear hok
            generalize l[k] = s at *
            have i0 : 0 ≤ (k : Int) := by omega
            have i1 : (k : Int) < (l.length : Int) := by omega
            go_wp2_with fail
            obtain ⟨o4, HO4⟩ : ∃ o4, Hid (o4 = octS (sumB (bl s))) := ⟨_, Lib.hid rfl⟩
            obtain ⟨p2, HP2⟩ : ∃ p2, Hid (p2 = strOfNums [IntKind.u8.wrap (IntKind.i64.wrap ((s.size : Int) / 256)), IntKind.u8.wrap ((s.size : Int).tmod 256)]) := ⟨_, Lib.hid rfl⟩
            have q1 : Hid (∀ W : World, Calls Try.prog 20 #[.string s] W fun e w' => e = .returned (.int .u32 (Ytmmajdkngboecaa.W (sumB (bl s)))) ∧ W = w') := Lib.hid fun W => sum_ref s W (by omega)
            have q2 : Hid (∀ W : World, (W.cell? (a.add k) = some (.string s) ∧ Below w.heap.size w W) → Calls Try.prog 24 #[.int .u32 (Ytmmajdkngboecaa.W (sumB (bl s)))] W fun e w' => e = .returned (.string o4) ∧ (w'.cell? (a.add k) = some (.string s) ∧ Below w.heap.size w w') ∧ Below W.heap.size W w') :=
              Lib.hid fun W h => (octets_ref _ W).mono fun e w' ⟨he, hb⟩ => ⟨by rw [HO4.out]; exact he, ⟨cell_below hb h.1, below_next h.2 hb⟩, hb⟩
            have hcv : ∀ (w : World) (T : TypeId), (convert 33 9 (.slice (some ⟨w.heap.size, 0, none⟩) 2 2)).run Try.prog (w.alloc (.cells #[.int .u8 (IntKind.u8.wrap (IntKind.i64.wrap ((s.size : Int) / 256))), .int .u8 (IntKind.u8.wrap ((s.size : Int).tmod 256))] T)).drew = .ok (.string p2) (w.alloc (.cells #[.int .u8 (IntKind.u8.wrap (IntKind.i64.wrap ((s.size : Int) / 256))), .int .u8 (IntKind.u8.wrap ((s.size : Int).tmod 256))] T)).drew :=
              fun w T => by rw [HP2.out]; exact conv2_drew w T _ _
            have hcw : ∀ (w : World) (T : TypeId), (convert 33 9 (.slice (some ⟨w.heap.size, 0, none⟩) 2 2)).run Try.prog (w.alloc (.cells #[.int .u8 (IntKind.u8.wrap (IntKind.i64.wrap ((s.size : Int) / 256))), .int .u8 (IntKind.u8.wrap ((s.size : Int).tmod 256))] T)) = .ok (.string p2) (w.alloc (.cells #[.int .u8 (IntKind.u8.wrap (IntKind.i64.wrap ((s.size : Int) / 256))), .int .u8 (IntKind.u8.wrap ((s.size : Int).tmod 256))] T)) :=
              fun w T => by rw [HP2.out]; exact conv2 w T _ _
            have z1 : p2.size = 2 := by rw [HP2.out]; rfl
            have z2 : o4.size = 4 := by rw [HO4.out]; rfl
            have e1 : ∀ (P : Program) (W : World), (Op.stringOp .add t p2).run P W = .ok (.string (t ++ p2)) W := fun P W => run_string_add_sum W t p2 (by omega)
            have z3 : (t ++ p2).size = t.size + 2 := by rw [ByteArray.size_append, z1]
            obtain ⟨t1, HT1⟩ : ∃ t1, Hid (t1 = t ++ p2) := ⟨_, Lib.hid rfl⟩
            have e2 : ∀ (P : Program) (W : World), (Op.stringOp .add t p2).run P W = .ok (.string t1) W := fun P W => by rw [HT1.out]; exact e1 P W
            obtain ⟨t2, HT2⟩ : ∃ t2, Hid (t2 = t1 ++ o4) := ⟨_, Lib.hid rfl⟩
            have e3 : ∀ (P : Program) (W : World), (Op.stringOp .add t1 o4).run P W = .ok (.string t2) W := fun P W => by rw [HT2.out]; exact run_string_add_sum W t1 o4 (by rw [HT1.out, z3, z2]; omega)
            obtain ⟨t3, HT3⟩ : ∃ t3, Hid (t3 = t2 ++ s) := ⟨_, Lib.hid rfl⟩
            have e4 : ∀ (P : Program) (W : World), (Op.stringOp .add t2 s).run P W = .ok (.string t3) W := fun P W => by rw [HT3.out]; exact run_string_add_sum W t2 s (by rw [HT2.out, ByteArray.size_append, HT1.out, z3, z2]; omega)
            have HF : Hid (bl t3 = framesB (l.take (k + 1))) := Lib.hid (by
              rw [HT.out, framesB_snoc, ← HB.out, HT3.out, HT2.out, HT1.out, HP2.out, HO4.out]
              exact frameStr t s hs4)
            clear HV HR hlen HSz ht hs0 hs4 e1 z1 z2 z3
            refine wp_region_noPanic ?_
            refine wp_region_held_drew (S := fun w' => w'.cell? (a.add k) = some (.string s) ∧ Below w.heap.size w w') (by kernel_rfl) ?_ (fun hHeld => ?_)
            · (first | (with_reducible assumption) | (with_reducible exact ks_drew ⟨hcell, hbel⟩) | (with_reducible exact ks_ad ⟨hcell, hbel⟩) | (with_reducible exact ks_alloc ‹_›))
            refine wpAnyH_take (i := 0) (oi := { dst := some 42, op := _, type := _, pos := _, after := _, guard := _ }) (v := ?_) rfl (by kernel_rfl) (by kernel_rfl) (by kernel_rfl) (fun _ _ _ h => h) (Or.inl ⟨by rfl, ?_⟩) (by assumption) ?_
            rotate_left
            · (intro w hSw; (try dsimp only at hSw); go_simp; try with_reducible rfl)
            (try simp only [Act.put, List.setIfInBounds_toArray, List.set_cons_zero, List.set_cons_succ])
            refine wpAnyH_take (i := 1) (oi := { dst := some 43, op := _, type := _, pos := _, after := _, guard := _ }) (v := ?_) rfl (by kernel_rfl) (by kernel_rfl) (by kernel_rfl) (fun _ _ _ h => h) (Or.inl ⟨by rfl, ?_⟩) (by assumption) ?_
            rotate_left
            · (intro w hSw; (try dsimp only at hSw); go_simp; try with_reducible rfl)
            (try simp only [Act.put, List.setIfInBounds_toArray, List.set_cons_zero, List.set_cons_succ])
            refine wpAnyH_take (i := 2) (oi := { dst := some 44, op := _, type := _, pos := _, after := _, guard := _ }) (v := ?_) rfl (by kernel_rfl) (by kernel_rfl) (by kernel_rfl) (fun _ _ _ h => h) (Or.inl ⟨by rfl, ?_⟩) (by assumption) ?_
            rotate_left
            · (intro w hSw; (try dsimp only at hSw); go_simp; try with_reducible rfl)
            (try simp only [Act.put, List.setIfInBounds_toArray, List.set_cons_zero, List.set_cons_succ])
            refine wpAnyH_take (i := 3) (oi := { dst := some 45, op := _, type := _, pos := _, after := _, guard := _ }) (v := ?_) rfl (by kernel_rfl) (by kernel_rfl) (by kernel_rfl) (fun _ _ _ h => h) (Or.inl ⟨by rfl, ?_⟩) (by assumption) ?_
            rotate_left
            · (intro w hSw; (try dsimp only at hSw); go_simp; try with_reducible rfl)
            (try simp only [Act.put, List.setIfInBounds_toArray, List.set_cons_zero, List.set_cons_succ])
            refine wpAnyH_take (i := 4) (oi := { dst := some 46, op := _, type := _, pos := _, after := _, guard := _ }) (v := ?_) rfl (by kernel_rfl) (by kernel_rfl) (by kernel_rfl) (fun _ _ _ h => h) (Or.inl ⟨by rfl, ?_⟩) (by assumption) ?_
            rotate_left
            · (intro w hSw; (try dsimp only at hSw); go_simp; try with_reducible rfl)
            (try simp only [Act.put, List.setIfInBounds_toArray, List.set_cons_zero, List.set_cons_succ])
            refine wpAnyH_take (i := 5) (oi := { dst := some 47, op := _, type := _, pos := _, after := _, guard := _ }) (v := ?_) rfl (by kernel_rfl) (by kernel_rfl) (by kernel_rfl) (fun _ _ _ h => h) (Or.inl ⟨by rfl, ?_⟩) (by assumption) ?_
            rotate_left
            · (intro w hSw; (try dsimp only at hSw); go_simp; try with_reducible rfl)
            (try simp only [Act.put, List.setIfInBounds_toArray, List.set_cons_zero, List.set_cons_succ])
            refine wpAnyH_take (i := 6) (oi := { dst := some 48, op := _, type := _, pos := _, after := _, guard := _ }) (v := ?_) rfl (by kernel_rfl) (by kernel_rfl) (by kernel_rfl) (fun _ _ _ h => h) (Or.inl ⟨by rfl, ?_⟩) (by assumption) ?_
            rotate_left
            · (intro w hSw; (try dsimp only at hSw); go_simp; try with_reducible rfl)
            (try simp only [Act.put, List.setIfInBounds_toArray, List.set_cons_zero, List.set_cons_succ])
            refine wpAnyH_take (i := 10) (oi := { dst := some 52, op := _, type := _, pos := _, after := _, guard := _ }) (v := ?_) rfl (by kernel_rfl) (by kernel_rfl) (by kernel_rfl) (fun _ _ _ h => h) (Or.inl ⟨by rfl, ?_⟩) (by assumption) ?_
            rotate_left
            · (intro w hSw; (try dsimp only at hSw); go_simp; try with_reducible rfl)
            (try simp only [Act.put, List.setIfInBounds_toArray, List.set_cons_zero, List.set_cons_succ])
            refine wpAnyH_take (i := 11) (oi := { dst := some 53, op := _, type := _, pos := _, after := _, guard := _ }) (v := ?_) rfl (by kernel_rfl) (by kernel_rfl) (by kernel_rfl) (fun _ _ _ h => h) (Or.inl ⟨by rfl, ?_⟩) (by assumption) ?_
            rotate_left
            · (intro w hSw; (try dsimp only at hSw); go_simp; try with_reducible rfl)
            (try simp only [Act.put, List.setIfInBounds_toArray, List.set_cons_zero, List.set_cons_succ])
            refine wpAnyH_take (i := 12) (oi := { dst := some 54, op := _, type := _, pos := _, after := _, guard := _ }) (v := ?_) rfl (by kernel_rfl) (by kernel_rfl) (by kernel_rfl) (fun _ _ _ h => h) (Or.inl ⟨by rfl, ?_⟩) (by assumption) ?_
            rotate_left
            · (intro w hSw; (try dsimp only at hSw); go_simp; try with_reducible rfl)
            (try simp only [Act.put, List.setIfInBounds_toArray, List.set_cons_zero, List.set_cons_succ])
            refine wpAnyH_take (i := 13) (oi := { dst := some 55, op := _, type := _, pos := _, after := _, guard := _ }) (v := ?_) rfl (by kernel_rfl) (by kernel_rfl) (by kernel_rfl) (fun _ _ _ h => h) (Or.inl ⟨by rfl, ?_⟩) (by assumption) ?_
            rotate_left
            · (intro w hSw; (try dsimp only at hSw); go_simp; try with_reducible rfl)
            (try simp only [Act.put, List.setIfInBounds_toArray, List.set_cons_zero, List.set_cons_succ])
            refine wpAnyH_take (i := 17) (oi := { dst := some 59, op := _, type := _, pos := _, after := _, guard := _ }) (v := ?_) rfl (by kernel_rfl) (by kernel_rfl) (by kernel_rfl) (fun _ _ _ h => h) (Or.inl ⟨by rfl, ?_⟩) (by assumption) ?_
            rotate_left
            · (intro w hSw; (try dsimp only at hSw); go_simp; try with_reducible rfl)
            (try simp only [Act.put, List.setIfInBounds_toArray, List.set_cons_zero, List.set_cons_succ])
            refine wpAnyH_take (i := 18) (oi := { dst := some 60, op := _, type := _, pos := _, after := _, guard := _ }) (v := ?_) rfl (by kernel_rfl) (by kernel_rfl) (by kernel_rfl) (fun _ _ _ h => h) (Or.inl ⟨by rfl, ?_⟩) (by assumption) ?_
            rotate_left
            · (intro w hSw; (try dsimp only at hSw); go_simp; try with_reducible rfl)
            (try simp only [Act.put, List.setIfInBounds_toArray, List.set_cons_zero, List.set_cons_succ])
            refine wpAnyH_take (i := 19) (oi := { dst := some 61, op := _, type := _, pos := _, after := _, guard := _ }) (v := ?_) rfl (by kernel_rfl) (by kernel_rfl) (by kernel_rfl) (fun _ _ _ h => h) (Or.inl ⟨by rfl, ?_⟩) (by assumption) ?_
            rotate_left
            · (intro w hSw; (try dsimp only at hSw); go_simp; try with_reducible rfl)
            (try simp only [Act.put, List.setIfInBounds_toArray, List.set_cons_zero, List.set_cons_succ])
            refine wpAnyH_take (i := 20) (oi := { dst := some 62, op := _, type := _, pos := _, after := _, guard := _ }) (v := ?_) rfl (by kernel_rfl) (by kernel_rfl) (by kernel_rfl) (fun _ _ _ h => h) (Or.inl ⟨by rfl, ?_⟩) (by assumption) ?_
            rotate_left
            · (intro w hSw; (try dsimp only at hSw); go_simp; try with_reducible rfl)
            (try simp only [Act.put, List.setIfInBounds_toArray, List.set_cons_zero, List.set_cons_succ])
            refine wpAnyH_ready (rs := [7, 14]) (by kernel_rfl) (by simp) ?_
            refine AllReadyH.cons (o := { dst := some 49, op := _, type := _, pos := _, after := _, guard := _ }) rfl (fun K hK => ?_) ?_
            · go_simp
              refine hK.out _ _ ?_ (fun hHeld => ?_)
              · (first | (with_reducible assumption) | (with_reducible exact ks_drew ⟨hcell, hbel⟩) | (with_reducible exact ks_ad ⟨hcell, hbel⟩) | (with_reducible exact ks_alloc ‹_›))
              clear hK K
              (try simp only [Act.put, List.setIfInBounds_toArray, List.set_cons_zero, List.set_cons_succ])
              refine wpAnyH_ready (rs := [8, 14]) (by kernel_rfl) (by simp) ?_
              refine AllReadyH.cons (o := { dst := some 50, op := _, type := _, pos := _, after := _, guard := _ }) rfl (fun K hK => ?_) ?_
              · go_simp
                refine hK.out _ _ ?_ (fun hHeld => ?_)
                · (first | (with_reducible assumption) | (with_reducible exact ks_drew ⟨hcell, hbel⟩) | (with_reducible exact ks_ad ⟨hcell, hbel⟩) | (with_reducible exact ks_alloc ‹_›))
                clear hK K
                (try simp only [Act.put, List.setIfInBounds_toArray, List.set_cons_zero, List.set_cons_succ])
                refine wpAnyH_take (i := 9) (oi := { dst := some 51, op := _, type := _, pos := _, after := _, guard := _ }) (v := ?_) rfl (by kernel_rfl) (by kernel_rfl) (by kernel_rfl) (fun _ _ _ h => h) (Or.inl ⟨by rfl, ?_⟩) (by assumption) ?_
                rotate_left
                · (intro w hSw; (try dsimp only at hSw); go_simp; try with_reducible rfl)
                (try simp only [Act.put, List.setIfInBounds_toArray, List.set_cons_zero, List.set_cons_succ])
                refine wpAnyH_ready (rs := [14]) (by kernel_rfl) (by simp) ?_
                refine AllReadyH.cons (o := { dst := some 56, op := _, type := _, pos := _, after := _, guard := _ }) rfl (fun K hK => ?_) ?_
                · go_simp
                  (go_at_call 20; (with_reducible refine (q1.out _).mono ?_); rintro e w1 ⟨rfl, rfl⟩)
                  go_wp2_with fail
                  refine hK.out _ _ ?_ (fun hHeld => ?_)
                  · (first | (with_reducible assumption) | (with_reducible exact ks_drew ⟨hcell, hbel⟩) | (with_reducible exact ks_ad ⟨hcell, hbel⟩) | (with_reducible exact ks_alloc ‹_›))
                  clear hK K
                  (try simp only [Act.put, List.setIfInBounds_toArray, List.set_cons_zero, List.set_cons_succ])
                  refine wpAnyH_ready (rs := [15]) (by kernel_rfl) (by simp) ?_
                  refine AllReadyH.cons (o := { dst := some 57, op := _, type := _, pos := _, after := _, guard := _ }) rfl (fun K hK => ?_) ?_
                  · go_simp
                    (go_at_call 24; (with_reducible refine (q2.out _ ‹_›).mono ?_); rintro e w2 ⟨rfl, hks, hbb⟩; try (obtain ⟨g0, g1⟩ := cells2_drew hbb; have hcv' := conv2_at _ _ _ _ g0 g1; rw [← HP2.out] at hcv'))
                    go_wp2_with fail
                    refine hK.out _ _ ?_ (fun hHeld => ?_)
                    · (first | (with_reducible assumption) | (with_reducible exact ks_drew ⟨hcell, hbel⟩) | (with_reducible exact ks_ad ⟨hcell, hbel⟩) | (with_reducible exact ks_alloc ‹_›))
                    clear hK K
                    (try simp only [Act.put, List.setIfInBounds_toArray, List.set_cons_zero, List.set_cons_succ])
                    refine wpAnyH_take (i := 16) (oi := { dst := some 58, op := _, type := _, pos := _, after := _, guard := _ }) (v := ?_) rfl (by kernel_rfl) (by kernel_rfl) (by kernel_rfl) (fun _ _ _ h => h) (Or.inl ⟨by rfl, ?_⟩) (by assumption) ?_
                    rotate_left
                    · (intro w hSw; (try dsimp only at hSw); go_simp; try with_reducible rfl)
                    (try simp only [Act.put, List.setIfInBounds_toArray, List.set_cons_zero, List.set_cons_succ])
                    refine wpAnyH_take (i := 21) (oi := { dst := some 63, op := _, type := _, pos := _, after := _, guard := _ }) (v := ?_) rfl (by kernel_rfl) (by kernel_rfl) (by kernel_rfl) (fun _ _ _ h => h) (Or.inl ⟨by rfl, ?_⟩) (by assumption) ?_
                    rotate_left
                    · (intro w hSw; (try dsimp only at hSw); go_simp; try with_reducible rfl)
                    (try simp only [Act.put, List.setIfInBounds_toArray, List.set_cons_zero, List.set_cons_succ])
                    refine wpAnyH_take (i := 22) (oi := { dst := some 5, op := _, type := _, pos := _, after := _, guard := _ }) (v := ?_) rfl (by kernel_rfl) (by kernel_rfl) (by kernel_rfl) (fun _ _ _ h => h) (Or.inl ⟨by rfl, ?_⟩) (by assumption) ?_
                    rotate_left
                    · (intro w hSw; (try dsimp only at hSw); go_simp; try with_reducible rfl)
                    (try simp only [Act.put, List.setIfInBounds_toArray, List.set_cons_zero, List.set_cons_succ])
                    refine wpAnyH_done (by kernel_rfl) ?_ _
                    refine NoPanic.normal ?_
                    go_wp2
                    go_roundw
                    case measure => simp [intOf]; omega
                    case rel => exact ⟨k + 1, by omega, by go_num, t3, rfl, HF, by first | exact hks.2 | exact below_alloc hks.2 _ | exact below_drewN (below_alloc hks.2 _) 1⟩
                  exact AllReadyH.nil
                exact AllReadyH.nil
              refine AllReadyH.cons (o := { dst := some 56, op := _, type := _, pos := _, after := _, guard := _ }) rfl (fun K hK => ?_) ?_
              · go_simp
                (go_at_call 20; (with_reducible refine (q1.out _).mono ?_); rintro e w1 ⟨rfl, rfl⟩)
                go_wp2_with fail
                refine hK.out _ _ ?_ (fun hHeld => ?_)
                · (first | (with_reducible assumption) | (with_reducible exact ks_drew ⟨hcell, hbel⟩) | (with_reducible exact ks_ad ⟨hcell, hbel⟩) | (with_reducible exact ks_alloc ‹_›))
                clear hK K
                (try simp only [Act.put, List.setIfInBounds_toArray, List.set_cons_zero, List.set_cons_succ])
                refine wpAnyH_ready (rs := [8, 15]) (by kernel_rfl) (by simp) ?_
                refine AllReadyH.cons (o := { dst := some 50, op := _, type := _, pos := _, after := _, guard := _ }) rfl (fun K hK => ?_) ?_
                · go_simp
                  refine hK.out _ _ ?_ (fun hHeld => ?_)
                  · (first | (with_reducible assumption) | (with_reducible exact ks_drew ⟨hcell, hbel⟩) | (with_reducible exact ks_ad ⟨hcell, hbel⟩) | (with_reducible exact ks_alloc ‹_›))
                  clear hK K
                  (try simp only [Act.put, List.setIfInBounds_toArray, List.set_cons_zero, List.set_cons_succ])
                  refine wpAnyH_take (i := 9) (oi := { dst := some 51, op := _, type := _, pos := _, after := _, guard := _ }) (v := ?_) rfl (by kernel_rfl) (by kernel_rfl) (by kernel_rfl) (fun _ _ _ h => h) (Or.inl ⟨by rfl, ?_⟩) (by assumption) ?_
                  rotate_left
                  · (intro w hSw; (try dsimp only at hSw); go_simp; try with_reducible rfl)
                  (try simp only [Act.put, List.setIfInBounds_toArray, List.set_cons_zero, List.set_cons_succ])
                  refine wpAnyH_ready (rs := [15]) (by kernel_rfl) (by simp) ?_
                  refine AllReadyH.cons (o := { dst := some 57, op := _, type := _, pos := _, after := _, guard := _ }) rfl (fun K hK => ?_) ?_
                  · go_simp
                    (go_at_call 24; (with_reducible refine (q2.out _ ‹_›).mono ?_); rintro e w2 ⟨rfl, hks, hbb⟩; try (obtain ⟨g0, g1⟩ := cells2_drew hbb; have hcv' := conv2_at _ _ _ _ g0 g1; rw [← HP2.out] at hcv'))
                    go_wp2_with fail
                    refine hK.out _ _ ?_ (fun hHeld => ?_)
                    · (first | (with_reducible assumption) | (with_reducible exact ks_drew ⟨hcell, hbel⟩) | (with_reducible exact ks_ad ⟨hcell, hbel⟩) | (with_reducible exact ks_alloc ‹_›))
                    clear hK K
                    (try simp only [Act.put, List.setIfInBounds_toArray, List.set_cons_zero, List.set_cons_succ])
                    refine wpAnyH_take (i := 16) (oi := { dst := some 58, op := _, type := _, pos := _, after := _, guard := _ }) (v := ?_) rfl (by kernel_rfl) (by kernel_rfl) (by kernel_rfl) (fun _ _ _ h => h) (Or.inl ⟨by rfl, ?_⟩) (by assumption) ?_
                    rotate_left
                    · (intro w hSw; (try dsimp only at hSw); go_simp; try with_reducible rfl)
                    (try simp only [Act.put, List.setIfInBounds_toArray, List.set_cons_zero, List.set_cons_succ])
                    refine wpAnyH_take (i := 21) (oi := { dst := some 63, op := _, type := _, pos := _, after := _, guard := _ }) (v := ?_) rfl (by kernel_rfl) (by kernel_rfl) (by kernel_rfl) (fun _ _ _ h => h) (Or.inl ⟨by rfl, ?_⟩) (by assumption) ?_
                    rotate_left
                    · (intro w hSw; (try dsimp only at hSw); go_simp; try with_reducible rfl)
                    (try simp only [Act.put, List.setIfInBounds_toArray, List.set_cons_zero, List.set_cons_succ])
                    refine wpAnyH_take (i := 22) (oi := { dst := some 5, op := _, type := _, pos := _, after := _, guard := _ }) (v := ?_) rfl (by kernel_rfl) (by kernel_rfl) (by kernel_rfl) (fun _ _ _ h => h) (Or.inl ⟨by rfl, ?_⟩) (by assumption) ?_
                    rotate_left
                    · (intro w hSw; (try dsimp only at hSw); go_simp; try with_reducible rfl)
                    (try simp only [Act.put, List.setIfInBounds_toArray, List.set_cons_zero, List.set_cons_succ])
                    refine wpAnyH_done (by kernel_rfl) ?_ _
                    refine NoPanic.normal ?_
                    go_wp2
                    go_roundw
                    case measure => simp [intOf]; omega
                    case rel => exact ⟨k + 1, by omega, by go_num, t3, rfl, HF, by first | exact hks.2 | exact below_alloc hks.2 _ | exact below_drewN (below_alloc hks.2 _) 1⟩
                  exact AllReadyH.nil
                refine AllReadyH.cons (o := { dst := some 57, op := _, type := _, pos := _, after := _, guard := _ }) rfl (fun K hK => ?_) ?_
                · go_simp
                  (go_at_call 24; (with_reducible refine (q2.out _ ‹_›).mono ?_); rintro e w2 ⟨rfl, hks, hbb⟩; try (obtain ⟨g0, g1⟩ := cells2_drew hbb; have hcv' := conv2_at _ _ _ _ g0 g1; rw [← HP2.out] at hcv'))
                  go_wp2_with fail
                  refine hK.out _ _ ?_ (fun hHeld => ?_)
                  · (first | (with_reducible assumption) | (with_reducible exact ks_drew ⟨hcell, hbel⟩) | (with_reducible exact ks_ad ⟨hcell, hbel⟩) | (with_reducible exact ks_alloc ‹_›))
                  clear hK K
                  (try simp only [Act.put, List.setIfInBounds_toArray, List.set_cons_zero, List.set_cons_succ])
                  refine wpAnyH_ready (rs := [8]) (by kernel_rfl) (by simp) ?_
                  refine AllReadyH.cons (o := { dst := some 50, op := _, type := _, pos := _, after := _, guard := _ }) rfl (fun K hK => ?_) ?_
                  · go_simp
                    refine hK.out _ _ ?_ (fun hHeld => ?_)
                    · (first | (with_reducible assumption) | (with_reducible exact ks_drew ⟨hcell, hbel⟩) | (with_reducible exact ks_ad ⟨hcell, hbel⟩) | (with_reducible exact ks_alloc ‹_›))
                    clear hK K
                    (try simp only [Act.put, List.setIfInBounds_toArray, List.set_cons_zero, List.set_cons_succ])
                    refine wpAnyH_take (i := 9) (oi := { dst := some 51, op := _, type := _, pos := _, after := _, guard := _ }) (v := ?_) rfl (by kernel_rfl) (by kernel_rfl) (by kernel_rfl) (fun _ _ _ h => h) (Or.inl ⟨by rfl, ?_⟩) (by assumption) ?_
                    rotate_left
                    · (intro w hSw; (try dsimp only at hSw); go_simp; try with_reducible rfl)
                    (try simp only [Act.put, List.setIfInBounds_toArray, List.set_cons_zero, List.set_cons_succ])
                    refine wpAnyH_take (i := 16) (oi := { dst := some 58, op := _, type := _, pos := _, after := _, guard := _ }) (v := ?_) rfl (by kernel_rfl) (by kernel_rfl) (by kernel_rfl) (fun _ _ _ h => h) (Or.inl ⟨by rfl, ?_⟩) (by assumption) ?_
                    rotate_left
                    · (intro w hSw; (try dsimp only at hSw); go_simp; try with_reducible rfl)
                    (try simp only [Act.put, List.setIfInBounds_toArray, List.set_cons_zero, List.set_cons_succ])
                    refine wpAnyH_take (i := 21) (oi := { dst := some 63, op := _, type := _, pos := _, after := _, guard := _ }) (v := ?_) rfl (by kernel_rfl) (by kernel_rfl) (by kernel_rfl) (fun _ _ _ h => h) (Or.inl ⟨by rfl, ?_⟩) (by assumption) ?_
                    rotate_left
                    · (intro w hSw; (try dsimp only at hSw); go_simp; try with_reducible rfl)
                    (try simp only [Act.put, List.setIfInBounds_toArray, List.set_cons_zero, List.set_cons_succ])
                    refine wpAnyH_take (i := 22) (oi := { dst := some 5, op := _, type := _, pos := _, after := _, guard := _ }) (v := ?_) rfl (by kernel_rfl) (by kernel_rfl) (by kernel_rfl) (fun _ _ _ h => h) (Or.inl ⟨by rfl, ?_⟩) (by assumption) ?_
                    rotate_left
                    · (intro w hSw; (try dsimp only at hSw); go_simp; try with_reducible rfl)
                    (try simp only [Act.put, List.setIfInBounds_toArray, List.set_cons_zero, List.set_cons_succ])
                    refine wpAnyH_done (by kernel_rfl) ?_ _
                    refine NoPanic.normal ?_
                    go_wp2
                    go_roundw
                    case measure => simp [intOf]; omega
                    case rel => exact ⟨k + 1, by omega, by go_num, t3, rfl, HF, by first | exact hks.2 | exact below_alloc hks.2 _ | exact below_drewN (below_alloc hks.2 _) 1⟩
                  exact AllReadyH.nil
                exact AllReadyH.nil
              exact AllReadyH.nil
            refine AllReadyH.cons (o := { dst := some 56, op := _, type := _, pos := _, after := _, guard := _ }) rfl (fun K hK => ?_) ?_
            · go_simp
              (go_at_call 20; (with_reducible refine (q1.out _).mono ?_); rintro e w1 ⟨rfl, rfl⟩)
              go_wp2_with fail
              refine hK.out _ _ ?_ (fun hHeld => ?_)
              · (first | (with_reducible assumption) | (with_reducible exact ks_drew ⟨hcell, hbel⟩) | (with_reducible exact ks_ad ⟨hcell, hbel⟩) | (with_reducible exact ks_alloc ‹_›))
              clear hK K
              (try simp only [Act.put, List.setIfInBounds_toArray, List.set_cons_zero, List.set_cons_succ])
              refine wpAnyH_ready (rs := [7, 15]) (by kernel_rfl) (by simp) ?_
              refine AllReadyH.cons (o := { dst := some 49, op := _, type := _, pos := _, after := _, guard := _ }) rfl (fun K hK => ?_) ?_
              · go_simp
                refine hK.out _ _ ?_ (fun hHeld => ?_)
                · (first | (with_reducible assumption) | (with_reducible exact ks_drew ⟨hcell, hbel⟩) | (with_reducible exact ks_ad ⟨hcell, hbel⟩) | (with_reducible exact ks_alloc ‹_›))
                clear hK K
                (try simp only [Act.put, List.setIfInBounds_toArray, List.set_cons_zero, List.set_cons_succ])
                refine wpAnyH_ready (rs := [8, 15]) (by kernel_rfl) (by simp) ?_
                refine AllReadyH.cons (o := { dst := some 50, op := _, type := _, pos := _, after := _, guard := _ }) rfl (fun K hK => ?_) ?_
                · go_simp
                  refine hK.out _ _ ?_ (fun hHeld => ?_)
                  · (first | (with_reducible assumption) | (with_reducible exact ks_drew ⟨hcell, hbel⟩) | (with_reducible exact ks_ad ⟨hcell, hbel⟩) | (with_reducible exact ks_alloc ‹_›))
                  clear hK K
                  (try simp only [Act.put, List.setIfInBounds_toArray, List.set_cons_zero, List.set_cons_succ])
                  refine wpAnyH_take (i := 9) (oi := { dst := some 51, op := _, type := _, pos := _, after := _, guard := _ }) (v := ?_) rfl (by kernel_rfl) (by kernel_rfl) (by kernel_rfl) (fun _ _ _ h => h) (Or.inl ⟨by rfl, ?_⟩) (by assumption) ?_
                  rotate_left
                  · (intro w hSw; (try dsimp only at hSw); go_simp; try with_reducible rfl)
                  (try simp only [Act.put, List.setIfInBounds_toArray, List.set_cons_zero, List.set_cons_succ])
                  refine wpAnyH_ready (rs := [15]) (by kernel_rfl) (by simp) ?_
                  refine AllReadyH.cons (o := { dst := some 57, op := _, type := _, pos := _, after := _, guard := _ }) rfl (fun K hK => ?_) ?_
                  · go_simp
                    (go_at_call 24; (with_reducible refine (q2.out _ ‹_›).mono ?_); rintro e w2 ⟨rfl, hks, hbb⟩; try (obtain ⟨g0, g1⟩ := cells2_drew hbb; have hcv' := conv2_at _ _ _ _ g0 g1; rw [← HP2.out] at hcv'))
                    go_wp2_with fail
                    refine hK.out _ _ ?_ (fun hHeld => ?_)
                    · (first | (with_reducible assumption) | (with_reducible exact ks_drew ⟨hcell, hbel⟩) | (with_reducible exact ks_ad ⟨hcell, hbel⟩) | (with_reducible exact ks_alloc ‹_›))
                    clear hK K
                    (try simp only [Act.put, List.setIfInBounds_toArray, List.set_cons_zero, List.set_cons_succ])
                    refine wpAnyH_take (i := 16) (oi := { dst := some 58, op := _, type := _, pos := _, after := _, guard := _ }) (v := ?_) rfl (by kernel_rfl) (by kernel_rfl) (by kernel_rfl) (fun _ _ _ h => h) (Or.inl ⟨by rfl, ?_⟩) (by assumption) ?_
                    rotate_left
                    · (intro w hSw; (try dsimp only at hSw); go_simp; try with_reducible rfl)
                    (try simp only [Act.put, List.setIfInBounds_toArray, List.set_cons_zero, List.set_cons_succ])
                    refine wpAnyH_take (i := 21) (oi := { dst := some 63, op := _, type := _, pos := _, after := _, guard := _ }) (v := ?_) rfl (by kernel_rfl) (by kernel_rfl) (by kernel_rfl) (fun _ _ _ h => h) (Or.inl ⟨by rfl, ?_⟩) (by assumption) ?_
                    rotate_left
                    · (intro w hSw; (try dsimp only at hSw); go_simp; try with_reducible rfl)
                    (try simp only [Act.put, List.setIfInBounds_toArray, List.set_cons_zero, List.set_cons_succ])
                    refine wpAnyH_take (i := 22) (oi := { dst := some 5, op := _, type := _, pos := _, after := _, guard := _ }) (v := ?_) rfl (by kernel_rfl) (by kernel_rfl) (by kernel_rfl) (fun _ _ _ h => h) (Or.inl ⟨by rfl, ?_⟩) (by assumption) ?_
                    rotate_left
                    · (intro w hSw; (try dsimp only at hSw); go_simp; try with_reducible rfl)
                    (try simp only [Act.put, List.setIfInBounds_toArray, List.set_cons_zero, List.set_cons_succ])
                    refine wpAnyH_done (by kernel_rfl) ?_ _
                    refine NoPanic.normal ?_
                    go_wp2
                    go_roundw
                    case measure => simp [intOf]; omega
                    case rel => exact ⟨k + 1, by omega, by go_num, t3, rfl, HF, by first | exact hks.2 | exact below_alloc hks.2 _ | exact below_drewN (below_alloc hks.2 _) 1⟩
                  exact AllReadyH.nil
                refine AllReadyH.cons (o := { dst := some 57, op := _, type := _, pos := _, after := _, guard := _ }) rfl (fun K hK => ?_) ?_
                · go_simp
                  (go_at_call 24; (with_reducible refine (q2.out _ ‹_›).mono ?_); rintro e w2 ⟨rfl, hks, hbb⟩; try (obtain ⟨g0, g1⟩ := cells2_drew hbb; have hcv' := conv2_at _ _ _ _ g0 g1; rw [← HP2.out] at hcv'))
                  go_wp2_with fail
                  refine hK.out _ _ ?_ (fun hHeld => ?_)
                  · (first | (with_reducible assumption) | (with_reducible exact ks_drew ⟨hcell, hbel⟩) | (with_reducible exact ks_ad ⟨hcell, hbel⟩) | (with_reducible exact ks_alloc ‹_›))
                  clear hK K
                  (try simp only [Act.put, List.setIfInBounds_toArray, List.set_cons_zero, List.set_cons_succ])
                  refine wpAnyH_ready (rs := [8]) (by kernel_rfl) (by simp) ?_
                  refine AllReadyH.cons (o := { dst := some 50, op := _, type := _, pos := _, after := _, guard := _ }) rfl (fun K hK => ?_) ?_
                  · go_simp
                    refine hK.out _ _ ?_ (fun hHeld => ?_)
                    · (first | (with_reducible assumption) | (with_reducible exact ks_drew ⟨hcell, hbel⟩) | (with_reducible exact ks_ad ⟨hcell, hbel⟩) | (with_reducible exact ks_alloc ‹_›))
                    clear hK K
                    (try simp only [Act.put, List.setIfInBounds_toArray, List.set_cons_zero, List.set_cons_succ])
                    refine wpAnyH_take (i := 9) (oi := { dst := some 51, op := _, type := _, pos := _, after := _, guard := _ }) (v := ?_) rfl (by kernel_rfl) (by kernel_rfl) (by kernel_rfl) (fun _ _ _ h => h) (Or.inl ⟨by rfl, ?_⟩) (by assumption) ?_
                    rotate_left
                    · (intro w hSw; (try dsimp only at hSw); go_simp; try with_reducible rfl)
                    (try simp only [Act.put, List.setIfInBounds_toArray, List.set_cons_zero, List.set_cons_succ])
                    refine wpAnyH_take (i := 16) (oi := { dst := some 58, op := _, type := _, pos := _, after := _, guard := _ }) (v := ?_) rfl (by kernel_rfl) (by kernel_rfl) (by kernel_rfl) (fun _ _ _ h => h) (Or.inl ⟨by rfl, ?_⟩) (by assumption) ?_
                    rotate_left
                    · (intro w hSw; (try dsimp only at hSw); go_simp; try with_reducible rfl)
                    (try simp only [Act.put, List.setIfInBounds_toArray, List.set_cons_zero, List.set_cons_succ])
                    refine wpAnyH_take (i := 21) (oi := { dst := some 63, op := _, type := _, pos := _, after := _, guard := _ }) (v := ?_) rfl (by kernel_rfl) (by kernel_rfl) (by kernel_rfl) (fun _ _ _ h => h) (Or.inl ⟨by rfl, ?_⟩) (by assumption) ?_
                    rotate_left
                    · (intro w hSw; (try dsimp only at hSw); go_simp; try with_reducible rfl)
                    (try simp only [Act.put, List.setIfInBounds_toArray, List.set_cons_zero, List.set_cons_succ])
                    refine wpAnyH_take (i := 22) (oi := { dst := some 5, op := _, type := _, pos := _, after := _, guard := _ }) (v := ?_) rfl (by kernel_rfl) (by kernel_rfl) (by kernel_rfl) (fun _ _ _ h => h) (Or.inl ⟨by rfl, ?_⟩) (by assumption) ?_
                    rotate_left
                    · (intro w hSw; (try dsimp only at hSw); go_simp; try with_reducible rfl)
                    (try simp only [Act.put, List.setIfInBounds_toArray, List.set_cons_zero, List.set_cons_succ])
                    refine wpAnyH_done (by kernel_rfl) ?_ _
                    refine NoPanic.normal ?_
                    go_wp2
                    go_roundw
                    case measure => simp [intOf]; omega
                    case rel => exact ⟨k + 1, by omega, by go_num, t3, rfl, HF, by first | exact hks.2 | exact below_alloc hks.2 _ | exact below_drewN (below_alloc hks.2 _) 1⟩
                  exact AllReadyH.nil
                exact AllReadyH.nil
              refine AllReadyH.cons (o := { dst := some 57, op := _, type := _, pos := _, after := _, guard := _ }) rfl (fun K hK => ?_) ?_
              · go_simp
                (go_at_call 24; (with_reducible refine (q2.out _ ‹_›).mono ?_); rintro e w2 ⟨rfl, hks, hbb⟩; try (obtain ⟨g0, g1⟩ := cells2_drew hbb; have hcv' := conv2_at _ _ _ _ g0 g1; rw [← HP2.out] at hcv'))
                go_wp2_with fail
                refine hK.out _ _ ?_ (fun hHeld => ?_)
                · (first | (with_reducible assumption) | (with_reducible exact ks_drew ⟨hcell, hbel⟩) | (with_reducible exact ks_ad ⟨hcell, hbel⟩) | (with_reducible exact ks_alloc ‹_›))
                clear hK K
                (try simp only [Act.put, List.setIfInBounds_toArray, List.set_cons_zero, List.set_cons_succ])
                refine wpAnyH_ready (rs := [7]) (by kernel_rfl) (by simp) ?_
                refine AllReadyH.cons (o := { dst := some 49, op := _, type := _, pos := _, after := _, guard := _ }) rfl (fun K hK => ?_) ?_
                · go_simp
                  refine hK.out _ _ ?_ (fun hHeld => ?_)
                  · (first | (with_reducible assumption) | (with_reducible exact ks_drew ⟨hcell, hbel⟩) | (with_reducible exact ks_ad ⟨hcell, hbel⟩) | (with_reducible exact ks_alloc ‹_›))
                  clear hK K
                  (try simp only [Act.put, List.setIfInBounds_toArray, List.set_cons_zero, List.set_cons_succ])
                  refine wpAnyH_ready (rs := [8]) (by kernel_rfl) (by simp) ?_
                  refine AllReadyH.cons (o := { dst := some 50, op := _, type := _, pos := _, after := _, guard := _ }) rfl (fun K hK => ?_) ?_
                  · go_simp
                    refine hK.out _ _ ?_ (fun hHeld => ?_)
                    · (first | (with_reducible assumption) | (with_reducible exact ks_drew ⟨hcell, hbel⟩) | (with_reducible exact ks_ad ⟨hcell, hbel⟩) | (with_reducible exact ks_alloc ‹_›))
                    clear hK K
                    (try simp only [Act.put, List.setIfInBounds_toArray, List.set_cons_zero, List.set_cons_succ])
                    refine wpAnyH_take (i := 9) (oi := { dst := some 51, op := _, type := _, pos := _, after := _, guard := _ }) (v := ?_) rfl (by kernel_rfl) (by kernel_rfl) (by kernel_rfl) (fun _ _ _ h => h) (Or.inl ⟨by rfl, ?_⟩) (by assumption) ?_
                    rotate_left
                    · (intro w hSw; (try dsimp only at hSw); go_simp; try with_reducible rfl)
                    (try simp only [Act.put, List.setIfInBounds_toArray, List.set_cons_zero, List.set_cons_succ])
                    refine wpAnyH_take (i := 16) (oi := { dst := some 58, op := _, type := _, pos := _, after := _, guard := _ }) (v := ?_) rfl (by kernel_rfl) (by kernel_rfl) (by kernel_rfl) (fun _ _ _ h => h) (Or.inl ⟨by rfl, ?_⟩) (by assumption) ?_
                    rotate_left
                    · (intro w hSw; (try dsimp only at hSw); go_simp; try with_reducible rfl)
                    (try simp only [Act.put, List.setIfInBounds_toArray, List.set_cons_zero, List.set_cons_succ])
                    refine wpAnyH_take (i := 21) (oi := { dst := some 63, op := _, type := _, pos := _, after := _, guard := _ }) (v := ?_) rfl (by kernel_rfl) (by kernel_rfl) (by kernel_rfl) (fun _ _ _ h => h) (Or.inl ⟨by rfl, ?_⟩) (by assumption) ?_
                    rotate_left
                    · (intro w hSw; (try dsimp only at hSw); go_simp; try with_reducible rfl)
                    (try simp only [Act.put, List.setIfInBounds_toArray, List.set_cons_zero, List.set_cons_succ])
                    refine wpAnyH_take (i := 22) (oi := { dst := some 5, op := _, type := _, pos := _, after := _, guard := _ }) (v := ?_) rfl (by kernel_rfl) (by kernel_rfl) (by kernel_rfl) (fun _ _ _ h => h) (Or.inl ⟨by rfl, ?_⟩) (by assumption) ?_
                    rotate_left
                    · (intro w hSw; (try dsimp only at hSw); go_simp; try with_reducible rfl)
                    (try simp only [Act.put, List.setIfInBounds_toArray, List.set_cons_zero, List.set_cons_succ])
                    refine wpAnyH_done (by kernel_rfl) ?_ _
                    refine NoPanic.normal ?_
                    go_wp2
                    go_roundw
                    case measure => simp [intOf]; omega
                    case rel => exact ⟨k + 1, by omega, by go_num, t3, rfl, HF, by first | exact hks.2 | exact below_alloc hks.2 _ | exact below_drewN (below_alloc hks.2 _) 1⟩
                  exact AllReadyH.nil
                exact AllReadyH.nil
              exact AllReadyH.nil
            exact AllReadyH.nil
          · obtain rfl : k = l.length := by omega
            go_wp2
            go_ret2
            exact ⟨by rw [HE.out, HE2.out, bl_eq HB.out, List.take_length]; rfl, hbel⟩
end Go.Proofs.Ytmmajdkngboecaa
