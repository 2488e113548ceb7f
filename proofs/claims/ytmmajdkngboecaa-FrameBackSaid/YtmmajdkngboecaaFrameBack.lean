/- FrameBack's walk. -/
import Derived.Test.YtmmajdkngboecaaFrameLaws
namespace Go.Proofs.Ytmmajdkngboecaa
open Go.RowKit
set_option maxRecDepth 10000

theorem Sl.take {α : Type} {enc : α → Value} {w : World} {A : Option Addr} {n c : Nat} {l : List α} (h : Sl enc w (.slice A n c) l) (j : Nat) (hj : j ≤ l.length) : Sl enc w (.slice A j c) (l.take j) := by
  obtain ⟨A', c', he, hc, hr⟩ := h
  cases he
  have hl : (l.take j).length = j := by rw [List.length_take]; omega
  exact ⟨A, c, by rw [hl], by omega, fun i hi => by rw [hl] at hi; obtain ⟨a, h1, h2⟩ := hr i (by omega); exact ⟨a, h1, by rw [h2, List.getElem_take]⟩⟩
theorem slice_to (A : Option Addr) (n c j : Nat) (hj : j ≤ c) (W : World) : (Instr.slice 44 (.slice A n c) none (some (.int .i64 (j : Int))) none).run Try.prog W = .ok (.slice A j c) W := by
  rw [run_slice_h W _ A n c Try.underlying44 .i64 j (by omega) (by omega)]
  simp [go_sem, sliced]
theorem own_nil {w : World} {v : Value} {base : Nat} {e : TypeId} (h : Own Value.string e base w v []) : ∃ A c, v = .slice A 0 c := h.slice

set_option maxHeartbeats 4000000 in
theorem frameBack_walk (v : Value) (l : List ByteArray) (at_ : Int) (s : ByteArray) (w : World) (hl : Sl Value.string w v l ∧ (∀ x ∈ l, x.size ≤ maxLen) ∧ l.length ≤ maxLen) (ha : (Lit.int .u16 at_).wf = true) (hs : s.size ≤ maxLen) :
    Calls Try.prog 10 #[v, .int .u16 at_, .string s] w fun e w' => e = .returned (.bool true) ∧ Below w.heap.size w w' := by
  obtain ⟨hsl, hfit, hlm⟩ := hl
  obtain ⟨ha0, ha1⟩ := wf_u16 ha
  clear ha
  unfold maxLen at hlm hfit hs
  have HV := Lib.hid hsl
  obtain ⟨A, c, rfl, hlc⟩ : ∃ A c, v = .slice A l.length c ∧ l.length ≤ c := by obtain ⟨A, c, rfl, hc, _⟩ := hsl; exact ⟨A, c, rfl, hc⟩
  clear hsl
  have F := Lib.hid (few_any _ l 8 200 w HV.out (by decide) (by decide) (by omega) (fun s h => by have := hfit s h; omega))
  clear hfit
  by_cases hf : ((l.length : Int) ≤ 8 ∧ ∀ s ∈ l, (s.size : Int) ≤ 200)
  · by_cases hs2 : 200 < s.size
    · go_enter Try.func10, Try.ntmps10
      go_wp2_with (first | (go_at_call 36; (with_reducible refine F.out.mono ?_); intro e w' h; obtain ⟨b, rfl⟩ := few_ex h; obtain ⟨_, rfl⟩ := few_get h; rcases b with _ | _) | (go_at_call 37; refine (frame_awake _).mono ?_; rintro e w5 ⟨rfl, hb5⟩))
      all_goals
        go_ret
        exact ⟨rfl, hb5⟩
    · have hz := size_le_all (most := 8) (size := 200) hf
      have hl8 : l.length ≤ 8 := by omega
      have hsI : (s.size : Int) ≤ 200 := by omega
      have T1 : Hid (∀ W, Below w.heap.size w W → Calls Try.prog 42 #[.string s] W fun e w' => ∃ v, e = .returned (.tuple #[v, .int .i64 (takeT (bl s)).1]) ∧ Sl Value.string w' v (takeT (bl s)).2 ∧ Below w.heap.size w w') :=
        Lib.hid fun W h => (take_any s W (by omega)).mono fun e w' h2 => by obtain ⟨v, he, ho, hb⟩ := h2; exact ⟨v, he, ho.sl, below_next h hb⟩
      have P2 : Hid (∀ W, Below w.heap.size w W → Calls Try.prog 38 #[.slice A l.length c] W fun e w' => e = .returned (.tuple #[.string (putS l), .int .i64 (putE l)]) ∧ Below w.heap.size w w') :=
        Lib.hid fun W h => (put_any _ l W (HV.out.below h) (by omega)).mono fun e w' ⟨he, hb⟩ => ⟨he, below_next h hb⟩
      have P1 : (takeT (bl s)).1 = 0 → Hid (∀ W v, Below w.heap.size w W → Sl Value.string W v (takeT (bl s)).2 → Calls Try.prog 38 #[v] W fun e w' => e = .returned (.tuple #[.string s, .int .i64 0]) ∧ Below w.heap.size w w') := fun h0 => Lib.hid fun W v h hv => by
        obtain ⟨h1, h2⟩ := putE_back (r := bl s) (m := (takeT (bl s)).2) (by rw [bl_length]; omega) (by rw [← h0])
        have h3 := takeT_back _ (bl s) (takeT (bl s)).2 (Nat.le_refl _) (by rw [← h0])
        have h4 : sizeL (takeT (bl s)).2 = s.size := by rw [← framesB_length, h3.2, bl_length]
        refine (put_any _ _ W hv (by omega)).mono fun e w' ⟨he, hb⟩ => ⟨?_, below_next h hb⟩
        rw [he, h1, bl_inj h2]
      have AW : Hid (∀ W, Below w.heap.size w W → Calls Try.prog 37 #[] W fun e w' => e = .returned (.bool true) ∧ Below w.heap.size w w') := Lib.hid fun W h => (frame_awake W).mono fun e w' ⟨he, hb⟩ => ⟨he, below_next h hb⟩
      have hse : (s.toList == s.toList) = true := beq_self_eq_true _
      generalize (takeT (bl s)).1 = te at *
      generalize (takeT (bl s)).2 = tl at *
      by_cases hpe : putE l = 0
      · obtain ⟨hall, hsz⟩ := putE_zero hpe
        have hps := putS_zero hpe
        rw [hpe] at P2
        clear hpe
        have hpl : (putS l).size = sizeL l := by rw [← bl_length, hps, framesB_length]
        obtain ⟨ps, hpseq⟩ : ∃ ps, putS l = ps := ⟨_, rfl⟩
        rw [hpseq] at hps hpl P2
        clear hpseq
        have hpsI : (ps.size : Int) ≤ 16384 := by omega
        have T2 : Hid (∀ W, Below w.heap.size w W → Calls Try.prog 42 #[.string ps] W fun e w' => ∃ v, e = .returned (.tuple #[v, .int .i64 0]) ∧ Sl Value.string w' v l ∧ Below w.heap.size w w') :=
          Lib.hid fun W h => (take_any ps W (by omega)).mono fun e w' h2 => by
            obtain ⟨v, he, ho, hb⟩ := h2
            rw [hps, takeT_all l hall] at he ho
            exact ⟨v, he, ho.sl, below_next h hb⟩
        obtain ⟨K, hK, hKs⟩ : ∃ K : Nat, at_ % ((ps.size : Int) + 1) = K ∧ K ≤ ps.size := by
          have h1 := Int.emod_nonneg at_ (show ((ps.size : Int) + 1) ≠ 0 by omega)
          have h2 := Int.emod_lt_of_pos at_ (show (0 : Int) < (ps.size : Int) + 1 by omega)
          exact ⟨(at_ % ((ps.size : Int) + 1)).toNat, by omega, by omega⟩
        have hKI : (K : Int) ≤ (ps.size : Int) := by omega
        have T3 : ∀ te3 tl3, takeT ((framesB l).take K) = (te3, tl3) → Hid (∀ W, Below w.heap.size w W → Calls Try.prog 42 #[.string (ps.extract 0 K)] W fun e w' => ∃ A c, e = .returned (.tuple #[.slice A tl3.length c, .int .i64 te3]) ∧ Sl Value.string w' (.slice A tl3.length c) tl3 ∧ Below W.heap.size W w') := fun te3 tl3 h3 => Lib.hid fun W h => (take_any _ W (by rw [ByteArray.size_extract]; omega)).mono fun e w' h2 => by
            obtain ⟨v, he, ho, hb⟩ := h2
            rw [bl_extract, hps, List.drop_zero, h3] at he ho
            obtain ⟨A', c', rfl, hc, hr⟩ := ho.sl
            exact ⟨A', c', he, ⟨A', c', rfl, hc, hr⟩, hb⟩
        have HPL := Lib.hid hpl; clear hpl
        by_cases hte : te = 0
        · have PP := P1 hte
          clear P1
          subst hte
          go_enter Try.func10, Try.ntmps10
          go_wp2_with (first | (go_at_call 36; (with_reducible refine F.out.mono ?_); intro e w' h; obtain ⟨b, rfl⟩ := few_ex h; obtain ⟨_, rfl⟩ := few_get h; rcases b with _ | _) | (go_at_call 42; (with_reducible refine (T1.out _ (Below.refl _ _)).mono ?_); rintro e w1 ⟨v1, rfl, hs1, hb1⟩) | (go_at_call 38; (with_reducible refine (PP.out _ _ hb1 hs1).mono ?_); rintro e w2 ⟨rfl, hb2⟩) | (go_at_call 38; (with_reducible refine (P2.out _ hb2).mono ?_); rintro e w3 ⟨rfl, hb3⟩) | (go_at_call 37; (with_reducible refine (AW.out _ (Below.refl _ _)).mono ?_); rintro e w5 ⟨rfl, hb5⟩))
          · go_ret
            exact ⟨rfl, hb5⟩
          · rw [hK]
            go_loopw [14, 15] (fun ends n w' => ∃ j : Nat, j ≤ l.length ∧ n = .int .i64 j ∧ ends = .int .i64 (sizeL (l.take j) : Int) ∧ sizeL (l.take j) ≤ K ∧ Below w.heap.size w w') (fun _ n _ => l.length - (intOf n).toNat)
            case atStart => exact ⟨0, by omega, rfl, by rfl, by simp [sizeL], hb3⟩
            case round =>
              obtain ⟨j, hj, rfl, rfl, hjK, hbel⟩ := hrel
              have hjI : (sizeL (l.take j) : Int) ≤ (K : Int) := by omega
              by_cases hlt : j < l.length
              · obtain ⟨A', c', he', hc', hr'⟩ := HV.out
                cases he'
                obtain ⟨a, rfl, hcell0⟩ := hr' j hlt
                have hcell := cell_below hbel hcell0
                clear hr' hcell0 hc'
                have HT := Lib.hid (sizeL_take l j hlt)
                have hx := l[j].size
                have hxz : (l[j].size : Int) ≤ 200 := hf.2 _ (List.getElem_mem hlt)
                have Hlt : (j : Int) < (l.length : Int) := by omega
                have i0 : (0 : Int) ≤ (j : Int) := by omega
                have HB := Lib.hid (fun (h : K < sizeL (l.take (j + 1))) (h2 : sizeL (l.take j) < K) => takeT_begin l K j hall hlt h2 h)
                generalize l[j] = x at *
                have hcella : ∀ o, (wr.alloc o).cell? (a.add j) = some (.string x) := fun o => cell_below (below_new wr o) hcell
                have Z : Hid (∀ W : World, Calls Try.prog 40 #[.slice (some ⟨W.heap.size, 0, none⟩) 1 1] (W.alloc (.cells #[.string x] 9)) fun e w' => e = .returned (.int .i64 (6 + (x.size : Int))) ∧ (W.alloc (.cells #[.string x] 9)) = w') :=
                  Lib.hid fun W => (size_any _ [x] _ (sl_lit Value.string W [x] _ 9 1 rfl rfl) (by simp [sizeL]; omega)).mono fun e w' ⟨he, hw⟩ => ⟨by rw [he]; simp [sizeL], hw⟩
                have Z2 : Hid (∀ (W : World) (o : Obj), Calls Try.prog 40 #[.slice (some ⟨W.heap.size + 1, 0, none⟩) 1 1] ((W.alloc o).alloc (.cells #[.string x] 9)) fun e w' => e = .returned (.int .i64 (6 + (x.size : Int))) ∧ ((W.alloc o).alloc (.cells #[.string x] 9)) = w') :=
                  Lib.hid fun W o => by have := Z.out (W.alloc o); rw [show (W.alloc o).heap.size = W.heap.size + 1 by simp] at this; exact this
                by_cases hin : sizeL (l.take j) + (6 + x.size) ≤ K
                · have hinI : (sizeL (l.take j) : Int) + (6 + (x.size : Int)) ≤ (K : Int) := by omega
                  go_wp2_with (first | (go_at_call 40; (with_reducible refine (Z.out _).mono ?_); rintro e w6 ⟨rfl, rfl⟩) | (go_at_call 40; (with_reducible refine (Z2.out _ _).mono ?_); rintro e w6 ⟨rfl, rfl⟩))
                  go_roundw
                  case measure => simp [intOf]; omega
                  case rel => exact ⟨j + 1, by omega, by go_num, by rw [HT.out]; go_num, by rw [HT.out]; exact hin, below_alloc (below_alloc hbel _) _⟩
                · have hinI : (K : Int) < (sizeL (l.take j) : Int) + (6 + (x.size : Int)) := by omega
                  clear Z2
                  by_cases hE : sizeL (l.take j) = K
                  · have hEI : (sizeL (l.take j) : Int) = (K : Int) := by omega
                    have TT := T3 0 (l.take j) (by rw [← hE]; exact takeT_upto l j hall)
                    rw [show (l.take j).length = j by rw [List.length_take]; omega] at TT
                    have HSl := slice_to (some a) l.length c j (by omega)
                    clear T3 HB HT
                    go_wp2_with (first | (go_at_call 40; (with_reducible refine (Z.out _).mono ?_); rintro e w6 ⟨rfl, rfl⟩) | (go_at_call 42; (with_reducible refine (T2.out _ (below_alloc hbel _)).mono ?_); rintro e w7 ⟨v7, rfl, hs7, hb7⟩) | (go_at_call 42; (with_reducible refine (TT.out _ hb7).mono ?_); rintro e w8 ⟨A8, c8, rfl, hs8, hb8⟩; have hb8' := below_next hb7 hb8) | (go_at_call 44; (with_reducible refine (strs_true _ _ l l _ (hs7.below hb8) (HV.out.below hb8') rfl (by omega)).mono ?_); rintro e w9 ⟨rfl, hb9⟩; have hb9' := below_next hb8' hb9) | (go_at_call 44; (with_reducible refine (strs_true _ _ (l.take j) (l.take j) _ (hs8.below hb9) ((HV.out.below hb9').take j hj) rfl (by rw [List.length_take]; omega)).mono ?_); rintro e w10 ⟨rfl, hb10⟩; have hb10' := below_next hb9' hb10) | (go_at_call 37; (with_reducible refine (AW.out _ hb10').mono ?_); rintro e w5 ⟨rfl, hb5⟩))
                    go_ret
                    exact ⟨rfl, hb5⟩
                  · have hEI : (sizeL (l.take j) : Int) < (K : Int) := by omega
                    have TT := T3 8 [] (HB.out (by rw [HT.out]; omega) (by omega))
                    rw [List.length_nil] at TT
                    clear T3 HB HT
                    go_wp2_with (first | (go_at_call 40; (with_reducible refine (Z.out _).mono ?_); rintro e w6 ⟨rfl, rfl⟩) | (go_at_call 42; (with_reducible refine (T2.out _ (below_alloc hbel _)).mono ?_); rintro e w7 ⟨v7, rfl, hs7, hb7⟩) | (go_at_call 42; (with_reducible refine (TT.out _ hb7).mono ?_); rintro e w8 ⟨A8, c8, rfl, hs8, hb8⟩; have hb8' := below_next hb7 hb8) | (go_at_call 44; (with_reducible refine (strs_true _ _ l l _ (hs7.below hb8) (HV.out.below hb8') rfl (by omega)).mono ?_); rintro e w9 ⟨rfl, hb9⟩; have hb9' := below_next hb8' hb9) | (go_at_call 37; (with_reducible refine (AW.out _ hb9').mono ?_); rintro e w5 ⟨rfl, hb5⟩))
                    go_ret
                    exact ⟨rfl, hb5⟩
              · obtain rfl : j = l.length := by omega
                have hE : sizeL l = K := by have := HPL.out; have h9 := hjK; rw [List.take_length] at h9; omega
                have hEI : (sizeL l : Int) = (K : Int) := by omega
                have TT := T3 0 l (by rw [← hE]; have h9 := takeT_upto l l.length hall; rw [List.take_length] at h9; exact h9)
                have HSl := slice_to A l.length c l.length (by omega)
                clear T3
                go_wp2_with (first | (go_at_call 42; (with_reducible refine (T2.out _ (hbel)).mono ?_); rintro e w7 ⟨v7, rfl, hs7, hb7⟩) | (go_at_call 42; (with_reducible refine (TT.out _ hb7).mono ?_); rintro e w8 ⟨A8, c8, rfl, hs8, hb8⟩; have hb8' := below_next hb7 hb8) | (go_at_call 44; (with_reducible refine (strs_true _ _ l l _ (hs7.below hb8) (HV.out.below hb8') rfl (by omega)).mono ?_); rintro e w9 ⟨rfl, hb9⟩; have hb9' := below_next hb8' hb9) | (go_at_call 44; (with_reducible refine (strs_true _ _ l l _ (hs8.below hb9) (HV.out.below hb9') rfl (by omega)).mono ?_); rintro e w10 ⟨rfl, hb10⟩; have hb10' := below_next hb9' hb10) | (go_at_call 37; (with_reducible refine (AW.out _ hb10').mono ?_); rintro e w5 ⟨rfl, hb5⟩))
                go_ret
                exact ⟨rfl, hb5⟩
        · clear P1
          go_enter Try.func10, Try.ntmps10
          go_wp2_with (first | (go_at_call 36; (with_reducible refine F.out.mono ?_); intro e w' h; obtain ⟨b, rfl⟩ := few_ex h; obtain ⟨_, rfl⟩ := few_get h; rcases b with _ | _) | (go_at_call 42; (with_reducible refine (T1.out _ (Below.refl _ _)).mono ?_); rintro e w1 ⟨v1, rfl, hs1, hb1⟩) | (go_at_call 38; (with_reducible refine (P2.out _ hb1).mono ?_); rintro e w3 ⟨rfl, hb3⟩) | (go_at_call 37; (with_reducible refine (AW.out _ (Below.refl _ _)).mono ?_); rintro e w5 ⟨rfl, hb5⟩))
          · go_ret
            exact ⟨rfl, hb5⟩
          · rw [hK]
            go_loopw [14, 15] (fun ends n w' => ∃ j : Nat, j ≤ l.length ∧ n = .int .i64 j ∧ ends = .int .i64 (sizeL (l.take j) : Int) ∧ sizeL (l.take j) ≤ K ∧ Below w.heap.size w w') (fun _ n _ => l.length - (intOf n).toNat)
            case atStart => exact ⟨0, by omega, rfl, by rfl, by simp [sizeL], hb3⟩
            case round =>
              obtain ⟨j, hj, rfl, rfl, hjK, hbel⟩ := hrel
              have hjI : (sizeL (l.take j) : Int) ≤ (K : Int) := by omega
              by_cases hlt : j < l.length
              · obtain ⟨A', c', he', hc', hr'⟩ := HV.out
                cases he'
                obtain ⟨a, rfl, hcell0⟩ := hr' j hlt
                have hcell := cell_below hbel hcell0
                clear hr' hcell0 hc'
                have HT := Lib.hid (sizeL_take l j hlt)
                have hx := l[j].size
                have hxz : (l[j].size : Int) ≤ 200 := hf.2 _ (List.getElem_mem hlt)
                have Hlt : (j : Int) < (l.length : Int) := by omega
                have i0 : (0 : Int) ≤ (j : Int) := by omega
                have HB := Lib.hid (fun (h : K < sizeL (l.take (j + 1))) (h2 : sizeL (l.take j) < K) => takeT_begin l K j hall hlt h2 h)
                generalize l[j] = x at *
                have hcella : ∀ o, (wr.alloc o).cell? (a.add j) = some (.string x) := fun o => cell_below (below_new wr o) hcell
                have Z : Hid (∀ W : World, Calls Try.prog 40 #[.slice (some ⟨W.heap.size, 0, none⟩) 1 1] (W.alloc (.cells #[.string x] 9)) fun e w' => e = .returned (.int .i64 (6 + (x.size : Int))) ∧ (W.alloc (.cells #[.string x] 9)) = w') :=
                  Lib.hid fun W => (size_any _ [x] _ (sl_lit Value.string W [x] _ 9 1 rfl rfl) (by simp [sizeL]; omega)).mono fun e w' ⟨he, hw⟩ => ⟨by rw [he]; simp [sizeL], hw⟩
                have Z2 : Hid (∀ (W : World) (o : Obj), Calls Try.prog 40 #[.slice (some ⟨W.heap.size + 1, 0, none⟩) 1 1] ((W.alloc o).alloc (.cells #[.string x] 9)) fun e w' => e = .returned (.int .i64 (6 + (x.size : Int))) ∧ ((W.alloc o).alloc (.cells #[.string x] 9)) = w') :=
                  Lib.hid fun W o => by have := Z.out (W.alloc o); rw [show (W.alloc o).heap.size = W.heap.size + 1 by simp] at this; exact this
                by_cases hin : sizeL (l.take j) + (6 + x.size) ≤ K
                · have hinI : (sizeL (l.take j) : Int) + (6 + (x.size : Int)) ≤ (K : Int) := by omega
                  go_wp2_with (first | (go_at_call 40; (with_reducible refine (Z.out _).mono ?_); rintro e w6 ⟨rfl, rfl⟩) | (go_at_call 40; (with_reducible refine (Z2.out _ _).mono ?_); rintro e w6 ⟨rfl, rfl⟩))
                  go_roundw
                  case measure => simp [intOf]; omega
                  case rel => exact ⟨j + 1, by omega, by go_num, by rw [HT.out]; go_num, by rw [HT.out]; exact hin, below_alloc (below_alloc hbel _) _⟩
                · have hinI : (K : Int) < (sizeL (l.take j) : Int) + (6 + (x.size : Int)) := by omega
                  clear Z2
                  by_cases hE : sizeL (l.take j) = K
                  · have hEI : (sizeL (l.take j) : Int) = (K : Int) := by omega
                    have TT := T3 0 (l.take j) (by rw [← hE]; exact takeT_upto l j hall)
                    rw [show (l.take j).length = j by rw [List.length_take]; omega] at TT
                    have HSl := slice_to (some a) l.length c j (by omega)
                    clear T3 HB HT
                    go_wp2_with (first | (go_at_call 40; (with_reducible refine (Z.out _).mono ?_); rintro e w6 ⟨rfl, rfl⟩) | (go_at_call 42; (with_reducible refine (T2.out _ (below_alloc hbel _)).mono ?_); rintro e w7 ⟨v7, rfl, hs7, hb7⟩) | (go_at_call 42; (with_reducible refine (TT.out _ hb7).mono ?_); rintro e w8 ⟨A8, c8, rfl, hs8, hb8⟩; have hb8' := below_next hb7 hb8) | (go_at_call 44; (with_reducible refine (strs_true _ _ l l _ (hs7.below hb8) (HV.out.below hb8') rfl (by omega)).mono ?_); rintro e w9 ⟨rfl, hb9⟩; have hb9' := below_next hb8' hb9) | (go_at_call 44; (with_reducible refine (strs_true _ _ (l.take j) (l.take j) _ (hs8.below hb9) ((HV.out.below hb9').take j hj) rfl (by rw [List.length_take]; omega)).mono ?_); rintro e w10 ⟨rfl, hb10⟩; have hb10' := below_next hb9' hb10) | (go_at_call 37; (with_reducible refine (AW.out _ hb10').mono ?_); rintro e w5 ⟨rfl, hb5⟩))
                    go_ret
                    exact ⟨rfl, hb5⟩
                  · have hEI : (sizeL (l.take j) : Int) < (K : Int) := by omega
                    have TT := T3 8 [] (HB.out (by rw [HT.out]; omega) (by omega))
                    rw [List.length_nil] at TT
                    clear T3 HB HT
                    go_wp2_with (first | (go_at_call 40; (with_reducible refine (Z.out _).mono ?_); rintro e w6 ⟨rfl, rfl⟩) | (go_at_call 42; (with_reducible refine (T2.out _ (below_alloc hbel _)).mono ?_); rintro e w7 ⟨v7, rfl, hs7, hb7⟩) | (go_at_call 42; (with_reducible refine (TT.out _ hb7).mono ?_); rintro e w8 ⟨A8, c8, rfl, hs8, hb8⟩; have hb8' := below_next hb7 hb8) | (go_at_call 44; (with_reducible refine (strs_true _ _ l l _ (hs7.below hb8) (HV.out.below hb8') rfl (by omega)).mono ?_); rintro e w9 ⟨rfl, hb9⟩; have hb9' := below_next hb8' hb9) | (go_at_call 37; (with_reducible refine (AW.out _ hb9').mono ?_); rintro e w5 ⟨rfl, hb5⟩))
                    go_ret
                    exact ⟨rfl, hb5⟩
              · obtain rfl : j = l.length := by omega
                have hE : sizeL l = K := by have := HPL.out; have h9 := hjK; rw [List.take_length] at h9; omega
                have hEI : (sizeL l : Int) = (K : Int) := by omega
                have TT := T3 0 l (by rw [← hE]; have h9 := takeT_upto l l.length hall; rw [List.take_length] at h9; exact h9)
                have HSl := slice_to A l.length c l.length (by omega)
                clear T3
                go_wp2_with (first | (go_at_call 42; (with_reducible refine (T2.out _ (hbel)).mono ?_); rintro e w7 ⟨v7, rfl, hs7, hb7⟩) | (go_at_call 42; (with_reducible refine (TT.out _ hb7).mono ?_); rintro e w8 ⟨A8, c8, rfl, hs8, hb8⟩; have hb8' := below_next hb7 hb8) | (go_at_call 44; (with_reducible refine (strs_true _ _ l l _ (hs7.below hb8) (HV.out.below hb8') rfl (by omega)).mono ?_); rintro e w9 ⟨rfl, hb9⟩; have hb9' := below_next hb8' hb9) | (go_at_call 44; (with_reducible refine (strs_true _ _ l l _ (hs8.below hb9) (HV.out.below hb9') rfl (by omega)).mono ?_); rintro e w10 ⟨rfl, hb10⟩; have hb10' := below_next hb9' hb10) | (go_at_call 37; (with_reducible refine (AW.out _ hb10').mono ?_); rintro e w5 ⟨rfl, hb5⟩))
                go_ret
                exact ⟨rfl, hb5⟩
      · have hps := putS_err hpe
        rw [hps] at P2
        generalize putE l = pe at *
        have hpe2 : ¬ pe = 0 := hpe
        clear hps hz hf
        by_cases hte : te = 0
        · have PP := P1 hte
          clear P1
          subst hte
          go_enter Try.func10, Try.ntmps10
          go_wp2_with (first | (go_at_call 36; (with_reducible refine F.out.mono ?_); intro e w' h; obtain ⟨b, rfl⟩ := few_ex h; obtain ⟨_, rfl⟩ := few_get h; rcases b with _ | _) | (go_at_call 42; (with_reducible refine (T1.out _ (Below.refl _ _)).mono ?_); rintro e w1 ⟨v1, rfl, hs1, hb1⟩) | (go_at_call 38; (with_reducible refine (PP.out _ _ hb1 hs1).mono ?_); rintro e w2 ⟨rfl, hb2⟩) | (go_at_call 38; (with_reducible refine (P2.out _ hb2).mono ?_); rintro e w3 ⟨rfl, hb3⟩) | (go_at_call 37; (with_reducible refine (AW.out _ hb3).mono ?_); rintro e w5 ⟨rfl, hb5⟩) | (go_at_call 37; (with_reducible refine (AW.out _ (Below.refl _ _)).mono ?_); rintro e w5 ⟨rfl, hb5⟩))
          all_goals
            go_ret
            exact ⟨rfl, hb5⟩
        · clear P1
          go_enter Try.func10, Try.ntmps10
          go_wp2_with (first | (go_at_call 36; (with_reducible refine F.out.mono ?_); intro e w' h; obtain ⟨b, rfl⟩ := few_ex h; obtain ⟨_, rfl⟩ := few_get h; rcases b with _ | _) | (go_at_call 42; (with_reducible refine (T1.out _ (Below.refl _ _)).mono ?_); rintro e w1 ⟨v1, rfl, hs1, hb1⟩) | (go_at_call 38; (with_reducible refine (P2.out _ hb1).mono ?_); rintro e w3 ⟨rfl, hb3⟩) | (go_at_call 37; (with_reducible refine (AW.out _ hb3).mono ?_); rintro e w5 ⟨rfl, hb5⟩) | (go_at_call 37; (with_reducible refine (AW.out _ (Below.refl _ _)).mono ?_); rintro e w5 ⟨rfl, hb5⟩))
          all_goals
            go_ret
            exact ⟨rfl, hb5⟩
  · have F2 : Hid (∀ b w', FewPost l 8 200 w (.returned (.bool b)) w' → b = false ∧ w = w') := Lib.hid fun b w' h => by
      obtain ⟨h1, h2⟩ := few_get h
      refine ⟨?_, h2⟩
      cases b
      · rfl
      · exact absurd (h1 rfl) hf
    clear hf
    go_enter Try.func10, Try.ntmps10
    go_wp2_with (first | (go_at_call 36; (with_reducible refine F.out.mono ?_); intro e w' h; obtain ⟨b, rfl⟩ := few_ex h; obtain ⟨rfl, rfl⟩ := F2.out _ _ h) | (go_at_call 37; refine (frame_awake _).mono ?_; rintro e w5 ⟨rfl, hb5⟩))
    go_ret
    exact ⟨rfl, hb5⟩
end Go.Proofs.Ytmmajdkngboecaa
