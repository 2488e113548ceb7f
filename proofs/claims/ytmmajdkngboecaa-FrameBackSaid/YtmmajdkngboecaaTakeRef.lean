/- The walk of draymanref08's Take: what it computes. -/
import Derived.Test.YtmmajdkngboecaaTakeWalk
import Derived.Test.YtmmajdkngboecaaFrameRef
namespace Go.Proofs.Ytmmajdkngboecaa
open Go.RowKit
set_option maxRecDepth 10000

theorem drop_get (s : ByteArray) (k : Nat) (x : UInt8) (r : List UInt8) (h : (bl s).drop k = x :: r) : ∃ hk : k < s.size, s[k] = x := by
  have hk : k < s.size := by
    rw [← bl_length]; rcases Nat.lt_or_ge k (bl s).length with h1 | h1
    · exact h1
    · rw [List.drop_eq_nil_of_le h1] at h; cases h
  refine ⟨hk, ?_⟩
  have h1 := List.drop_eq_getElem_cons (l := bl s) (i := k) (by rw [bl_length]; exact hk)
  rw [h1] at h
  have h2 := (List.cons.inj h).1
  rw [← h2]; unfold bl; rw [Array.getElem_toList]; rfl
theorem index_at (s : ByteArray) (k : Nat) (x : UInt8) (r : List UInt8) (h : (bl s).drop k = x :: r) (z : Int) (hz : z = (k : Int)) (W : World) :
    (Instr.index 9 (.string s) (.int .i64 z)).run Try.prog W = .ok (.int .u8 (x.toNat : Int)) W := by
  obtain ⟨hk, hx⟩ := drop_get s k x r h
  subst hz
  rw [run_index_string W 9 s .i64 k Try.underlying9, dif_pos (by omega)]
  simp [hx]

theorem below_drew {w W : World} {n : Nat} (h : Below (w.drewN n).heap.size (w.drewN n) W) : Below w.heap.size w W := ⟨h.os, h.tape, h.output, h.size, h.block⟩
set_option maxHeartbeats 2000000 in
theorem take_ref (s : ByteArray) (w : World) (hs : s.size ≤ 1000000) :
    Calls Try.prog 43 #[.string s] w (TakePost w (bl s)) := by
  have hsI : (s.size : Int) ≤ 1000000 := by omega
  go_enter Try.func43, Try.ntmps43
  go_wp2
  go_loopw [4, 5] (fun v i w' => ∃ k : Nat, k ≤ s.size ∧ i = .int .i64 k ∧ ∃ out : List ByteArray, out.length ≤ k ∧ Hid (takeT (bl s) = joinT out (takeT ((bl s).drop k))) ∧ Hid (Own Value.string 9 w.heap.size w' v out ∧ Below w.heap.size w w')) (fun _ i _ => s.size - (intOf i).toNat)
  case atStart => exact ⟨0, by omega, rfl, [], Nat.le_refl _, Lib.hid (by rw [List.drop_zero]; unfold takeT; rw [joinT_nil]), Lib.hid ⟨Own.nil _ _ _ _, Below.refl _ _⟩⟩
  case round =>
    obtain ⟨k, hk, rfl, out, hol, HT, HO⟩ := hrel
    have hkI : (k : Int) ≤ (s.size : Int) := by omega
    have hdl : ((bl s).drop k).length = s.size - k := by rw [List.length_drop, bl_length]
    obtain ⟨r, hr⟩ : ∃ r, (bl s).drop k = r := ⟨_, rfl⟩
    rw [hr] at HT hdl
    rcases r with _ | ⟨x, _ | ⟨y, t⟩⟩
    · have hk2 : k = s.size := by simp at hdl; omega
      clear hr
      subst hk2
      rw [takeT_nil, joinT_done] at HT
      go_wp2
      go_ret2
      exact ⟨_, ret_vi (by rw [HT.out]), by rw [HT.out]; exact HO.out.1, HO.out.2⟩
    · have hk2 : s.size = k + 1 := by simp at hdl; omega
      have hk3 : (s.size : Int) = (k : Int) + 1 := by omega
      rw [takeT_one, joinT_err _ _ (by decide)] at HT
      go_wp2
      go_ret2
      exact ⟨_, ret_vi (by rw [HT.out]), by rw [HT.out]; exact Own.nil _ _ _ _, HO.out.2⟩
    · have hk2 : s.size = k + (t.length + 2) := by simp at hdl; omega
      have hk3 : (s.size : Int) = (k : Int) + ((t.length : Int) + 2) := by omega
      have hx0 : ∀ W : World, (Instr.index 9 (.string s) (.int .i64 (k : Int))).run Try.prog W = .ok (.int .u8 (x.toNat : Int)) W := fun W => index_at s k x _ hr _ rfl W
      have hr2 : (bl s).drop (k + 1) = y :: t := by rw [← List.drop_drop, hr]; rfl
      have hr3' : (bl s).drop (k + 2) = t := by rw [← List.drop_drop, hr]; rfl
      have hx1 : ∀ W : World, (Instr.index 9 (.string s) (.int .i64 ((k : Int) + 1))).run Try.prog W = .ok (.int .u8 (y.toNat : Int)) W := fun W => index_at s (k + 1) y _ hr2 _ (by omega) W
      have X0 : (0 : Int) ≤ (x.toNat : Int) ∧ (x.toNat : Int) < 256 := ⟨by omega, by have := x.toNat_lt; omega⟩
      have X1 : (0 : Int) ≤ (y.toNat : Int) ∧ (y.toNat : Int) < 256 := ⟨by omega, by have := y.toNat_lt; omega⟩
      obtain ⟨N, hN⟩ : ∃ N, N = x.toNat * 256 + y.toNat := ⟨_, rfl⟩
      have w1 : IntKind.i64.wrap ((k : Int) + 1) = (k : Int) + 1 := by rw [IntKind.wrap_i64]; omega
      have w2 : IntKind.i64.wrap (256 * (x.toNat : Int)) = 256 * (x.toNat : Int) := by rw [IntKind.wrap_i64]; omega
      have w3 : IntKind.i64.wrap (256 * (x.toNat : Int) + (y.toNat : Int)) = (N : Int) := by rw [IntKind.wrap_i64]; omega
      go_wp2_with fail
      clear hr hr2 hdl
      have hNl : (N : Int) ≤ 65535 := by omega
      by_cases hz : N = 0 ∨ 4096 < N
      · have hTT : Hid (takeT (bl s) = (7, [])) := Lib.hid (by rw [HT.out, takeT_two, if_pos (by rw [← hN]; exact hz), joinT_err _ _ (by decide)])
        clear HT hN
        rcases hz with hz | hz
        · have hz' : (N : Int) < 1 := by omega
          go_quiet (fail)
          go_wp2
          go_ret2
          exact ⟨_, ret_vi (by rw [hTT.out]), by rw [hTT.out]; exact Own.nil _ _ _ _, below_drewN HO.out.2 _⟩
        · have hz' : 4096 < (N : Int) := by omega
          have hz1 : 1 ≤ (N : Int) := by omega
          go_quiet (fail)
          go_wp2
          go_ret2
          exact ⟨_, ret_vi (by rw [hTT.out]), by rw [hTT.out]; exact Own.nil _ _ _ _, below_drewN HO.out.2 _⟩
      · have hz1 : 1 ≤ (N : Int) := by omega
        have hz2 : (N : Int) ≤ 4096 := by omega
        have HT2 := HT.out
        rw [takeT_two, ← hN, if_neg hz] at HT2
        clear HT hz hN
        go_quiet (fail)
        by_cases h5 : t.length < 4 + N
        · rw [if_pos h5, joinT_err _ _ (by decide)] at HT2
          have hTT := Lib.hid HT2; clear HT2
          have hz4 : (s.size : Int) - (k : Int) < 6 + (N : Int) := by omega
          go_wp2
          go_ret2
          exact ⟨_, ret_vi (by rw [hTT.out]), by rw [hTT.out]; exact Own.nil _ _ _ _, below_drewN HO.out.2 _⟩
        · rw [if_neg h5] at HT2
          have hz4 : 6 + (N : Int) ≤ (s.size : Int) - (k : Int) := by omega
          have hz6 : (k : Int) + 6 + (N : Int) ≤ (s.size : Int) := by omega
          obtain ⟨P, hP⟩ : ∃ P, s.extract (k + 2) (k + 6) = P := ⟨_, rfl⟩
          obtain ⟨R, hR⟩ : ∃ R, s.extract (k + 6) (k + 6 + N) = R := ⟨_, rfl⟩
          obtain ⟨t', ht'⟩ : ∃ t', t.drop (4 + N) = t' := ⟨_, rfl⟩
          obtain ⟨X, hX⟩ : ∃ X, sumB (bl R) = X := ⟨_, rfl⟩
          obtain ⟨o, ho⟩ : ∃ o, octS X = o := ⟨_, rfl⟩
          have hRl : R.size ≤ 4096 := by rw [← hR, ByteArray.size_extract]; omega
          have CS : Hid (∀ W0, Calls Try.prog 20 #[.string R] W0 fun e w' => e = .returned (.int .u32 (W X)) ∧ W0 = w') := Lib.hid fun W0 => by rw [← hX]; exact sum_ref R W0 (by omega)
          have CO : Hid (∀ B W0, Below B.heap.size B W0 → Calls Try.prog 24 #[.int .u32 (W X)] W0 fun e w' => e = .returned (.string o) ∧ Below B.heap.size B w') := Lib.hid fun B W0 h => (octets_ref X W0).mono fun e w' ⟨he, hb⟩ => ⟨by rw [← ho]; exact he, below_next h hb⟩
          have hRb : (t.drop 4).take N = bl R := by rw [← hR, bl_extract, ← hr3']; simp [List.drop_drop, List.take_drop, Nat.add_assoc, Nat.add_comm]
          have hPb : t.take 4 = bl P := by rw [← hP, bl_extract, ← hr3']; simp [List.take_drop, Nat.add_assoc]
          have ht2 : (bl s).drop (k + 6 + N) = t' := by rw [← ht', ← hr3', List.drop_drop]; congr 1; omega
          rw [ht', hRb, hX] at HT2
          rw [hPb] at HT2
          have hob : bl o = octetsB X := by rw [← ho]; rfl
          have hsl : ∀ W : World, (Instr.slice 9 (.string s) (some (.int .i64 ((k : Int) + 2))) (some (.int .i64 ((k : Int) + 6))) none).run Try.prog W = .ok (.string P) W := by
            intro W
            rw [run_slice_string_if W 9 s .i64 .i64 _ _ Try.underlying9, if_pos (by omega), if_pos (by omega), ← hP]
            congr 3
          clear hX ho hRb hPb hr3'
          have w4 : IntKind.i64.wrap ((k : Int) + 2) = (k : Int) + 2 := by rw [IntKind.wrap_i64]; omega
          have w5 : IntKind.i64.wrap ((k : Int) + 6) = (k : Int) + 6 := by rw [IntKind.wrap_i64]; omega
          go_wp2_with fail
          rw [hR]
          clear hR hP
          by_cases hcmp : P = o
          · have hc1 := str_eq hcmp
            rw [if_pos (by rw [hcmp, hob]), joinT_joinT] at HT2
            have hTT := Lib.hid HT2; clear HT2 hob hcmp
            refine wp_region_grow (by kernel_rfl) (by kernel_rfl) ?_
            repeat (refine wpQuiet_step (fun K hK => ?_); go_simp; first | (refine hK _ ?_; clear hK K) | (refine ⟨_, fun _ _ => rfl, hK _ ?_⟩; clear hK K) | (apply Exists.intro; refine ⟨fun _ _ => ?_, hK _ ?_⟩; (first | (go_at_call 20; exact (CS.out _).mono fun e w' ⟨he, hw⟩ => ⟨he, hw ▸ ‹Below _ _ _›⟩) | (go_at_call 24; exact CO.out (wr.drewN nq) _ ‹Below _ _ _›)); clear hK K))
            refine wpQuiet_nil ?_
            intro w1 hb1
            go_wp2_with (at_builtin; refine append_one Value.string w.heap.size rfl (.tmp 59) (.tmp 61) 44 9 (.string ByteArray.empty) 16 rfl Try.underlying44 info_string rfl (by decide) _ _ _ rfl rfl rfl (HO.out.1.below (below_drew hb1)) (below_next HO.out.2 (below_drew hb1)) (below_next HO.out.2 (below_drew hb1)).size (by omega) ?_; intro v1 w2 hown1 hbel1)
            go_roundw
            case measure => simp [intOf]; omega
            case rel => exact ⟨k + 6 + N, by omega, by go_num, out ++ [R], by simp; omega, by rw [ht2]; exact hTT, Lib.hid ⟨hown1, hbel1⟩⟩
          · have hc1 := str_ne hcmp
            rw [if_neg (by intro h; exact hcmp (bl_inj (h.trans hob.symm))), joinT_err _ _ (by decide)] at HT2
            have hTT := Lib.hid HT2; clear HT2 hob hcmp
            refine wp_region_grow (by kernel_rfl) (by kernel_rfl) ?_
            repeat (refine wpQuiet_step (fun K hK => ?_); go_simp; first | (refine hK _ ?_; clear hK K) | (refine ⟨_, fun _ _ => rfl, hK _ ?_⟩; clear hK K) | (apply Exists.intro; refine ⟨fun _ _ => ?_, hK _ ?_⟩; (first | (go_at_call 20; exact (CS.out _).mono fun e w' ⟨he, hw⟩ => ⟨he, hw ▸ ‹Below _ _ _›⟩) | (go_at_call 24; exact CO.out (wr.drewN nq) _ ‹Below _ _ _›)); clear hK K))
            refine wpQuiet_nil ?_
            intro w1 hb1
            go_wp2
            go_ret2
            exact ⟨_, ret_vi (by rw [hTT.out]), by rw [hTT.out]; exact Own.nil _ _ _ _, below_next HO.out.2 (below_drew hb1)⟩
end Go.Proofs.Ytmmajdkngboecaa
