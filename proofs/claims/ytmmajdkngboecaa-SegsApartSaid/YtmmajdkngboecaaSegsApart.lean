/- 'SegsApart': the walk. -/
import Derived.Test.YtmmajdkngboecaaSegsLaws
namespace Go.Proofs.Ytmmajdkngboecaa
open Go.RowKit
set_option maxRecDepth 10000

theorem secsOf_in {a : Int} (h0 : 0 ≤ a) (h1 : a < 63) : secsOf a = secs a 8 := if_pos ⟨h0, h1⟩
theorem secsOf_out {a : Int} (h : ¬ (0 ≤ a ∧ a < 63)) : secsOf a = [] := if_neg h
theorem sectors_one (a : Int) : sectorsL [a] = secsOf a := by unfold sectorsL; simp
theorem secs_get (a : Int) (i : Nat) (h : i < (secs a 8).length) : (secs a 8)[i] = 2 + a * 8 + (i : Int) := by
  have h2 : (secs a 8)[i]? = some (2 + a * 8 + (i : Int)) := by
    rw [secs_length] at h
    unfold secs; rw [List.getElem?_map, List.getElem?_range h]; rfl
  rw [List.getElem?_eq_getElem h] at h2; exact Option.some.inj h2
theorem mem_secsOf {b e : Int} (h : e ∈ secsOf b) : 2 + b * 8 ≤ e ∧ e < 10 + b * 8 := by
  unfold secsOf secs at h
  split at h
  · simp at h; obtain ⟨j, hj, rfl⟩ := h; omega
  · simp at h
theorem secs_apart {a b : Int} (h : a ≠ b) (i : Nat) (hi : i < 8) : hasB (secsOf b) (2 + a * 8 + (i : Int)) = false := by
  cases e : hasB (secsOf b) (2 + a * 8 + (i : Int)) with
  | false => rfl
  | true => have := mem_secsOf (hasB_true.1 e); omega
theorem count_holds {n a : Int} (h0 : 0 ≤ a) (h : a < segCount n) : 10 + a * 8 ≤ n := by
  unfold segCount at h; split at h
  · omega
  · split at h <;> omega
theorem freeTo_nil (k : Nat) : freeTo [] k = (List.range k).map fun j : Nat => (j : Int) := by
  unfold freeTo hasB; simp
theorem freeL_nil_length (n : Int) : ((freeL n []).length : Int) = segCount n := by
  have := segCount_range n
  unfold freeL; rw [freeTo_nil]; simp; omega
/-- What is free beside one segment: sorted, below the count, without it; as many. -/
theorem mem_freeTo {l : List Int} {k : Nat} {e : Int} (h : e ∈ freeTo l k) : 0 ≤ e ∧ e < k ∧ hasB l e = false := by
  unfold freeTo at h
  rw [List.mem_filter] at h
  obtain ⟨h1, h2⟩ := h
  simp at h1; obtain ⟨j, hj, rfl⟩ := h1
  refine ⟨by omega, by omega, by simpa using h2⟩
theorem freeTo_sorted (l : List Int) (k : Nat) : (freeTo l k).Pairwise (· < ·) := by
  induction k with
  | zero => unfold freeTo; simp
  | succ k ih =>
    rw [freeTo_succ, List.pairwise_append]
    refine ⟨ih, by split <;> simp, fun x hx y hy => ?_⟩
    have := mem_freeTo hx
    split at hy
    · simp at hy
    · simp at hy; omega
theorem freeTo_count (a : Int) (k : Nat) : ((0 ≤ a ∧ a < k) → (freeTo [a] k).length + 1 = k) ∧ (¬ (0 ≤ a ∧ a < k) → (freeTo [a] k).length = k) := by
  induction k with
  | zero => exact ⟨fun h => by omega, fun _ => rfl⟩
  | succ k ih =>
    have hb : hasB [a] (k : Int) = decide ((k : Int) = a) := by unfold hasB; simp
    have hl : (freeTo [a] (k + 1)).length = (freeTo [a] k).length + if (k : Int) = a then 0 else 1 := by
      rw [freeTo_succ, List.length_append, hb]
      by_cases e : (k : Int) = a
      · rw [if_pos e, decide_eq_true e]; rfl
      · rw [if_neg e, decide_eq_false e]; rfl
    rw [hl]
    obtain ⟨ih1, ih2⟩ := ih
    by_cases e : (k : Int) = a
    · rw [if_pos e]
      have := ih2 (by omega)
      exact ⟨fun _ => by omega, fun h => by omega⟩
    · rw [if_neg e]
      exact ⟨fun h => by have := ih1 (by omega); omega, fun h => by have := ih2 (by omega); omega⟩
/-- What the law asks of the first list. -/
def XFacts (n a b : Int) (X : List Int) : Prop := ∀ i (h : i < X.length), 2 ≤ X[i] ∧ X[i] < 506 ∧ (a ≠ b → hasB (secsOf b) X[i] = false) ∧ (a < segCount n → X[i] < n)
theorem xFacts (n a b : Int) : XFacts n a b (secsOf a) := by
  by_cases h : 0 ≤ a ∧ a < 63
  · rw [secsOf_in h.1 h.2]
    intro i hi
    rw [secs_get a i hi]
    rw [secs_length] at hi
    exact ⟨by omega, by omega, fun hab => secs_apart hab i hi, fun hc => by have := count_holds h.1 hc; omega⟩
  · rw [secsOf_out h]
    intro i hi; simp at hi
theorem x_length (a : Int) : ((secsOf a).length = 8 ∧ 0 ≤ a ∧ a < 63) ∨ ((secsOf a).length = 0 ∧ ¬ (0 ≤ a ∧ a < 63)) := by
  by_cases h : 0 ≤ a ∧ a < 63
  · rw [secsOf_in h.1 h.2, secs_length]; exact .inl ⟨rfl, h⟩
  · rw [secsOf_out h]; exact .inr ⟨rfl, h⟩
/-- .. and of the second. -/
def LFacts (n a : Int) (L : List Int) : Prop := ∀ i (h : i < L.length), L[i] ≠ a ∧ 0 ≤ L[i] ∧ L[i] < segCount n ∧ ∀ j (hj : j < L.length), j < i → L[j] < L[i]
theorem lFacts (n a : Int) : LFacts n a (freeL n [a]) := by
  intro i hi
  have hm := mem_freeTo (List.getElem_mem hi)
  have hr := segCount_range n
  refine ⟨?_, hm.1, by omega, fun j hj hji => List.pairwise_iff_getElem.1 (freeTo_sorted [a] _) j i hj hi hji⟩
  intro he
  have := hm.2.2
  rw [he] at this
  unfold hasB at this; simp at this
theorem l_length (n a : Int) : (0 ≤ a ∧ a < segCount n ∧ ((freeL n [a]).length : Int) + 1 = segCount n) ∨ (¬ (0 ≤ a ∧ a < segCount n) ∧ ((freeL n [a]).length : Int) = segCount n) := by
  have h := freeTo_count a (segCount n).toNat
  have hr := segCount_range n
  have hk : (((segCount n).toNat : Nat) : Int) = segCount n := by omega
  rw [hk] at h
  unfold freeL
  by_cases hc : 0 ≤ a ∧ a < segCount n
  · have := h.1 hc; exact .inl ⟨hc.1, hc.2, by omega⟩
  · have := h.2 hc; exact .inr ⟨hc, by omega⟩

set_option maxHeartbeats 4000000 in
theorem segsApart_walk (n a b : Int) (w : World) (hn : (Lit.int .i64 n).wf = true) (ha : (Lit.int .i64 a).wf = true) (hb : (Lit.int .i64 b).wf = true) :
    Calls Try.prog 7 #[.int .i64 n, .int .i64 a, .int .i64 b] w fun e w' => e = .returned (.bool true) ∧ Below w.heap.size w w' := by
  obtain ⟨hn0, hn1⟩ := wf_i64 hn
  obtain ⟨ha0, ha1⟩ := wf_i64 ha
  obtain ⟨hbb0, hbb1⟩ := wf_i64 hb
  clear hn ha hb
  obtain ⟨hk0, hk1⟩ := segCount_range n
  have c1 : Hid (∀ w, Calls Try.prog 26 #[.int .i64 n] w fun e w' => e = .returned (.int .i64 (segCount n)) ∧ w = w') := Lib.hid fun w => count_any n w
  have s1 : Hid (∀ (s : Int) (W : World), -9223372036854775808 ≤ s ∧ s ≤ 9223372036854775807 → Below w.heap.size w W → Calls Try.prog 31 #[.slice (some ⟨W.heap.size, 0, none⟩) 1 1] (W.alloc (.cells #[.int .i64 s] 3)) fun e w' => ∃ A c, e = .returned (.slice A (secsOf s).length c) ∧ Sl (Value.int .i64) w' (.slice A (secsOf s).length c) (secsOf s) ∧ Below w.heap.size w w' ∧ Below W.heap.size W w') :=
    Lib.hid fun s W hs hb => (sectors_any _ [s] _ (sl_lit (Value.int .i64) W [s] _ 3 1 rfl rfl) (by simp) (by simpa using hs)).mono fun e w' ⟨v, he, ho, hb1⟩ => by
      have h := ho.sl; rw [sectors_one] at h
      obtain ⟨A, c, rfl, _⟩ := id h
      exact ⟨A, c, he, h, below_next (below_alloc hb _) hb1, below_next (below_new _ _) hb1⟩
  have f0 : Hid (∀ (W : World), Below w.heap.size w W → Calls Try.prog 33 #[.int .i64 n, .slice none 0 0] W fun e w' => ∃ A c, e = .returned (.slice A (freeL n []).length c) ∧ Below w.heap.size w w') :=
    Lib.hid fun W hb => (free_any _ n [] _ (Sl.nil _ _) (by simp) (by simp)).mono fun e w' ⟨v, he, ho, hb1⟩ => by
      obtain ⟨A, c, rfl, _⟩ := ho.sl
      exact ⟨A, c, he, below_next hb hb1⟩
  have f1 : Hid (∀ (W : World), Below w.heap.size w W → Calls Try.prog 33 #[.int .i64 n, .slice (some ⟨W.heap.size, 0, none⟩) 1 1] (W.alloc (.cells #[.int .i64 a] 3)) fun e w' => ∃ A c, e = .returned (.slice A (freeL n [a]).length c) ∧ Sl (Value.int .i64) w' (.slice A (freeL n [a]).length c) (freeL n [a]) ∧ Below w.heap.size w w') :=
    Lib.hid fun W hb => (free_any _ n [a] _ (sl_lit (Value.int .i64) W [a] _ 3 1 rfl rfl) (by simp) (by simp; omega)).mono fun e w' ⟨v, he, ho, hb1⟩ => by
      have h := ho.sl
      obtain ⟨A, c, rfl, _⟩ := id h
      exact ⟨A, c, he, h, below_next (below_alloc hb _) hb1⟩
  have aw : Hid (∀ W : World, Below w.heap.size w W → Calls Try.prog 25 #[] W fun e w' => e = .returned (.bool true) ∧ Below w.heap.size w w') :=
    Lib.hid fun W hb => (segs_awake W).mono fun e w' ⟨he, hb1⟩ => ⟨he, below_next hb hb1⟩
  have hbel0 := Below.refl w.heap.size w
  have ra : -9223372036854775808 ≤ a ∧ a ≤ 9223372036854775807 := ⟨ha0, ha1⟩
  have rb : -9223372036854775808 ≤ b ∧ b ≤ 9223372036854775807 := ⟨hbb0, hbb1⟩
  have RA := Lib.hid ra; have RB := Lib.hid rb
  clear ra rb
  go_enter Try.func7, Try.ntmps7
  go_wp2_with (first | (go_at_call 31; (with_reducible refine (s1.out _ _ RB.out hb1).mono ?_); rintro e w2 ⟨A2, k2, rfl, ho2, hb2, hbb⟩) | (go_at_call 31; (with_reducible refine (s1.out _ _ RA.out hbel0).mono ?_); rintro e w1 ⟨A1, k1, rfl, ho1, hb1, _⟩))
  have HO1 := Lib.hid (ho1.below hbb)
  have HO2 := Lib.hid ho2
  clear ho1 ho2 hbb hb1
  have HXF := Lib.hid (xFacts n a b)
  have HXL := Lib.hid (x_length a)
  have HY : (secsOf b).length ≤ 140737488351232 := by have := secsOf_length b; omega
  generalize secsOf a = X at *
  have hX8 : X.length ≤ 8 := by rcases HXL.out with h | h <;> omega
  have hcl : a < segCount n ∨ segCount n ≤ a := by omega
  have HCL := Lib.hid hcl; clear hcl
  have HAB := Lib.hid (show a = b ∨ a ≠ b from Classical.em _)
  go_loop [9] (fun i => ∃ k : Nat, k ≤ X.length ∧ i = .int .i64 k) (fun i => X.length - (intOf i).toNat)
  case atStart => exact ⟨0, by omega, rfl⟩
  case round =>
    obtain ⟨k, hk, rfl⟩ := hrel
    by_cases hlt : k < X.length
    · obtain ⟨h2, h506, hapart, hcnt⟩ := HXF.out k hlt
      obtain ⟨A1', c1', he1, _, hr1⟩ := HO1.out
      obtain ⟨ad, had, hcell⟩ := hr1 k hlt
      simp only [Value.slice.injEq, true_and] at he1
      obtain ⟨rfl, rfl⟩ := he1
      subst had
      clear hr1
      have HH := Lib.hid (has_any _ _ X[k] w2 HO2.out HY)
      generalize X[k] = x at *
      rcases HAB.out with hab | hab <;> rcases HCL.out with hc | hc
      · subst hab
        have hx := hcnt hc
        clear hapart hcnt
        have hbs : (a != a) = false := by simp
        go_wp2_with (first | (go_at_call 26; (with_reducible refine (c1.out _).mono ?_); rintro e w' ⟨rfl, rfl⟩))
        go_round
        case measure => simp [intOf]; omega
        case rel => exact ⟨k + 1, by omega, by go_num⟩
      · subst hab
        clear hapart hcnt
        have hbs : (a != a) = false := by simp
        go_wp2_with (first | (go_at_call 26; (with_reducible refine (c1.out _).mono ?_); rintro e w' ⟨rfl, rfl⟩))
        go_round
        case measure => simp [intOf]; omega
        case rel => exact ⟨k + 1, by omega, by go_num⟩
      · have hx := hcnt hc
        have H2 : Hid (Calls Try.prog 35 #[.slice A2 (secsOf b).length k2, .int .i64 x] w2 fun e w' => e = .returned (.bool false) ∧ w2 = w') := Lib.hid (by rw [← hapart hab]; exact HH.out)
        have hbs : (a != b) = true := by simpa using hab
        clear hapart hcnt hab
        go_wp2_with (first | (go_at_call 35; (with_reducible refine H2.out.mono ?_); rintro e w' ⟨rfl, rfl⟩) | (go_at_call 26; (with_reducible refine (c1.out _).mono ?_); rintro e w' ⟨rfl, rfl⟩))
        go_round
        case measure => simp [intOf]; omega
        case rel => exact ⟨k + 1, by omega, by go_num⟩
      · have H2 : Hid (Calls Try.prog 35 #[.slice A2 (secsOf b).length k2, .int .i64 x] w2 fun e w' => e = .returned (.bool false) ∧ w2 = w') := Lib.hid (by rw [← hapart hab]; exact HH.out)
        have hbs : (a != b) = true := by simpa using hab
        clear hapart hcnt hab
        go_wp2_with (first | (go_at_call 35; (with_reducible refine H2.out.mono ?_); rintro e w' ⟨rfl, rfl⟩) | (go_at_call 26; (with_reducible refine (c1.out _).mono ?_); rintro e w' ⟨rfl, rfl⟩))
        go_round
        case measure => simp [intOf]; omega
        case rel => exact ⟨k + 1, by omega, by go_num⟩
    · obtain rfl : k = X.length := by omega
      clear hlt
      have hfn : (((freeL n []).length : Int) != segCount n) = false := by rw [freeL_nil_length]; simp
      have HLF := Lib.hid (lFacts n a)
      have HLL := Lib.hid (l_length n a)
      have hL63 : (freeL n [a]).length ≤ 63 := by have := freeTo_length [a] (segCount n).toNat; unfold freeL; omega
      generalize freeL n [a] = L at *
      have hrange : (((X.length : Int) == 8) = true ∧ 0 ≤ a ∧ a < 63) ∨ (((X.length : Int) == 8) = false ∧ a < 0) ∨ (((X.length : Int) == 8) = false ∧ 0 ≤ a ∧ 63 ≤ a) := by
        rcases HXL.out with ⟨h, h1⟩ | ⟨h, h1⟩
        · exact .inl ⟨by rw [h]; rfl, h1⟩
        · rw [h]
          rcases (show a < 0 ∨ (0 ≤ a ∧ 63 ≤ a) by omega) with h2 | h2
          · exact .inr (.inl ⟨rfl, h2⟩)
          · exact .inr (.inr ⟨rfl, h2⟩)
      have c1q : Hid (∀ w, Calls Try.prog 26 #[.int .i64 n] w fun e w' => e = .returned (.int .i64 (segCount n)) ∧ w' = w) := Lib.hid fun w => (c1.out w).mono fun _ _ ⟨he, hw⟩ => ⟨he, hw.symm⟩
      have hK0 : 0 ≤ segCount n := by omega
      rcases hrange with ⟨hr1, hr2, hr3⟩ | ⟨hr1, hr2⟩ | ⟨hr1, hr2, hr3⟩
      all_goals
        go_wp2_with (first | (go_at_call 26; (with_reducible refine (c1.out _).mono ?_); rintro e w' ⟨rfl, rfl⟩) | (go_at_call 33; (with_reducible refine (f0.out _ hb2).mono ?_); rintro e w3 ⟨A3, k3, rfl, hb3⟩) | (go_at_call 33; (with_reducible refine (f1.out _ hb3).mono ?_); rintro e w4 ⟨A4, k4, rfl, ho4, hb4⟩))
        have HO4 := Lib.hid ho4
        clear ho4 hr1
        go_loopw [11] (fun i w' => ∃ k : Nat, k ≤ L.length ∧ i = .int .i64 k ∧ Hid (Sl (Value.int .i64) w' (.slice A4 L.length k4) L) ∧ Below w.heap.size w w') (fun i _ => L.length - (intOf i).toNat)
        case atStart => exact ⟨0, by omega, rfl, HO4, hb4⟩
        case round =>
          clear HO4 hb4
          obtain ⟨k, hk, rfl, HO4, hb4⟩ := hrel
          by_cases hlt : k < L.length
          · obtain ⟨hya, hy0, hyK, hprev⟩ := HLF.out k hlt
            obtain ⟨A4', c4', he4, _, hr4⟩ := HO4.out
            simp only [Value.slice.injEq, true_and] at he4
            obtain ⟨rfl, rfl⟩ := he4
            obtain ⟨ad, had, hcell⟩ := hr4 k hlt
            subst had
            have i0 : 0 ≤ (k : Int) := by omega
            have i1 : (k : Int) < (L.length : Int) := by omega
            have t1 : (L[k] == a) = false := beq_false_of_ne hya
            have t2 : decide (L[k] < 0) = false := decide_eq_false (by omega)
            have t3 : decide (segCount n ≤ L[k]) = false := decide_eq_false (by omega)
            by_cases hk0 : k = 0
            · have t5 : decide (0 < k) = false := decide_eq_false (by omega)
              have HK0 := Lib.hid hk0
              generalize L[k] = y at *
              clear hr4 hprev hya hy0 hyK hk0
              go_wp2_with fail
              refine wp_region_quiet_lit (by kernel_rfl) (by kernel_rfl) ?_
              repeat (first | go_big_quiet_step (fail) | quiet_step ((go_at_call 26; exact Calls.quiet_of_same (c1q.out _))))
              refine wpQuiet_nil ?_
              intro _ hw'
              obtain ⟨nq, hw''⟩ := hw'
              subst hw''
              go_wp2
              go_roundw
              case measure => simp [intOf]; omega
              case rel => exact ⟨k + 1, by omega, by go_num, HO4, below_drewN hb4 _⟩
            · obtain ⟨k', hk'⟩ : ∃ k', k = k' + 1 := ⟨k - 1, by omega⟩
              obtain ⟨ad', had', hcell'⟩ := hr4 k' (by omega)
              obtain rfl := Option.some.inj had'
              have hp := hprev k' (by omega) (by omega)
              have t4 : decide (L[k] ≤ L[k']) = false := decide_eq_false (by omega)
              have t5 : 0 < k := by omega
              have t6 : IntKind.i64.wrap ((k : Int) - 1) = (k' : Int) := by rw [IntWalk.i64_in _ (by omega)]; omega
              have i2 : 0 ≤ (k' : Int) := by omega
              have i3 : (k' : Int) < (L.length : Int) := by omega
              clear hr4 hprev hya hy0 hyK hp had' hk0
              generalize L[k] = y at *
              generalize L[k'] = y' at *
              have HK1 := Lib.hid hk'; clear hk'
              go_wp2_with fail
              refine wp_region_quiet_lit (by kernel_rfl) (by kernel_rfl) ?_
              repeat (first | go_big_quiet_step (fail) | quiet_step ((go_at_call 26; exact Calls.quiet_of_same (c1q.out _))))
              refine wpQuiet_nil ?_
              intro _ hw'
              obtain ⟨nq, hw''⟩ := hw'
              subst hw''
              go_wp2
              go_roundw
              case measure => simp [intOf]; omega
              case rel => exact ⟨k + 1, by omega, by go_num, HO4, below_drewN hb4 _⟩
          · obtain rfl : k = L.length := by omega
            clear hlt
            have hfin : (0 ≤ a ∧ a < segCount n ∧ (((L.length : Int) + 1 == segCount n) = true)) ∨ (0 ≤ a ∧ segCount n ≤ a ∧ (((L.length : Int) == segCount n) = true)) ∨ (a < 0 ∧ (((L.length : Int) == segCount n) = true)) := by
              rcases HLL.out with ⟨h1, h2, h3⟩ | ⟨h1, h2⟩
              · exact .inl ⟨h1, h2, by rw [h3]; exact beq_self_eq_true _⟩
              · rcases (show a < 0 ∨ (0 ≤ a ∧ segCount n ≤ a) by omega) with h3 | ⟨h3, h4⟩
                · exact .inr (.inr ⟨h3, by rw [h2]; exact beq_self_eq_true _⟩)
                · exact .inr (.inl ⟨h3, h4, by rw [h2]; exact beq_self_eq_true _⟩)
            rcases hfin with ⟨g1, g2, g3⟩ | ⟨g1, g2, g3⟩ | ⟨g1, g3⟩
            all_goals
              go_wp2_with (first | (go_at_call 26; (with_reducible refine (c1.out _).mono ?_); rintro e w' ⟨rfl, rfl⟩) | (go_at_call 25; (with_reducible refine (aw.out _ hb4).mono ?_); rintro e w7 ⟨rfl, hb7⟩))
              all_goals (go_ret; exact ⟨rfl, hb7⟩)
end Go.Proofs.Ytmmajdkngboecaa
