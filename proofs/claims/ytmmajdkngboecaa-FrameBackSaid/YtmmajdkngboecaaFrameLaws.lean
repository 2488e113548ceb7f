/- The laws of frames: the walks. -/
import Derived.Test.YtmmajdkngboecaaTakeLaws
import Derived.Test.YtmmajdkngboecaaTakeRef
namespace Go.Proofs.Ytmmajdkngboecaa
open Go.RowKit
set_option maxRecDepth 10000

theorem size_le_all {l : List ByteArray} {most size : Nat} (h : (l.length : Int) ≤ most ∧ ∀ s ∈ l, (s.size : Int) ≤ size) : sizeL l ≤ most * (6 + size) :=
  sizeL_bound l size most (by omega) fun s hs => by have := h.2 s hs; omega
theorem strs_true (v u : Value) (l m : List ByteArray) (w : World) (hs : Sl Value.string w v l) (ht : Sl Value.string w u m) (h : l = m) (hl : l.length ≤ 140737488351232) :
    Calls Try.prog 44 #[v, u] w fun e w' => e = .returned (.bool true) ∧ Below w.heap.size w w' := by
  have := strs_same v u l m w hs ht hl (by rw [← h]; exact hl)
  rw [decide_eq_true h] at this; exact this
theorem frame_awake (w : World) : Calls Try.prog 37 #[] w fun e w' => e = .returned (.bool true) ∧ Below w.heap.size w w' := by
  obtain ⟨t, ht⟩ : ∃ t, t = (⟨#[0, 1, 232, 183, 190, 67, 97]⟩ : ByteArray) := ⟨_, rfl⟩
  obtain ⟨a, ha⟩ : ∃ a, a = (⟨#[97]⟩ : ByteArray) := ⟨_, rfl⟩
  have ep : putS [a] = t := by rw [ha, ht]; decide +kernel
  have ee : putE [a] = 0 := by rw [ha]; decide +kernel
  have et : takeT (bl t) = (0, [a]) := by rw [ha, ht]; decide +kernel
  have p1 : Hid (∀ W : World, Calls Try.prog 38 #[.slice (some ⟨W.heap.size, 0, none⟩) 1 1] (W.alloc (.cells #[.string ⟨#[97]⟩] 9)) fun e w' => e = .returned (.tuple #[.string t, .int .i64 0]) ∧ Below W.heap.size W w') :=
    Lib.hid fun W => (put_any _ [a] _ (by rw [ha]; exact sl_lit Value.string W [⟨#[97]⟩] _ 9 1 rfl rfl) (by rw [ha]; decide)).mono fun e w' ⟨he, hb⟩ => ⟨by rw [← ep, ← ee]; exact he, below_next (below_new _ _) hb⟩
  have p2 : Hid (∀ W : World, Calls Try.prog 38 #[.slice (some ⟨W.heap.size, 0, none⟩) 1 1] (W.alloc (.cells #[.string ⟨#[]⟩] 9)) fun e w' => e = .returned (.tuple #[.string ByteArray.empty, .int .i64 1]) ∧ Below W.heap.size W w') :=
    Lib.hid fun W => (put_any _ [ByteArray.empty] _ (sl_lit Value.string W [⟨#[]⟩] _ 9 1 rfl rfl) (by decide)).mono fun e w' ⟨he, hb⟩ => ⟨he, below_next (below_new _ _) hb⟩
  have k1 : Hid (∀ W : World, Calls Try.prog 42 #[.string t] W fun e w' => ∃ v, e = .returned (.tuple #[v, .int .i64 0]) ∧ Sl Value.string w' v [a] ∧ Below W.heap.size W w') :=
    Lib.hid fun W => (take_any t W (by rw [ht]; decide)).mono fun e w' h => by
      obtain ⟨v, he, ho, hb⟩ := h
      rw [et] at he ho; exact ⟨v, he, ho.sl, hb⟩
  have z1 : Hid (∀ W : World, Calls Try.prog 40 #[.slice (some ⟨W.heap.size, 0, none⟩) 1 1] (W.alloc (.cells #[.string ⟨#[97, 98]⟩] 9)) fun e w' => e = .returned (.int .i64 8) ∧ (W.alloc (.cells #[.string ⟨#[97, 98]⟩] 9)) = w') :=
    Lib.hid fun W => size_any _ [⟨#[97, 98]⟩] _ (sl_lit Value.string W [⟨#[97, 98]⟩] _ 9 1 rfl rfl) (by decide)
  have q1 : Hid (∀ (W : World) (v : Value), Sl Value.string W v [a] → Calls Try.prog 44 #[v, .slice (some ⟨W.heap.size, 0, none⟩) 1 1] (W.alloc (.cells #[.string ⟨#[97]⟩] 9)) fun e w' => e = .returned (.bool true) ∧ Below W.heap.size W w') :=
    Lib.hid fun W v h => (strs_true _ _ _ _ _ (h.alloc _) (sl_lit Value.string W [⟨#[97]⟩] _ 9 1 rfl rfl) (by rw [ha]) (by simp)).mono fun e w' ⟨he, hb⟩ => ⟨he, below_next (below_new _ _) hb⟩
  have hc : t.toList = [0, 1, 232, 183, 190, 67, 97] := by rw [ht]; decide +kernel
  clear ep ee et ht ha
  go_enter Try.func37, Try.ntmps37
  go_wp2_with (first | (go_at_call 38; (with_reducible refine (p1.out _).mono ?_); rintro e w1 ⟨rfl, hb1⟩) | (go_at_call 38; (with_reducible refine (p2.out _).mono ?_); rintro e w3 ⟨rfl, hb3⟩) | (go_at_call 42; (with_reducible refine (k1.out _).mono ?_); rintro e w2 ⟨v2, rfl, hs2, hb2⟩) | (go_at_call 40; (with_reducible refine (z1.out _).mono ?_); rintro e w5 ⟨rfl, rfl⟩) | (go_at_call 44; (with_reducible refine (q1.out _ _ (hs2.below hb3)).mono ?_); rintro e w4 ⟨rfl, hb4⟩))

  go_ret
  exact ⟨rfl, below_next (below_next (below_next (below_next hb1 hb2) hb3) hb4) (below_new _ _)⟩
theorem few_get {l : List ByteArray} {most size : Int} {w : World} {b : Bool} {w' : World} (h : FewPost l most size w (.returned (.bool b)) w') : (b = true → (l.length : Int) ≤ most ∧ ∀ s ∈ l, (s.size : Int) ≤ size) ∧ w = w' := by
  obtain ⟨c, he, h1, h2⟩ := h
  have := Ending.returned.inj he; cases this; exact ⟨h1, h2⟩
theorem few_ex {l : List ByteArray} {most size : Int} {w : World} {e : Ending} {w' : World} (h : FewPost l most size w e w') : ∃ b, e = .returned (.bool b) := by obtain ⟨c, he, _⟩ := h; exact ⟨c, he⟩

theorem framePuts_walk (v : Value) (l : List ByteArray) (w : World) (hl : Sl Value.string w v l ∧ (∀ x ∈ l, x.size ≤ maxLen) ∧ l.length ≤ maxLen) :
    Calls Try.prog 8 #[v] w fun e w' => e = .returned (.bool true) ∧ Below w.heap.size w w' := by
  obtain ⟨hs, hfit, hlm⟩ := hl
  unfold maxLen at hlm hfit
  have HV := Lib.hid hs
  obtain ⟨A, c, rfl⟩ : ∃ A c, v = .slice A l.length c := by obtain ⟨A, c, rfl, _⟩ := hs; exact ⟨A, c, rfl⟩
  clear hs
  have F := Lib.hid (few_any _ l 12 5000 w HV.out (by decide) (by decide) (by omega) (fun s h => by have := hfit s h; omega))
  clear hfit
  by_cases hf : (l.length : Int) ≤ 12 ∧ ∀ s ∈ l, (s.size : Int) ≤ 5000
  · have hz := size_le_all (most := 12) (size := 5000) hf
    have P1 : Hid (∀ W, Below w.heap.size w W → Calls Try.prog 38 #[.slice A l.length c] W fun e w' => e = .returned (.tuple #[.string (putS l), .int .i64 (putE l)]) ∧ Below w.heap.size w w') :=
      Lib.hid fun W h => (put_any _ l W (HV.out.below h) (by omega)).mono fun e w' ⟨he, hb⟩ => ⟨he, below_next h hb⟩
    have P2 : Hid (∀ W, Below w.heap.size w W → Calls Try.prog 39 #[.slice A l.length c] W fun e w' => e = .returned (.tuple #[.string (putS l), .int .i64 (putE l)]) ∧ Below w.heap.size w w') :=
      Lib.hid fun W h => (put_ref _ l W (HV.out.below h) (by omega)).mono fun e w' ⟨he, hb⟩ => ⟨he, below_next h hb⟩
    have Z1 : Hid (∀ W, Below w.heap.size w W → Calls Try.prog 40 #[.slice A l.length c] W fun e w' => e = .returned (.int .i64 (sizeL l : Int)) ∧ W = w') :=
      Lib.hid fun W h => size_any _ l W (HV.out.below h) (by omega)
    have Z2 : Hid (∀ W, Below w.heap.size w W → Calls Try.prog 41 #[.slice A l.length c] W fun e w' => e = .returned (.int .i64 (sizeL l : Int)) ∧ W = w') :=
      Lib.hid fun W h => size_ref _ l W (HV.out.below h) (by omega)
    generalize putS l = ps at *
    generalize putE l = pe at *
    generalize sizeL l = sz at *
    clear hf hz
    go_enter Try.func8, Try.ntmps8
    go_wp2_with (first | (go_at_call 36; (with_reducible refine F.out.mono ?_); intro e w' h; obtain ⟨b, rfl⟩ := few_ex h; obtain ⟨_, rfl⟩ := few_get h; rcases b with _ | _) | (go_at_call 38; (with_reducible refine (P1.out _ (Below.refl _ _)).mono ?_); rintro e w1 ⟨rfl, hb1⟩) | (go_at_call 39; (with_reducible refine (P2.out _ hb1).mono ?_); rintro e w2 ⟨rfl, hb2⟩) | (go_at_call 40; (with_reducible refine (Z1.out _ hb2).mono ?_); rintro e w3 ⟨rfl, rfl⟩) | (go_at_call 41; (with_reducible refine (Z2.out _ hb2).mono ?_); rintro e w3 ⟨rfl, rfl⟩) | (go_at_call 37; refine (frame_awake _).mono ?_; rintro e w5 ⟨rfl, hb5⟩))
    · go_ret
      exact ⟨rfl, hb5⟩
    · go_ret
      exact ⟨rfl, below_next hb2 hb5⟩
  · have F2 : Hid (∀ b w', FewPost l 12 5000 w (.returned (.bool b)) w' → b = false ∧ w = w') := Lib.hid fun b w' h => by
      obtain ⟨h1, h2⟩ := few_get h
      refine ⟨?_, h2⟩
      cases b
      · rfl
      · exact absurd (h1 rfl) hf
    clear hf
    go_enter Try.func8, Try.ntmps8
    go_wp2_with (first | (go_at_call 36; (with_reducible refine F.out.mono ?_); intro e w' h; obtain ⟨b, rfl⟩ := few_ex h; obtain ⟨rfl, rfl⟩ := F2.out _ _ h) | (go_at_call 37; refine (frame_awake _).mono ?_; rintro e w5 ⟨rfl, hb5⟩))
    go_ret
    exact ⟨rfl, hb5⟩

theorem frameTakes_walk (s : ByteArray) (w : World) (hs : s.size ≤ maxLen) :
    Calls Try.prog 9 #[.string s] w fun e w' => e = .returned (.bool true) ∧ Below w.heap.size w w' := by
  unfold maxLen at hs
  by_cases h6 : 600 < s.size
  · go_enter Try.func9, Try.ntmps9
    go_wp2_with (go_at_call 37; refine (frame_awake _).mono ?_; rintro e w' ⟨rfl, hb⟩)
    go_ret
    exact ⟨rfl, hb⟩
  · have T1 : Hid (∀ W, Calls Try.prog 42 #[.string s] W fun e w' => ∃ v, e = .returned (.tuple #[v, .int .i64 (takeT (bl s)).1]) ∧ Sl Value.string w' v (takeT (bl s)).2 ∧ Below W.heap.size W w') :=
      Lib.hid fun W => (take_any s W (by omega)).mono fun e w' h => by obtain ⟨v, he, ho, hb⟩ := h; exact ⟨v, he, ho.sl, hb⟩
    have T2 : Hid (∀ W, Calls Try.prog 43 #[.string s] W fun e w' => ∃ v, e = .returned (.tuple #[v, .int .i64 (takeT (bl s)).1]) ∧ Sl Value.string w' v (takeT (bl s)).2 ∧ Below W.heap.size W w') :=
      Lib.hid fun W => (take_ref s W (by omega)).mono fun e w' h => by obtain ⟨v, he, ho, hb⟩ := h; exact ⟨v, he, ho.sl, hb⟩
    have hsI : (s.size : Int) ≤ 600 := by omega
    have HL : Hid ((takeT (bl s)).2.length ≤ 140737488351232) := Lib.hid (by have := takeT_short (bl s); rw [bl_length] at this; omega)
    generalize (takeT (bl s)).1 = te at *
    generalize (takeT (bl s)).2 = tl at *
    clear h6
    go_enter Try.func9, Try.ntmps9
    go_wp2_with (first | (go_at_call 42; (with_reducible refine (T1.out _).mono ?_); rintro e w1 ⟨v1, rfl, hs1, hb1⟩) | (go_at_call 43; (with_reducible refine (T2.out _).mono ?_); rintro e w2 ⟨v2, rfl, hs2, hb2⟩) | (go_at_call 44; (with_reducible refine (strs_true _ _ tl tl _ (hs1.below hb2) hs2 rfl HL.out).mono ?_); rintro e w3 ⟨rfl, hb3⟩) | (go_at_call 37; refine (frame_awake _).mono ?_; rintro e w5 ⟨rfl, hb5⟩))
    go_ret
    exact ⟨rfl, below_next (below_next (below_next hb1 hb2) hb3) hb5⟩
end Go.Proofs.Ytmmajdkngboecaa
