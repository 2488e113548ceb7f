/- The walks of wire.Reader's Int, Text and Done. -/
import Derived.Test.YtoojdknfommpbaaDoorWireRead
namespace Go.Proofs.YtoojdknfommpbaaDoor
open Go.RowKit
set_option maxRecDepth 10000

theorem Tou.then1 {b : Nat} {w w1 w2 : World} (h : Tou (One1 b) w w1) (k : Tou (One1 b) w1 w2) : Tou (One1 b) w w2 := h.trans k
theorem Tou.bel1 {b : Nat} {w w1 w2 : World} (h : Tou (One1 b) w w1) (k : Below w1.heap.size w1 w2) : Tou (One1 b) w w2 := h.trans (tou_of_below k)
theorem rdAt_cells {W : World} {b : Nat} {l : List UInt8} (h : RdAt W b (some l)) : W.cell? ⟨b, 0, none⟩ = some (.string (mkS l)) ∧ W.cell? ⟨b, 1, none⟩ = some (.bool true) := (cells2 (show W.heap[b]? = some (.cells #[.string (mkS l), .bool true] 138 (0, 0)) from h)).1
theorem rInt_any (b : Nat) (r : Option (List UInt8)) (high : Nat) (w : World) (h : RdAt w b r) (hr : ∀ l, r = some l → l.length ≤ 1000) (hh : high ≤ 1099511627776) :
    Calls Tryd.prog 108 #[.pointer (some ⟨b, 0, none⟩), .int .i64 0, .int .i64 (high : Int)] w (RPost b w (.int .i64 ((rdInt r high).1 : Int)) (rdInt r high).2) := by
  have GF : Hid (∀ W r, RdAt W b r → Calls Tryd.prog 128 #[.pointer (some ⟨b, 0, none⟩), .bool false] W fun e w' => e = .returned (.bool false) ∧ RdAt w' b none ∧ Tou (One1 b) W w') := Lib.hid fun W r h =>
    (goes_any b r false W h).mono fun e w' ⟨he, h1, h2⟩ => ⟨by rw [he, Bool.and_false], h1, h2⟩
  rcases r with _ | l
  · have GN : Hid (Calls Tryd.prog 128 #[.pointer (some ⟨b, 0, none⟩), .bool true] w fun e w' => e = .returned (.bool false) ∧ RdAt w' b none ∧ Tou (One1 b) w w') := Lib.hid (goes_any b none true w h)
    clear h hr
    go_enter Tryd.func108, Tryd.ntmps108
    go_wp2_with (go_at_call 128; (with_reducible refine GN.out.mono ?_); rintro e w1 ⟨rfl, h1, t1⟩)
    go_ret
    exact ⟨rfl, h1, t1⟩
  · have GT : Hid (∀ W, RdAt W b (some l) → Calls Tryd.prog 128 #[.pointer (some ⟨b, 0, none⟩), .bool true] W fun e w' => e = .returned (.bool true) ∧ RdAt w' b (some l) ∧ Tou (One1 b) W w') := Lib.hid fun W h => goes_any b (some l) true W h
    have HNum : Hid (∀ W, Calls Tryd.prog 129 #[.string (mkS l)] W fun e w' => e = .returned (.tuple #[.int .i64 (numN l), .int .i64 (numK l)]) ∧ Below W.heap.size W w') := Lib.hid fun W => number_any l W (hr l rfl)
    have H0 := Lib.hid h
    have hhI : (high : Int) ≤ 1099511627776 := by omega
    have HC : Hid (∀ W, RdAt W b (some l) → W.cell? ⟨b, 0, none⟩ = some (.string (mkS l)) ∧ W.cell? ⟨b, 1, none⟩ = some (.bool true)) := Lib.hid fun W h => rdAt_cells h
    by_cases hbad : numBad l ∨ numP l % 2 = 1 ∨ high < numP l / 2
    · have hres : rdInt (some l) high = (0, none) := by unfold rdInt; simp only; rw [if_pos hbad]
      rw [hres]
      have hm : numK l ≤ 0 ∨ (0 < numK l ∧ numN l < 0) ∨ (0 < numK l ∧ 0 ≤ numN l ∧ decide (numN l ≤ (high : Int)) = false) := by
        unfold numN numK
        by_cases h1 : numBad l
        · rw [if_pos h1]; exact .inl (by omega)
        · rw [if_neg h1, if_neg h1]
          by_cases h2 : numP l % 2 = 1
          · rw [if_pos h2]; exact .inr (.inl ⟨by omega, by omega⟩)
          · rw [if_neg h2]
            rcases hbad with h3 | h3 | h3
            · exact absurd h3 h1
            · exact absurd h3 h2
            · exact .inr (.inr ⟨by omega, by omega, decide_eq_false (by omega)⟩)
      clear h hr hbad hres hh
      generalize numN l = N at *
      generalize numK l = K at *
      rcases hm with m1 | ⟨m1, m2⟩ | ⟨m1, m2, m3⟩
      all_goals
        go_enter Tryd.func108, Tryd.ntmps108
        go_wp2_with (first | (go_at_call 128; (with_reducible refine (GT.out _ H0.out).mono ?_); rintro e w1 ⟨rfl, h1, t1⟩; have H1 := Lib.hid (And.intro h1 t1); have q1 := HC.out _ h1; obtain ⟨x0, x1⟩ := q1; clear h1 t1) | (go_at_call 129; (with_reducible refine (HNum.out _).mono ?_); rintro e w2 ⟨rfl, hb2⟩) | (go_at_call 128; (with_reducible refine (GF.out _ _ (H1.out.1.below hb2)).mono ?_); rintro e w3 ⟨rfl, h3, t3⟩))
        go_ret
        exact ⟨rfl, h3, (H1.out.2.bel1 hb2).then1 t3⟩
    · have hres : rdInt (some l) high = (numP l / 2, some (l.drop (1 + cnt0 l))) := by unfold rdInt; simp only; rw [if_neg hbad]
      simp only [not_or] at hbad
      obtain ⟨hb1, hb2, hb3⟩ := hbad
      have hN : numN l = ((numP l / 2 : Nat) : Int) := by unfold numN; rw [if_neg hb1, if_neg hb2]
      have hK : numK l = ((1 + cnt0 l : Nat) : Int) := by unfold numK; rw [if_neg hb1]
      have hle : 1 + cnt0 l ≤ l.length := by unfold numBad at hb1; omega
      have HTk : Hid (∀ W, RdAt W b (some l) → Calls Tryd.prog 130 #[.pointer (some ⟨b, 0, none⟩), .int .i64 ((1 + cnt0 l : Nat) : Int)] W fun e w' => e = .returned (.string (mkS (l.take (1 + cnt0 l)))) ∧ RdAt w' b (some (l.drop (1 + cnt0 l))) ∧ Tou (One1 b) W w') := Lib.hid fun W h => take_rd b l _ W h hle
      have hKp : 0 < ((1 + cnt0 l : Nat) : Int) := by omega
      have hNh : ((numP l / 2 : Nat) : Int) ≤ (high : Int) := by omega
      rw [hN, hK] at HNum
      rw [hres]
      clear h hr hres hh hN hK hle hb1 hb2 hb3
      generalize numP l / 2 = N at *
      generalize 1 + cnt0 l = K at *
      go_enter Tryd.func108, Tryd.ntmps108
      go_wp2_with (first | (go_at_call 128; have hq := H2.out; (with_reducible refine (GT.out _ hq.1).mono ?_); rintro e w3 ⟨rfl, h3, t3⟩; clear hq) | (go_at_call 128; (with_reducible refine (GT.out _ H0.out).mono ?_); rintro e w1 ⟨rfl, h1, t1⟩; have H1 := Lib.hid (And.intro h1 t1); have q1 := HC.out _ h1; obtain ⟨x0, x1⟩ := q1; clear h1 t1) | (go_at_call 129; (with_reducible refine (HNum.out _).mono ?_); rintro e w2 ⟨rfl, hb2⟩; have H2 := Lib.hid (And.intro (H1.out.1.below hb2) (H1.out.2.bel1 hb2)); clear hb2) | (go_at_call 130; (with_reducible refine (HTk.out _ h3).mono ?_); rintro e w4 ⟨rfl, h4, t4⟩))
      go_ret
      exact ⟨rfl, h4, (H2.out.2.then1 t3).then1 t4⟩
theorem rdInt_len {r : Option (List UInt8)} {high : Nat} (hr : ∀ l, r = some l → l.length ≤ 1000) : ∀ l, (rdInt r high).2 = some l → l.length ≤ 1000 := by
  intro l hl
  rcases r with _ | s
  · simp [rdInt] at hl
  · unfold rdInt at hl
    simp only at hl
    split at hl
    · simp at hl
    · have := hr s rfl
      simp only [Option.some.injEq] at hl
      rw [← hl, List.length_drop]; omega
theorem rdText_len {r : Option (List UInt8)} {m : Nat} (hr : ∀ l, r = some l → l.length ≤ 1000) : ∀ l, (rdText r m).2 = some l → l.length ≤ 1000 := by
  intro l hl
  rcases ht : rdText r m with ⟨bb, _ | t⟩
  · rw [ht] at hl; simp at hl
  · obtain ⟨h1, _⟩ := rdText_some ht
    have := hr _ h1
    rw [ht] at hl
    simp only [Option.some.injEq] at hl
    subst hl
    rw [List.length_append] at this; omega
theorem rText_any (b : Nat) (r : Option (List UInt8)) (most : Nat) (w : World) (h : RdAt w b r) (hr : ∀ l, r = some l → l.length ≤ 1000) (hm : most ≤ 1000) :
    Calls Tryd.prog 109 #[.pointer (some ⟨b, 0, none⟩), .int .i64 (most : Int)] w (RPost b w (.string (mkS (rdText r most).1)) (rdText r most).2) := by
  have HI : Hid (Calls Tryd.prog 108 #[.pointer (some ⟨b, 0, none⟩), .int .i64 0, .int .i64 (most : Int)] w (RPost b w (.int .i64 ((rdInt r most).1 : Int)) (rdInt r most).2)) := Lib.hid (rInt_any b r most w h hr (by omega))
  have hlen := rdInt_len (high := most) hr
  have hmI : (most : Int) ≤ 1000 := by omega
  have hdef : rdText r most = match (rdInt r most).2 with
    | none => ([], none)
    | some s => if s.length < (rdInt r most).1 then ([], none) else (s.take (rdInt r most).1, some (s.drop (rdInt r most).1)) := rfl
  rw [hdef]
  clear hdef h hr
  generalize (rdInt r most).1 = n at *
  generalize (rdInt r most).2 = r1 at *
  unfold RPost at HI
  rcases r1 with _ | s
  · have GN : Hid (∀ W, RdAt W b none → Calls Tryd.prog 128 #[.pointer (some ⟨b, 0, none⟩), .bool true] W fun e w' => e = .returned (.bool false) ∧ RdAt w' b none ∧ Tou (One1 b) W w') := Lib.hid fun W h => goes_any b none true W h
    clear hlen
    go_enter Tryd.func109, Tryd.ntmps109
    go_wp2_with (first | (go_at_call 108; (with_reducible refine HI.out.mono ?_); rintro e w1 ⟨rfl, h1, t1⟩) | (go_at_call 128; (with_reducible refine (GN.out _ h1).mono ?_); rintro e w2 ⟨rfl, h2, t2⟩))
    go_ret
    exact ⟨rfl, h2, t1.then1 t2⟩
  · have hsl := hlen s rfl
    have GT : Hid (∀ W, RdAt W b (some s) → Calls Tryd.prog 128 #[.pointer (some ⟨b, 0, none⟩), .bool true] W fun e w' => e = .returned (.bool true) ∧ RdAt w' b (some s) ∧ Tou (One1 b) W w') := Lib.hid fun W h => goes_any b (some s) true W h
    have GF : Hid (∀ W, RdAt W b (some s) → Calls Tryd.prog 128 #[.pointer (some ⟨b, 0, none⟩), .bool false] W fun e w' => e = .returned (.bool false) ∧ RdAt w' b none ∧ Tou (One1 b) W w') := Lib.hid fun W h => goes_any b (some s) false W h
    have HC : Hid (∀ W, RdAt W b (some s) → W.cell? ⟨b, 0, none⟩ = some (.string (mkS s)) ∧ W.cell? ⟨b, 1, none⟩ = some (.bool true)) := Lib.hid fun W h => rdAt_cells h
    have hz : ((mkS s).size : Int) = (s.length : Int) := by rw [mkS_size]
    have hzI : ((mkS s).size : Int) ≤ 1000 := by omega
    by_cases hlt : s.length < n
    · have hltD : decide (n ≤ (mkS s).size) = false := decide_eq_false (by omega)
      have hres : (if s.length < n then (([] : List UInt8), (none : Option (List UInt8))) else (s.take n, some (s.drop n))) = ([], none) := if_pos hlt
      simp only [hres]
      clear hlen hsl hz hlt hres
      generalize mkS s = S at *
      go_enter Tryd.func109, Tryd.ntmps109
      go_wp2_with (first | (go_at_call 108; (with_reducible refine HI.out.mono ?_); rintro e w1 ⟨rfl, h1, t1⟩) | (go_at_call 128; (with_reducible refine (GT.out _ h1).mono ?_); rintro e w2 ⟨rfl, h2, t2⟩; have q1 := HC.out _ h2; obtain ⟨x0, x1⟩ := q1) | (go_at_call 128; (with_reducible refine (GF.out _ h2).mono ?_); rintro e w3 ⟨rfl, h3, t3⟩))
      go_ret
      exact ⟨rfl, h3, (t1.then1 t2).then1 t3⟩
    · have hltI : (n : Int) ≤ ((mkS s).size : Int) := by omega
      have hres : (if s.length < n then (([] : List UInt8), (none : Option (List UInt8))) else (s.take n, some (s.drop n))) = (s.take n, some (s.drop n)) := if_neg hlt
      simp only [hres]
      have HTk : Hid (∀ W, RdAt W b (some s) → Calls Tryd.prog 130 #[.pointer (some ⟨b, 0, none⟩), .int .i64 (n : Int)] W fun e w' => e = .returned (.string (mkS (s.take n))) ∧ RdAt w' b (some (s.drop n)) ∧ Tou (One1 b) W w') := Lib.hid fun W h => take_rd b s n W h (by omega)
      clear hlen hsl hz hlt hres
      generalize mkS s = S at *
      go_enter Tryd.func109, Tryd.ntmps109
      go_wp2_with (first | (go_at_call 108; (with_reducible refine HI.out.mono ?_); rintro e w1 ⟨rfl, h1, t1⟩) | (go_at_call 128; have hq := h2; (with_reducible refine (GT.out _ hq).mono ?_); rintro e w3 ⟨rfl, h3, t3⟩; clear hq) | (go_at_call 128; (with_reducible refine (GT.out _ h1).mono ?_); rintro e w2 ⟨rfl, h2, t2⟩; have q1 := HC.out _ h2; obtain ⟨x0, x1⟩ := q1) | (go_at_call 130; (with_reducible refine (HTk.out _ h3).mono ?_); rintro e w4 ⟨rfl, h4, t4⟩))
      go_ret
      exact ⟨rfl, h4, ((t1.then1 t2).then1 t3).then1 t4⟩
theorem rDone_any (b : Nat) (r : Option (List UInt8)) (w : World) (h : RdAt w b r) :
    Calls Tryd.prog 76 #[.pointer (some ⟨b, 0, none⟩)] w fun e w' => e = .returned (.bool (decide (r = some []))) ∧ w = w' := by
  rcases r with _ | l
  · obtain ⟨⟨c0, c1⟩, _⟩ := cells2 (show w.heap[b]? = some (.cells #[.string ⟨#[]⟩, .bool false] 138 (0, 0)) from h)
    clear h
    go_enter Tryd.func76, Tryd.ntmps76
    go_wp2
    go_ret
    exact ⟨by simp, rfl⟩
  · obtain ⟨⟨c0, c1⟩, _⟩ := cells2 (show w.heap[b]? = some (.cells #[.string (mkS l), .bool true] 138 (0, 0)) from h)
    clear h
    have hz := mkS_size l
    rcases l with _ | ⟨x, l⟩
    · have hs := str_nil (s := mkS []) rfl
      generalize mkS [] = S at *
      go_enter Tryd.func76, Tryd.ntmps76
      go_wp2
      go_ret
      exact ⟨by simp, rfl⟩
    · have hne : ¬ (mkS (x :: l)).size = 0 := by rw [hz]; simp
      have hs := str_some hne
      have hSe : ¬ mkS (x :: l) = ByteArray.empty := fun e => by rw [e] at hne; exact hne rfl
      have HD : Hid (decide (some (x :: l) = some ([] : List UInt8)) = false) := Lib.hid (by simp)
      rw [HD.out]
      clear hz hne
      generalize mkS (x :: l) = S at *
      go_enter Tryd.func76, Tryd.ntmps76
      go_wp2
      go_ret
      exact ⟨rfl, rfl⟩
end Go.Proofs.YtoojdknfommpbaaDoor
