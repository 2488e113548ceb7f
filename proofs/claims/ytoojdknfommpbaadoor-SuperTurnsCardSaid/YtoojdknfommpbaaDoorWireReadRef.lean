/- The walks of draymanref03.Reader's methods. -/
import Derived.Test.YtoojdknfommpbaaDoorWireRead2
namespace Go.Proofs.YtoojdknfommpbaaDoor
open Go.RowKit
set_option maxRecDepth 10000

def qdCells (r : Option (List UInt8)) : Array Value := match r with
  | some l => #[.string (mkS l), .bool false]
  | none => #[.string ⟨#[]⟩, .bool true]
def QdAt (W : World) (b : Nat) (r : Option (List UInt8)) : Prop := W.heap[b]? = some (.cells (qdCells r) 102 (0, 0))
theorem QdAt.lt {W : World} {b : Nat} {r : Option (List UInt8)} (h : QdAt W b r) : b < W.heap.size := (Array.getElem?_eq_some_iff.1 h).1
theorem QdAt.below {W W' : World} {b : Nat} {r : Option (List UInt8)} (h : QdAt W b r) (hb : Below W.heap.size W W') : QdAt W' b r := RdAt.below.blk_keep' h hb
def QPost (b : Nat) (w : World) (v : Value) (r : Option (List UInt8)) (e : Ending) (w' : World) : Prop := e = .returned v ∧ QdAt w' b r ∧ Tou (One1 b) w w'
theorem after2' {W : World} {b : Nat} {x y : Value} {T : TypeId} (h : W.heap[b]? = some (.cells #[x, y] T (0, 0))) (x' y' : Value) :
    ((W.setCell ⟨b, 1, none⟩ y').setCell ⟨b, 0, none⟩ x').heap[b]? = some (.cells #[x', y'] T (0, 0)) := by
  have h1 := Lib.heap_setCell_same (i := 1) h y'
  have h2 := Lib.heap_setCell_same (i := 0) h1 x'
  rw [h2]; rfl
theorem qdAt_cells {W : World} {b : Nat} {r : Option (List UInt8)} (h : QdAt W b r) : ∃ S g, (S = mkS (r.getD [])) ∧ g = r.isNone ∧ W.heap[b]? = some (.cells #[.string S, .bool g] 102 (0, 0)) := by
  rcases r with _ | l
  · exact ⟨_, _, rfl, rfl, h⟩
  · exact ⟨_, _, rfl, rfl, h⟩
theorem fails_any (b : Nat) (r : Option (List UInt8)) (w : World) (h : QdAt w b r) :
    Calls Tryd.prog 110 #[.pointer (some ⟨b, 0, none⟩)] w fun e w' => e = .returned (.tuple #[]) ∧ QdAt w' b none ∧ Tou (One1 b) w w' := by
  obtain ⟨S, g, _, _, h'⟩ := qdAt_cells h
  obtain ⟨⟨c0, c1⟩, f0, f1⟩ := cells2 h'
  have H := Lib.hid (after2' h' (.string ⟨#[]⟩) (.bool true))
  clear h h'
  go_enter Tryd.func110, Tryd.ntmps110
  go_wp2
  go_end0
  exact ⟨rfl, H.out, tou_one _ _ _ _ _ _⟩
theorem qDone_any (b : Nat) (r : Option (List UInt8)) (w : World) (h : QdAt w b r) :
    Calls Tryd.prog 80 #[.pointer (some ⟨b, 0, none⟩)] w fun e w' => e = .returned (.bool (decide (r = some []))) ∧ w = w' := by
  rcases r with _ | l
  · obtain ⟨⟨c0, c1⟩, _⟩ := cells2 (show w.heap[b]? = some (.cells #[.string ⟨#[]⟩, .bool true] 102 (0, 0)) from h)
    clear h
    go_enter Tryd.func80, Tryd.ntmps80
    go_wp2
    go_ret
    exact ⟨by simp, rfl⟩
  · obtain ⟨⟨c0, c1⟩, _⟩ := cells2 (show w.heap[b]? = some (.cells #[.string (mkS l), .bool false] 102 (0, 0)) from h)
    clear h
    have hz := mkS_size l
    rcases l with _ | ⟨x, l⟩
    · have hzI : ((mkS []).size : Int) = 0 := rfl
      clear hz
      generalize mkS [] = S at *
      go_enter Tryd.func80, Tryd.ntmps80
      go_wp2
      go_ret
      exact ⟨by simp, rfl⟩
    · have hzB : (((mkS (x :: l)).size : Int) == 0) = false := by rw [hz]; simp; omega
      have HD : Hid (decide (some (x :: l) = some ([] : List UInt8)) = false) := Lib.hid (by simp)
      rw [HD.out]
      clear hz
      generalize mkS (x :: l) = S at *
      go_enter Tryd.func80, Tryd.ntmps80
      go_wp2
      go_ret
      exact ⟨rfl, rfl⟩
set_option maxHeartbeats 1000000 in
/-- What stands there is no number: the reader is bad from now on. -/
theorem qInt_bad (b : Nat) (r : Option (List UInt8)) (high : Int) (w : World) (h : QdAt w b r) (hb : ∀ l, r = some l → numBad l) :
    Calls Tryd.prog 77 #[.pointer (some ⟨b, 0, none⟩), .int .i64 0, .int .i64 high] w (QPost b w (.int .i64 0) none) := by
  have HF : Hid (∀ W, QdAt W b r → Calls Tryd.prog 110 #[.pointer (some ⟨b, 0, none⟩)] W fun e w' => e = .returned (.tuple #[]) ∧ QdAt w' b none ∧ Tou (One1 b) W w') := Lib.hid fun W h => fails_any b r W h
  have H0 : Hid (∀ k, QdAt (w.drewN k) b r) := Lib.hid fun k => h.below (below_drewN (Below.refl _ _) k)
  have HT : Hid (∀ k W', Tou (One1 b) (w.drewN k) W' → Tou (One1 b) w W') := Lib.hid fun k W' h => ((Tou.refl (One1 b) w).drew k).trans h
  rcases r with _ | l
  · obtain ⟨⟨c0, c1⟩, _⟩ := cells2 (show w.heap[b]? = some (.cells #[.string ⟨#[]⟩, .bool true] 102 (0, 0)) from h)
    clear h hb
    go_enter Tryd.func77, Tryd.ntmps77
    go_wp2
    go_quiet (fail)
    go_wp2_with (go_at_call 110; (with_reducible refine (HF.out _ (H0.out _)).mono ?_); rintro e w1 ⟨rfl, h1, t1⟩)
    go_ret
    exact ⟨rfl, h1, HT.out _ _ t1⟩
  · obtain ⟨⟨c0, c1⟩, _⟩ := cells2 (show w.heap[b]? = some (.cells #[.string (mkS l), .bool false] 102 (0, 0)) from h)
    have hb2 := hb l rfl
    have hz := mkS_size l
    clear h hb
    unfold numBad cnt0 at hb2
    by_cases h0 : l.length = 0
    · have hzI : ((mkS l).size : Int) = 0 := by omega
      clear hb2 hz h0
      generalize mkS l = S at *
      go_enter Tryd.func77, Tryd.ntmps77
      go_wp2
      go_quiet (fail)
      go_wp2_with (go_at_call 110; (with_reducible refine (HF.out _ (H0.out _)).mono ?_); rintro e w1 ⟨rfl, h1, t1⟩)
      go_ret
      exact ⟨rfl, h1, HT.out _ _ t1⟩
    · have hp : 0 < (mkS l).size := by omega
      have hzB : (((mkS l).size : Int) == 0) = false := by rw [hz]; simp; exact List.ne_nil_of_length_pos (by omega)
      have e0 := head_byte hp
      have H1 : Hid (∀ h : 1 < (mkS l).size, ((mkS l)[1]'h).toNat = (l.getD 1 0).toNat) := Lib.hid fun h => head_byte h
      obtain ⟨c, hc⟩ : ∃ c, (l.getD 0 0).toNat = c := ⟨_, rfl⟩
      rw [hc] at e0 hb2
      have hc256 : (c : Int) < 256 := by rw [← hc]; have := UInt8.toNat_lt (l.getD 0 0); omega
      by_cases h8 : 8 < c
      · have h8I : decide (8 < (c : Int)) = true := decide_eq_true (by omega)
        clear hb2 hc h8 h0 hz
        generalize mkS l = S at *
        go_enter Tryd.func77, Tryd.ntmps77
        go_wp2
        go_quiet (fail)
        go_wp2_with (go_at_call 110; (with_reducible refine (HF.out _ (H0.out _)).mono ?_); rintro e w1 ⟨rfl, h1, t1⟩)
        go_ret
        exact ⟨rfl, h1, HT.out _ _ t1⟩
      · have h8I : decide (8 < (c : Int)) = false := decide_eq_false (by omega)
        by_cases hlc : l.length ≤ c
        · have hlI : decide (((mkS l).size : Int) < 1 + (c : Int)) = true := decide_eq_true (by omega)
          clear hb2 hc h8 h0 hz hlc
          generalize mkS l = S at *
          go_enter Tryd.func77, Tryd.ntmps77
          go_wp2
          go_quiet (fail)
          go_wp2_with (go_at_call 110; (with_reducible refine (HF.out _ (H0.out _)).mono ?_); rintro e w1 ⟨rfl, h1, t1⟩)
          go_ret
          exact ⟨rfl, h1, HT.out _ _ t1⟩
        · have hlI : decide (((mkS l).size : Int) < 1 + (c : Int)) = false := decide_eq_false (by omega)
          have hb3 : 0 < c ∧ l.getD 1 0 = 0 := by
            rcases hb2 with h | h | h | h
            · omega
            · omega
            · omega
            · exact h
          have hcI : decide (0 < c) = true := decide_eq_true hb3.1
          have hcP : 0 < (c : Int) := by omega
          have hp1 : 1 < (mkS l).size := by omega
          have e1 := H1.out hp1
          rw [hb3.2] at e1
          have e1' : ((mkS l)[1]'hp1).toNat = 0 := e1
          clear hb2 hc hb3 e1 h8 h0 hz hlc
          generalize mkS l = S at *
          go_enter Tryd.func77, Tryd.ntmps77
          go_wp2
          go_quiet (fail)
          go_wp2_with (go_at_call 110; (with_reducible refine (HF.out _ (H0.out _)).mono ?_); rintro e w1 ⟨rfl, h1, t1⟩)
          go_ret
          exact ⟨rfl, h1, HT.out _ _ t1⟩
theorem rdT_mid {l : List UInt8} {j : Nat} (h : j < l.length) (h1 : 1 ≤ j) : rdT ((l.take (j + 1)).drop 1) = rdT ((l.take j).drop 1) * 256 + (l.getD j 0).toNat := by
  rw [List.take_succ_eq_append_getElem h, List.drop_append_of_le_length (by rw [List.length_take]; omega), rdT_snoc, List.getD_eq_getElem?_getD, List.getElem?_eq_getElem h]; rfl
set_option maxHeartbeats 1000000 in
theorem qInt_good (b : Nat) (l : List UInt8) (high : Nat) (w : World) (h : QdAt w b (some l)) (hl : l.length ≤ 1000) (hh : high ≤ 1099511627776) (hb : ¬ numBad l) :
    Calls Tryd.prog 77 #[.pointer (some ⟨b, 0, none⟩), .int .i64 0, .int .i64 (high : Int)] w (QPost b w (.int .i64 ((rdInt (some l) high).1 : Int)) (rdInt (some l) high).2) := by
  have HF : Hid (∀ W, QdAt W b (some l) → Calls Tryd.prog 110 #[.pointer (some ⟨b, 0, none⟩)] W fun e w' => e = .returned (.tuple #[]) ∧ QdAt w' b none ∧ Tou (One1 b) W w') := Lib.hid fun W h => fails_any b _ W h
  have H0 : Hid (∀ k, QdAt (w.drewN k) b (some l)) := Lib.hid fun k => h.below (below_drewN (Below.refl _ _) k)
  have HT : Hid (∀ k W', Tou (One1 b) (w.drewN k) W' → Tou (One1 b) w W') := Lib.hid fun k W' h => ((Tou.refl (One1 b) w).drew k).trans h
  have HC : Hid (∀ W, QdAt W b (some l) → (W.cell? ⟨b, 0, none⟩ = some (.string (mkS l)) ∧ W.cell? ⟨b, 1, none⟩ = some (.bool false)) ∧ W.frozen? ⟨b, 0, none⟩ = false ∧ W.frozen? ⟨b, 1, none⟩ = false) := Lib.hid fun W h => cells2 (show W.heap[b]? = some (.cells #[.string (mkS l), .bool false] 102 (0, 0)) from h)
  have HSt : Hid (∀ k, QdAt ((w.drewN k).setCell ⟨b, 0, none⟩ (.string (mkS (l.drop (1 + cnt0 l))))) b (some (l.drop (1 + cnt0 l)))) := Lib.hid fun k => after2_0 (show (w.drewN k).heap[b]? = some (.cells #[.string (mkS l), .bool false] 102 (0, 0)) from h) _
  have HRes : Hid (rdInt (some l) high = if numP l % 2 = 1 ∨ high < numP l / 2 then (0, none) else (numP l / 2, some (l.drop (1 + cnt0 l)))) := Lib.hid (by
    unfold rdInt; simp only
    by_cases h9 : numP l % 2 = 1 ∨ high < numP l / 2
    · rw [if_pos h9, if_pos (.inr h9)]
    · rw [if_neg h9, if_neg (by simp only [not_or] at h9 ⊢; exact ⟨hb, h9⟩)])
  have hhI : (high : Int) ≤ 1099511627776 := by omega
  obtain ⟨⟨c0, c1⟩, f0, f1⟩ := HC.out w h
  have hz := mkS_size l
  unfold numBad at hb
  simp only [not_or, not_and] at hb
  obtain ⟨h0, h8, hlc, h1⟩ := hb
  have hp : 0 < (mkS l).size := by omega
  have hzB : (((mkS l).size : Int) == 0) = false := by rw [hz]; simp; exact List.ne_nil_of_length_pos (by omega)
  have e0 := head_byte hp
  have H1 : Hid (∀ j, ∀ h : j < (mkS l).size, ((mkS l)[j]'h).toNat = (l.getD j 0).toNat) := Lib.hid fun j h => head_byte h
  obtain ⟨c, hc⟩ : ∃ c, cnt0 l = c := ⟨_, rfl⟩
  have hc' : (l.getD 0 0).toNat = c := hc
  rw [hc'] at e0
  rw [hc] at h8 hlc h1 HRes HSt
  have h8I : decide (8 < (c : Int)) = false := decide_eq_false (by omega)
  have hlI : decide (((mkS l).size : Int) < 1 + (c : Int)) = false := decide_eq_false (by omega)
  have hzI : ((mkS l).size : Int) ≤ 1000 := by omega
  have hc8 : (c : Int) ≤ 8 := by omega
  have HP : Hid (numP l = rdT ((l.take (1 + c)).drop 1)) := Lib.hid (by unfold numP; rw [hc])
  have HLt : Hid (rdT ((l.take (1 + c)).drop 1) < 18446744073709551616) := Lib.hid (rdT_lt8 _ (by simp; omega))
  have hsl : ∀ W : World, (Instr.slice 9 (.string (mkS l)) (some (.int .i64 (1 + (c : Int)))) none none).run Tryd.prog W = .ok (.string (mkS (l.drop (1 + c)))) W := fun W => by
    rw [run_slice_string_l W 9 (mkS l) Tryd.underlying9 .i64 (1 + (c : Int)) (by omega) (by omega), mkS_extract, hz, List.take_length]
    rw [show (1 + (c : Int)).toNat = 1 + c by omega]
  have HLc : Hid (c < l.length) := Lib.hid (by omega)
  have h1f : (0 < c) → Hid (∃ h : 1 < (mkS l).size, ((mkS l)[1]'h).toNat ≠ 0) := fun hcI => Lib.hid ⟨by omega, fun e => h1 (by omega) (UInt8.toNat_inj.1 (by rw [H1.out 1 (by omega)] at e; rw [e]; rfl))⟩
  have hdec : (c = 0) ∨ (decide (0 < c) = true ∧ 0 < (c : Int) ∧ ∃ d : Nat, ∃ h : 1 < (mkS l).size, ((mkS l)[1]'h).toNat = d ∧ ((d : Int) == 0) = false) := by
    rcases Nat.eq_zero_or_pos c with hc0 | hc0
    · exact .inl hc0
    · obtain ⟨hp1, hne⟩ := (h1f hc0).out
      exact .inr ⟨decide_eq_true hc0, by omega, _, hp1, rfl, by simpa using hne⟩
  have HZ := Lib.hid hz
  clear h h0 h8 hlc h1 hc hc' h1f hz hh
  rcases hdec with rfl | ⟨hd1, hd0, d, hp1, hd2, hd3⟩
  · have hsl0 : ∀ W : World, (Instr.slice 9 (.string (mkS l)) (some (.int .i64 1)) none none).run Tryd.prog W = .ok (.string (mkS (l.drop (1 + 0)))) W := hsl
    have hlI0 : decide (((mkS l).size : Int) < 1) = false := hlI
    clear hsl hlI h8I hc8
    generalize mkS (l.drop (1 + 0)) = SD at *
    generalize mkS l = S at *
    go_enter Tryd.func77, Tryd.ntmps77
    go_wp2
    go_quiet (fail)
    go_wp2
    go_loop [8, 9] (fun t i => i = .int .i64 1 ∧ t = .int .u64 0) (fun _ _ => 0)
    case atStart => exact ⟨rfl, rfl⟩
    case round =>
      obtain ⟨rfl, rfl⟩ := hrel
      have HR : Hid (rdInt (some l) high = (0, some (l.drop (1 + 0)))) := Lib.hid (by
        have hN0 : numP l = 0 := by rw [HP.out]; rw [List.drop_of_length_le (by simp; omega)]; rfl
        rw [HRes.out, hN0, if_neg (by omega)])
      go_wp2
      go_ret
      rw [HR.out]
      exact ⟨rfl, HSt.out _, HT.out _ _ (tou_one1 _ _ _ _)⟩
  · generalize mkS (l.drop (1 + c)) = SD at *
    generalize mkS l = S at *
    go_enter Tryd.func77, Tryd.ntmps77
    go_wp2
    go_quiet (fail)
    go_wp2
    go_loop [8, 9] (fun t i => ∃ k : Nat, 1 ≤ k ∧ k ≤ 1 + c ∧ i = .int .i64 k ∧ ∃ n : Nat, Hid (n = rdT ((l.take k).drop 1)) ∧ t = .int .u64 n) (fun _ i => 1 + c - (intOf i).toNat)
    case atStart => exact ⟨1, by omega, by omega, rfl, 0, Lib.hid (by rw [List.drop_of_length_le (by simp; omega)]; rfl), rfl⟩
    case round =>
      obtain ⟨k, hk1, hk, rfl, n, HN, rfl⟩ := hrel
      by_cases hlt : k < 1 + c
      · have hkS : k < S.size := by have := HZ.out; have := HLc.out; omega
        have HT2 := Lib.hid (rdT_mid (l := l) (j := k) (by have := HLc.out; omega) hk1)
        have hn : (n : Int) < 72057594037927936 := by
          have h9 := rdT_lt7 ((l.take k).drop 1) (by simp; omega)
          rw [← HN.out] at h9; omega
        have hb0 := H1.out k hkS
        have hb1 : (S[k].toNat : Int) < 256 := by have := S[k].toNat_lt; omega
        obtain ⟨bb, hb⟩ : ∃ b, S[k].toNat = b := ⟨_, rfl⟩
        rw [hb] at hb0 hb1
        have HB0 := Lib.hid hb0
        have hltI : (k : Int) < 1 + (c : Int) := by omega
        clear hb0
        go_wp2
        go_round
        case measure => simp [intOf]; omega
        case rel => exact ⟨k + 1, by omega, by omega, by go_num, n * 256 + bb, Lib.hid (by rw [HT2.out, HN.out, HB0.out]), by go_num⟩
      · obtain rfl : k = 1 + c := by omega
        have hltI : 1 + (c : Int) ≤ ((1 + c : Nat) : Int) := by omega
        have HN2 : Hid (n = rdT ((l.take (1 + c)).drop 1)) := HN
        have hNlt : (n : Int) < 18446744073709551616 := by have := HLt.out; rw [← HN2.out] at this; omega
        by_cases hodd : n % 2 = 1
        · have ho : (n : Int) % 2 = 1 := by omega
          have hn2 : -((n : Int) / 2) - 1 < 0 := by omega
          have HR : Hid (rdInt (some l) high = (0, none)) := Lib.hid (by rw [HRes.out, if_pos (.inl (by rw [HP.out, ← HN2.out]; exact hodd))])
          clear hodd
          go_wp2_with (go_at_call 110; (with_reducible refine (HF.out _ (H0.out _)).mono ?_); rintro e w1 ⟨rfl, h1, t1⟩)
          go_ret
          rw [HR.out]
          exact ⟨rfl, h1, HT.out _ _ t1⟩
        · have ho : ((n : Int) % 2 == 1) = false := by simp; omega
          obtain ⟨m, hm⟩ : ∃ m, n / 2 = m := ⟨_, rfl⟩
          have hq : (n : Int) / 2 = (m : Int) := by omega
          have HMm := Lib.hid hm
          by_cases hhi : high < n / 2
          · have hn2 : (high : Int) < (m : Int) := by omega
            have HR : Hid (rdInt (some l) high = (0, none)) := Lib.hid (by rw [HRes.out, if_pos (.inr (by rw [HP.out, ← HN2.out]; exact hhi))])
            clear hodd hhi hm
            go_wp2_with (go_at_call 110; (with_reducible refine (HF.out _ (H0.out _)).mono ?_); rintro e w1 ⟨rfl, h1, t1⟩)
            go_ret
            rw [HR.out]
            exact ⟨rfl, h1, HT.out _ _ t1⟩
          · have hnD : decide (high < m) = false := decide_eq_false (by omega)
            have hnD2 : ¬ high < m := by omega
            have hmD : decide ((m : Int) < 0) = false := decide_eq_false (by omega)
            have HR : Hid (rdInt (some l) high = (n / 2, some (l.drop (1 + c)))) := Lib.hid (by rw [HRes.out, if_neg (by simp only [not_or]; exact ⟨by rw [HP.out, ← HN2.out]; exact hodd, by rw [HP.out, ← HN2.out]; exact hhi⟩), HP.out, ← HN2.out])
            clear hodd hhi hm
            go_wp2
            go_ret
            rw [HR.out]
            exact ⟨ret_int (by rw [HMm.out]), HSt.out _, HT.out _ _ (tou_one1 _ _ _ _)⟩
theorem qInt_any (b : Nat) (r : Option (List UInt8)) (high : Nat) (w : World) (h : QdAt w b r) (hr : ∀ l, r = some l → l.length ≤ 1000) (hh : high ≤ 1099511627776) :
    Calls Tryd.prog 77 #[.pointer (some ⟨b, 0, none⟩), .int .i64 0, .int .i64 (high : Int)] w (QPost b w (.int .i64 ((rdInt r high).1 : Int)) (rdInt r high).2) := by
  rcases r with _ | l
  · exact qInt_bad b none high w h (fun l h => by cases h)
  · by_cases hb : numBad l
    · have hres : rdInt (some l) high = (0, none) := by unfold rdInt; simp only; rw [if_pos (.inl hb)]
      rw [hres]; exact qInt_bad b (some l) high w h (fun m hm => by cases hm; exact hb)
    · exact qInt_good b l high w h (hr l rfl) hh hb
end Go.Proofs.YtoojdknfommpbaaDoor
