/- The walks of the readers of supers: draymanref03.Reader's Text, wire.New, super.reader's amount and segments. -/
import Derived.Test.YtoojdknfommpbaaDoorWireReadRef
import Derived.Test.YtoojdknfommpbaaDoorSuperOct
namespace Go.Proofs.YtoojdknfommpbaaDoor
open Go.RowKit
set_option maxRecDepth 10000

theorem rdInt_zero {r : Option (List UInt8)} {high : Nat} (h : (rdInt r high).2 = none) : (rdInt r high).1 = 0 := by
  rcases r with _ | s
  · rfl
  · unfold rdInt at *
    simp only at *
    split at h
    · rename_i hb; rw [if_pos hb]
    · simp at h
theorem qText_any (b : Nat) (r : Option (List UInt8)) (most : Nat) (w : World) (h : QdAt w b r) (hr : ∀ l, r = some l → l.length ≤ 1000) (hm : most ≤ 1000) :
    Calls Tryd.prog 79 #[.pointer (some ⟨b, 0, none⟩), .int .i64 (most : Int)] w (QPost b w (.string (mkS (rdText r most).1)) (rdText r most).2) := by
  have HI : Hid (Calls Tryd.prog 77 #[.pointer (some ⟨b, 0, none⟩), .int .i64 0, .int .i64 (most : Int)] w (QPost b w (.int .i64 ((rdInt r most).1 : Int)) (rdInt r most).2)) := Lib.hid (qInt_any b r most w h hr (by omega))
  have hlen := rdInt_len (high := most) hr
  have hz0 := rdInt_zero (r := r) (high := most)
  have hdef : rdText r most = match (rdInt r most).2 with
    | none => ([], none)
    | some s => if s.length < (rdInt r most).1 then ([], none) else (s.take (rdInt r most).1, some (s.drop (rdInt r most).1)) := rfl
  rw [hdef]
  clear hdef h hr
  generalize (rdInt r most).1 = n at *
  generalize (rdInt r most).2 = r1 at *
  unfold QPost at HI
  rcases r1 with _ | s
  · obtain rfl := hz0 rfl
    clear hlen hz0
    have HC : Hid (∀ W, QdAt W b none → (W.cell? ⟨b, 0, none⟩ = some (.string ⟨#[]⟩) ∧ W.cell? ⟨b, 1, none⟩ = some (.bool true)) ∧ W.frozen? ⟨b, 0, none⟩ = false ∧ W.frozen? ⟨b, 1, none⟩ = false) := Lib.hid fun W h => cells2 (show W.heap[b]? = some (.cells #[.string ⟨#[]⟩, .bool true] 102 (0, 0)) from h)
    have HS : Hid (∀ W, QdAt W b none → QdAt (W.setCell ⟨b, 0, none⟩ (.string ⟨#[]⟩)) b none) := Lib.hid fun W h => after2_0 (show W.heap[b]? = some (.cells #[.string ⟨#[]⟩, .bool true] 102 (0, 0)) from h) _
    have s1 : ∀ W : World, (Instr.slice 9 (.string ⟨#[]⟩) none (some (.int .i64 0)) none).run Tryd.prog W = .ok (.string ⟨#[]⟩) W := fun W => by
      rw [run_slice_string_h W 9 ⟨#[]⟩ Tryd.underlying9 .i64 0 (by omega) (by decide)]; rfl
    have s2 : ∀ W : World, (Instr.slice 9 (.string ⟨#[]⟩) (some (.int .i64 0)) none none).run Tryd.prog W = .ok (.string ⟨#[]⟩) W := fun W => by
      rw [run_slice_string_l W 9 ⟨#[]⟩ Tryd.underlying9 .i64 0 (by omega) (by decide)]; rfl
    have hzz : ((⟨#[]⟩ : ByteArray).size : Int) = 0 := rfl
    obtain ⟨Z, hZ⟩ : ∃ Z : ByteArray, ⟨#[]⟩ = Z := ⟨_, rfl⟩
    have HZ := Lib.hid hZ
    rw [hZ] at HC HS s1 s2 hzz
    clear hZ
    go_enter Tryd.func79, Tryd.ntmps79
    go_wp2_with (go_at_call 77; (with_reducible refine HI.out.mono ?_); rintro e w1 ⟨rfl, h1, t1⟩; have q1 := HC.out _ h1; obtain ⟨⟨c0, c1⟩, f0, f1⟩ := q1; have H1 := Lib.hid (And.intro h1 t1); clear h1 t1)
    go_ret
    exact ⟨by rw [← HZ.out]; rfl, HS.out _ H1.out.1, H1.out.2.then1 (tou_one1 _ _ _ _)⟩
  · have hsl := hlen s rfl
    have HFl : Hid (∀ W, QdAt W b (some s) → Calls Tryd.prog 110 #[.pointer (some ⟨b, 0, none⟩)] W fun e w' => e = .returned (.tuple #[]) ∧ QdAt w' b none ∧ Tou (One1 b) W w') := Lib.hid fun W h => fails_any b _ W h
    have HC : Hid (∀ W, QdAt W b (some s) → (W.cell? ⟨b, 0, none⟩ = some (.string (mkS s)) ∧ W.cell? ⟨b, 1, none⟩ = some (.bool false)) ∧ W.frozen? ⟨b, 0, none⟩ = false ∧ W.frozen? ⟨b, 1, none⟩ = false) := Lib.hid fun W h => cells2 (show W.heap[b]? = some (.cells #[.string (mkS s), .bool false] 102 (0, 0)) from h)
    have hz : (mkS s).size = s.length := mkS_size s
    have hzI : ((mkS s).size : Int) ≤ 1000 := by omega
    by_cases hlt : s.length < n
    · have hltD : ((mkS s).size : Int) < (n : Int) := by omega
      have hres : (if s.length < n then (([] : List UInt8), (none : Option (List UInt8))) else (s.take n, some (s.drop n))) = ([], none) := if_pos hlt
      simp only [hres]
      clear hlen hsl hz hlt hres hz0
      generalize mkS s = S at *
      go_enter Tryd.func79, Tryd.ntmps79
      go_wp2_with (first | (go_at_call 77; (with_reducible refine HI.out.mono ?_); rintro e w1 ⟨rfl, h1, t1⟩; have q1 := HC.out _ h1; obtain ⟨⟨c0, c1⟩, f0, f1⟩ := q1) | (go_at_call 110; (with_reducible refine (HFl.out _ h1).mono ?_); rintro e w3 ⟨rfl, h3, t3⟩))
      go_ret
      exact ⟨rfl, h3, t1.then1 t3⟩
    · have hltD : (n : Int) ≤ ((mkS s).size : Int) := by omega
      have hres : (if s.length < n then (([] : List UInt8), (none : Option (List UInt8))) else (s.take n, some (s.drop n))) = (s.take n, some (s.drop n)) := if_neg hlt
      simp only [hres]
      have s1 : ∀ W : World, (Instr.slice 9 (.string (mkS s)) none (some (.int .i64 (n : Int))) none).run Tryd.prog W = .ok (.string (mkS (s.take n))) W := fun W => by
        rw [run_slice_string_h W 9 (mkS s) Tryd.underlying9 .i64 (n : Int) (by omega) (by omega), mkS_extract]; simp
      have s2 : ∀ W : World, (Instr.slice 9 (.string (mkS s)) (some (.int .i64 (n : Int))) none none).run Tryd.prog W = .ok (.string (mkS (s.drop n))) W := fun W => by
        rw [run_slice_string_l W 9 (mkS s) Tryd.underlying9 .i64 (n : Int) (by omega) (by omega), mkS_extract, hz, List.take_length]; simp
      have HS : Hid (∀ W, QdAt W b (some s) → QdAt (W.setCell ⟨b, 0, none⟩ (.string (mkS (s.drop n)))) b (some (s.drop n))) := Lib.hid fun W h => after2_0 (show W.heap[b]? = some (.cells #[.string (mkS s), .bool false] 102 (0, 0)) from h) _
      clear hlen hsl hz hlt hres hz0
      generalize mkS s = S at *
      generalize mkS (s.drop n) = D at *
      go_enter Tryd.func79, Tryd.ntmps79
      go_wp2_with (go_at_call 77; (with_reducible refine HI.out.mono ?_); rintro e w1 ⟨rfl, h1, t1⟩; have q1 := HC.out _ h1; obtain ⟨⟨c0, c1⟩, f0, f1⟩ := q1; have H1 := Lib.hid (And.intro h1 t1); clear h1 t1)
      go_ret
      exact ⟨rfl, HS.out _ H1.out.1, H1.out.2.then1 (tou_one1 _ _ _ _)⟩
theorem rNew_any (l : List UInt8) (w : World) :
    Calls Tryd.prog 73 #[.string (mkS l)] w fun e w' => e = .returned (.pointer (some ⟨w.heap.size, 0, none⟩)) ∧ w.alloc (.cells #[.string (mkS l), .bool true] 138) = w' := by
  go_enter Tryd.func73, Tryd.ntmps73
  go_wp2
  go_ret
  exact ⟨rfl, rfl⟩
theorem rdAt_new (l : List UInt8) (w : World) : RdAt (w.alloc (.cells #[.string (mkS l), .bool true] 138)) w.heap.size (some l) := by
  show (w.heap.push _)[w.heap.size]? = _; simp [rdCells]
theorem amount_any (b : Nat) (r : Option (List UInt8)) (w : World) (h : RdAt w b r) (hr : ∀ l, r = some l → l.length ≤ 1000) :
    Calls Tryd.prog 74 #[.agg #[.pointer (some ⟨b, 0, none⟩)]] w (RPost b w (.int .i64 ((rdInt r 1099511627776).1 : Int)) (rdInt r 1099511627776).2) := by
  have HI : Hid (∀ o, Calls Tryd.prog 108 #[.pointer (some ⟨b, 0, none⟩), .int .i64 0, .int .i64 1099511627776] (w.alloc o) fun e w' => e = .returned (.int .i64 ((rdInt r 1099511627776).1 : Int)) ∧ RdAt w' b (rdInt r 1099511627776).2 ∧ Tou (One1 b) w w') := Lib.hid fun o =>
    (rInt_any b r 1099511627776 (w.alloc o) (h.below (below_new w o)) hr (by omega)).mono fun e w' ⟨he, h1, h2⟩ => ⟨he, h1, (tou_of_below (below_new w o)).trans h2⟩
  generalize (rdInt r 1099511627776).1 = N at *
  generalize (rdInt r 1099511627776).2 = R at *
  clear h hr
  go_enter Tryd.func74, Tryd.ntmps74
  go_wp2_with (go_at_call 108; (with_reducible refine (HI.out _).mono ?_); rintro e w1 ⟨rfl, h1, t1⟩)
  go_ret
  exact ⟨rfl, h1, t1⟩
theorem tou_grow {b : Nat} {w w1 W : World} (h : Tou (One1 b) w w1) (k : Below w.heap.size w1 W) : Tou (One1 b) w W :=
  ⟨k.os.trans h.os, k.tape.trans h.tape, k.output.trans h.output, Nat.le_trans h.size k.size, fun i hi hF => (k.block i hi).trans (h.block i hi hF)⟩
theorem segments_any (b : Nat) (r : Option (List UInt8)) (w : World) (h : RdAt w b r) (hr : ∀ l, r = some l → l.length ≤ 1000) :
    Calls Tryd.prog 75 #[.agg #[.pointer (some ⟨b, 0, none⟩)]] w fun e w' => ∃ v, e = .returned v ∧ Own (Value.int .i64) 3 w.heap.size w' v (nums (rdText r 63).1) ∧ RdAt w' b (rdText r 63).2 ∧ Tou (One1 b) w w' := by
  have hl63 : (rdText r 63).1.length ≤ 63 := by
    rcases ht : rdText r 63 with ⟨bb, _ | t⟩
    · have : bb = [] := by
        unfold rdText at ht
        split at ht
        · exact (congrArg Prod.fst ht).symm
        · split at ht
          · exact (congrArg Prod.fst ht).symm
          · simp at ht
      rw [this]; simp
    · exact (rdText_some ht).2
  have HT : Hid (∀ o, Calls Tryd.prog 109 #[.pointer (some ⟨b, 0, none⟩), .int .i64 63] (w.alloc o) fun e w' => e = .returned (.string (mkS (rdText r 63).1)) ∧ RdAt w' b (rdText r 63).2 ∧ Tou (One1 b) w w') := Lib.hid fun o =>
    (rText_any b r 63 (w.alloc o) (h.below (below_new w o)) hr (by omega)).mono fun e w' ⟨he, h1, h2⟩ => ⟨he, h1, (tou_of_below (below_new w o)).trans h2⟩
  obtain ⟨m, hm⟩ : ∃ m, (rdText r 63).1 = m := ⟨_, rfl⟩
  rw [hm] at HT hl63 ⊢
  generalize (rdText r 63).2 = R at *
  have hz : (mkS m).size = m.length := mkS_size m
  have HS : Hid (∀ k, ∀ h : k < (mkS m).size, ((mkS m)[k]'h).toNat = (m.getD k 0).toNat) := Lib.hid fun k h => head_byte' h
  have HCv := Lib.hid fun W => bytes_of (mkS m) W
  clear h hr hm
  generalize mkS m = S at *
  have hlI : (m.length : Int) ≤ 63 := by omega
  have HZ := Lib.hid hz
  go_enter Tryd.func75, Tryd.ntmps75
  go_wp2_with (go_at_call 109; (with_reducible refine (HT.out _).mono ?_); rintro e w1 ⟨rfl, h1, t1⟩; have H1 := Lib.hid (And.intro h1 t1); clear h1 t1; obtain ⟨w2, c2, hcv, HC, HB2⟩ := HCv.out w1)
  clear hcv
  go_loopw [3, 11] (fun v i W => ∃ k : Nat, k ≤ m.length ∧ i = .int .i64 k ∧ Hid (Own (Value.int .i64) 3 w2.heap.size W v (nums (m.take k)) ∧ Below w2.heap.size w2 W)) (fun _ i _ => m.length - (intOf i).toNat)
  case atStart => exact ⟨0, by omega, rfl, Lib.hid ⟨Own.nil _ _ _ _, Below.refl _ _⟩⟩
  case round =>
    obtain ⟨k, hk, rfl, HB⟩ := hrel
    by_cases hlt2 : k < m.length
    · have hkS : k < S.size := by have := HZ.out; omega
      have HTn := Lib.hid (nums_snoc m k hlt2)
      have hcell := cell_below HB.out.2 (HC.out k hkS)
      have e0 := HS.out k hkS
      obtain ⟨c, hc⟩ : ∃ c, (m.getD k 0).toNat = c := ⟨_, rfl⟩
      rw [hc] at e0 HTn
      rw [e0] at hcell
      have hc256 : (c : Int) < 256 := by rw [← hc]; have := UInt8.toNat_lt (m.getD k 0); omega
      have hnl : (nums (m.take k)).length ≤ 1000 := by unfold nums; simp; omega
      have hkI : (k : Int) < (S.size : Int) := by omega
      clear hc e0
      go_wp2_with (at_builtin; refine append_one (Value.int .i64) w2.heap.size rfl (.tmp 15) (.tmp 18) 37 3 (.int .i64 0) 8 rfl Tryd.underlying37 info_intS rfl (by decide) _ _ _ rfl rfl rfl HB.out.1 HB.out.2 HB.out.2.size (by omega) ?_; intro v1 w5 hown1 hbel1)
      go_roundw
      case measure => simp [intOf]; omega
      case rel => exact ⟨k + 1, by omega, by go_num, Lib.hid ⟨by rw [HTn.out]; exact hown1, hbel1⟩⟩
    · obtain rfl : k = m.length := by omega
      have hkI : (S.size : Int) ≤ (m.length : Int) := by have := HZ.out; omega
      have HW : Hid (w.heap.size ≤ w1.heap.size ∧ w1.heap.size ≤ w2.heap.size) := Lib.hid ⟨H1.out.2.size, HB2.out.size⟩
      go_wp2
      go_ret
      have hb1 : Below w1.heap.size w1 wr := below_next HB2.out HB.out.2
      refine ⟨_, rfl, ?_, H1.out.1.below hb1, H1.out.2.bel1 hb1⟩
      have := HB.out.1
      rw [List.take_length] at this
      exact this.weaken (Nat.le_trans HW.out.1 HW.out.2)
end Go.Proofs.YtoojdknfommpbaaDoor
