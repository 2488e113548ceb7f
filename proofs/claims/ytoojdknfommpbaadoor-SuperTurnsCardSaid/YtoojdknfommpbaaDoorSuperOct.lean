/- The walks of the octets of numbers and texts: super.octets, wire.Text, draymanref07.octets and numbers, draymanref03.Ints and Text. -/
import Derived.Test.YtoojdknfommpbaaDoorInts
import Derived.Test.YtoojdknfommpbaaDoorWireInt
namespace Go.Proofs.YtoojdknfommpbaaDoor
open Go.RowKit
set_option maxRecDepth 10000

theorem head_byte' {l : List UInt8} {k : Nat} (h : k < (mkS l).size) : ((mkS l)[k]'h).toNat = (l.getD k 0).toNat := by
  have h2 : k < l.length := by rw [← mkS_size l]; exact h
  rw [List.getD_eq_getElem?_getD, List.getElem?_eq_getElem h2]
  show (l.toArray[k]).toNat = _
  simp
theorem text_any (b : List UInt8) (w : World) (hb : b.length ≤ 1000) :
    Calls Tryd.prog 68 #[.string (mkS b)] w fun e w' => e = .returned (.string (mkS (textB b))) ∧ Below w.heap.size w w' := by
  have hz : ((mkS b).size : Int) = (b.length : Int) := by rw [mkS_size]
  have HI : Hid (∀ W, Calls Tryd.prog 105 #[.int .i64 (b.length : Int)] W fun e w' => e = .returned (.string (mkS (intB b.length))) ∧ Below W.heap.size W w') := Lib.hid fun W => int_any b.length W (by omega)
  have hl := intB_length b.length 6 (by have : (256 : Nat) ^ 6 = 281474976710656 := by decide
                                        omega)
  have had := fun P W => add_at (show mkS (intB b.length) ++ mkS b = mkS (textB b) by rw [mkS_append]; rfl) (by rw [mkS_size]; unfold textB; rw [List.length_append]; omega) P W
  obtain ⟨C, hC⟩ : ∃ C, mkS (textB b) = C := ⟨_, rfl⟩
  rw [hC] at had ⊢
  clear hC hl
  generalize mkS (intB b.length) = A at *
  generalize mkS b = S at *
  have HI2 : Hid (∀ W, Calls Tryd.prog 105 #[.int .i64 (S.size : Int)] W fun e w' => e = .returned (.string A) ∧ Below W.heap.size W w') := by rw [hz]; exact HI
  clear HI hz
  go_enter Tryd.func68, Tryd.ntmps68
  go_wp2_with (go_at_call 105; (with_reducible refine (HI2.out _).mono ?_); rintro e w1 ⟨rfl, hb1⟩)
  go_ret
  exact ⟨rfl, hb1⟩
theorem textRef_any (b : List UInt8) (w : World) (hb : b.length ≤ 1000) :
    Calls Tryd.prog 71 #[.string (mkS b)] w fun e w' => e = .returned (.string (mkS (textB b))) ∧ Below w.heap.size w w' := by
  have hz : ((mkS b).size : Int) = (b.length : Int) := by rw [mkS_size]
  have HI : Hid (∀ W, Calls Tryd.prog 107 #[.int .i64 (b.length : Int)] W fun e w' => e = .returned (.string (mkS (intB b.length))) ∧ Below W.heap.size W w') := Lib.hid fun W => intRef_any b.length W (by omega)
  have hl := intB_length b.length 6 (by have : (256 : Nat) ^ 6 = 281474976710656 := by decide
                                        omega)
  have had := fun P W => add_at (show mkS (intB b.length) ++ mkS b = mkS (textB b) by rw [mkS_append]; rfl) (by rw [mkS_size]; unfold textB; rw [List.length_append]; omega) P W
  obtain ⟨C, hC⟩ : ∃ C, mkS (textB b) = C := ⟨_, rfl⟩
  rw [hC] at had ⊢
  clear hC hl
  generalize mkS (intB b.length) = A at *
  generalize mkS b = S at *
  have HI2 : Hid (∀ W, Calls Tryd.prog 107 #[.int .i64 (S.size : Int)] W fun e w' => e = .returned (.string A) ∧ Below W.heap.size W w') := by rw [hz]; exact HI
  clear HI hz
  go_enter Tryd.func71, Tryd.ntmps71
  go_wp2_with (go_at_call 107; (with_reducible refine (HI2.out _).mono ?_); rintro e w1 ⟨rfl, hb1⟩)
  go_ret
  exact ⟨rfl, hb1⟩
/-- Some numbers as octets. -/
def intsB (l : List Int) : List UInt8 := (l.map fun n => intB n.toNat).flatten
theorem intsB_snoc (l : List Int) (k : Nat) (h : k < l.length) : intsB (l.take (k + 1)) = intsB (l.take k) ++ intB l[k].toNat := by
  unfold intsB; rw [take_snoc' l k h, List.map_append, List.flatten_append]; simp
theorem intsB_length (l : List Int) (hf : ∀ x ∈ l, 0 ≤ x ∧ x ≤ 1099511627776) : (intsB l).length ≤ 7 * l.length := by
  induction l with
  | nil => simp [intsB]
  | cons x l ih =>
    have h1 := ih fun y hy => hf y (List.mem_cons_of_mem _ hy)
    have h2 := hf x (by simp)
    have h3 := intB_length x.toNat 6 (by have : (256 : Nat) ^ 6 = 281474976710656 := by decide
                                         omega)
    unfold intsB at *
    rw [List.map_cons, List.flatten_cons, List.length_append, List.length_cons]; omega
theorem intsRef_any (v : Value) (l : List Int) (w : World) (hs : Sl (Value.int .i64) w v l) (hl : l.length ≤ 63) (hf : ∀ x ∈ l, 0 ≤ x ∧ x ≤ 1099511627776) :
    Calls Tryd.prog 70 #[v] w fun e w' => e = .returned (.string (mkS (intsB l))) ∧ Below w.heap.size w w' := by
  obtain ⟨A, c, rfl, _, hread⟩ := hs
  have HR := Lib.hid hread; clear hread
  have HF := Lib.hid hf; clear hf
  have hlI : (l.length : Int) ≤ 63 := by omega
  have HI : Hid (∀ n : Nat, n ≤ 1099511627776 → ∀ W, Calls Tryd.prog 107 #[.int .i64 (n : Int)] W fun e w' => e = .returned (.string (mkS (intB n))) ∧ Below W.heap.size W w') := Lib.hid fun n hn W => intRef_any n W hn
  go_enter Tryd.func70, Tryd.ntmps70
  go_wp2
  go_loopw [3, 4] (fun s i W => ∃ k : Nat, k ≤ l.length ∧ i = .int .i64 k ∧ s = .string (mkS (intsB (l.take k))) ∧ Hid (Below w.heap.size w W)) (fun _ i _ => l.length - (intOf i).toNat)
  case atStart => exact ⟨0, by omega, rfl, rfl, Lib.hid (Below.refl _ _)⟩
  case round =>
    obtain ⟨k, hk, rfl, rfl, HB⟩ := hrel
    by_cases hlt : k < l.length
    · obtain ⟨a, rfl, q0⟩ := HR.out k hlt
      have q := cell_below HB.out q0
      clear q0
      have hT := intsB_snoc l k hlt
      obtain ⟨f0, f1⟩ := HF.out l[k] (List.getElem_mem hlt)
      obtain ⟨n, hn⟩ : ∃ n : Nat, l[k] = n := ⟨l[k].toNat, by omega⟩
      rw [hn] at q hT f1
      simp only [Int.toNat_natCast] at hT
      have C1 := Lib.hid (HI.out n (by omega))
      have h7 := intsB_length (l.take (k + 1)) (fun x hx => HF.out x (List.mem_of_mem_take hx))
      have had := fun P W => add_at (show mkS (intsB (l.take k)) ++ mkS (intB n) = mkS (intsB (l.take (k + 1))) by rw [mkS_append, hT]) (by rw [mkS_size]; simp at h7; omega) P W
      obtain ⟨F, hF⟩ : ∃ F, mkS (intsB (l.take (k + 1))) = F := ⟨_, rfl⟩
      have HF' := Lib.hid hF
      rw [hF] at had
      clear hT h7 hF hn f0 f1
      generalize mkS (intsB (l.take k)) = G at *
      generalize mkS (intB n) = E at *
      go_wp2_with (go_at_call 107; (with_reducible refine (C1.out _).mono ?_); rintro e w1 ⟨rfl, hb1⟩)
      go_roundw
      case measure => simp [intOf]; omega
      case rel => exact ⟨k + 1, by omega, by go_num, by rw [HF'.out], Lib.hid (below_next HB.out hb1)⟩
    · obtain rfl : k = l.length := by omega
      go_wp2
      go_ret
      exact ⟨by rw [List.take_length]; rfl, HB.out⟩
theorem octs_snoc (l : List Int) (k : Nat) (h : k < l.length) : octs (l.take (k + 1)) = octs (l.take k) ++ [UInt8.ofNat (l[k] % 256).toNat] := by
  unfold octs; rw [take_snoc' l k h, List.map_append]; rfl
theorem octRef_any (v : Value) (l : List Int) (w : World) (hs : Sl (Value.int .i64) w v l) (hl : l.length ≤ 63) (hf : ∀ x ∈ l, 0 ≤ x ∧ x < 63) :
    Calls Tryd.prog 72 #[v] w fun e w' => e = .returned (.string (mkS (octs l))) ∧ Below w.heap.size w w' := by
  obtain ⟨A, c, rfl, _, hread⟩ := hs
  have HR := Lib.hid hread; clear hread
  have HF := Lib.hid hf; clear hf
  have hlI : (l.length : Int) ≤ 63 := by omega
  go_enter Tryd.func72, Tryd.ntmps72
  go_wp2
  go_loopw [3, 4] (fun s i W => ∃ k : Nat, k ≤ l.length ∧ i = .int .i64 k ∧ s = .string (mkS (octs (l.take k))) ∧ Hid (Below w.heap.size w W)) (fun _ i _ => l.length - (intOf i).toNat)
  case atStart => exact ⟨0, by omega, rfl, rfl, Lib.hid (Below.refl _ _)⟩
  case round =>
    obtain ⟨k, hk, rfl, rfl, HB⟩ := hrel
    by_cases hlt : k < l.length
    · obtain ⟨a, rfl, q0⟩ := HR.out k hlt
      have q := cell_below HB.out q0
      clear q0
      have hT := octs_snoc l k hlt
      obtain ⟨f0, f1⟩ := HF.out l[k] (List.getElem_mem hlt)
      obtain ⟨n, hn⟩ : ∃ n : Nat, l[k] = n := ⟨l[k].toNat, by omega⟩
      rw [hn] at q hT f1
      have hnI : (n : Int) < 63 := f1
      obtain ⟨bb, hbb⟩ : ∃ bb : UInt8, UInt8.ofNat ((n : Int) % 256).toNat = bb := ⟨_, rfl⟩
      have hbv : (n : Int) = (bb.toNat : Int) := by rw [← hbb, UInt8.toNat_ofNat']; omega
      rw [hbb] at hT
      have hcv := conv1o wr bb (n : Int) hbv
      have had := fun P W => add_at (show mkS (octs (l.take k)) ++ mkS [bb] = mkS (octs (l.take (k + 1))) by rw [mkS_append, hT]) (by rw [mkS_size, octs_length, List.length_take]; omega) P W
      obtain ⟨F, hF⟩ : ∃ F, mkS (octs (l.take (k + 1))) = F := ⟨_, rfl⟩
      have HF' := Lib.hid hF
      rw [hF] at had
      clear hT hF hn f0 f1 hbb hbv
      generalize mkS (octs (l.take k)) = G at *
      generalize mkS [bb] = E at *
      go_wp2
      go_roundw
      case measure => simp [intOf]; omega
      case rel => exact ⟨k + 1, by omega, by go_num, by rw [HF'.out], Lib.hid (below_alloc HB.out _)⟩
    · obtain rfl : k = l.length := by omega
      go_wp2
      go_ret
      exact ⟨by rw [List.take_length]; rfl, HB.out⟩
theorem info_intS : (Tryd.prog.info? 3).map (fun i => (i.zero, i.size, i.bytes)) = some (some (.int .i64 0), 1, 8) := by kernel_rfl
theorem nums_snoc (l : List UInt8) (k : Nat) (h : k < l.length) : nums (l.take (k + 1)) = nums (l.take k) ++ [((l.getD k 0).toNat : Int)] := by
  unfold nums; rw [take_snoc' l k h, List.map_append, List.getD_eq_getElem?_getD, List.getElem?_eq_getElem h]; rfl
theorem numbers_any (b : List UInt8) (w : World) (hb : b.length ≤ 1000) :
    Calls Tryd.prog 78 #[.string (mkS b)] w fun e w' => ∃ v, e = .returned v ∧ Own (Value.int .i64) 3 w.heap.size w' v (nums b) ∧ Below w.heap.size w w' := by
  have hz : (mkS b).size = b.length := mkS_size b
  have HS : Hid (∀ k, ∀ h : k < (mkS b).size, ((mkS b)[k]'h).toNat = (b.getD k 0).toNat) := Lib.hid fun k h => head_byte' h
  generalize mkS b = S at *
  go_enter Tryd.func78, Tryd.ntmps78
  go_wp2
  go_loopw [3, 4] (fun v i W => ∃ k : Nat, k ≤ b.length ∧ i = .int .i64 k ∧ Hid (Own (Value.int .i64) 3 w.heap.size W v (nums (b.take k)) ∧ Below w.heap.size w W)) (fun _ i _ => b.length - (intOf i).toNat)
  case atStart => exact ⟨0, by omega, rfl, Lib.hid ⟨Own.nil _ _ _ _, Below.refl _ _⟩⟩
  case round =>
    obtain ⟨k, hk, rfl, HB⟩ := hrel
    by_cases hlt : k < b.length
    · have hkS : k < S.size := by omega
      have HT := Lib.hid (nums_snoc b k hlt)
      have e0 := HS.out k hkS
      obtain ⟨c, hc⟩ : ∃ c, (b.getD k 0).toNat = c := ⟨_, rfl⟩
      rw [hc] at e0 HT
      have hc256 : (c : Int) < 256 := by rw [← hc]; have := UInt8.toNat_lt (b.getD k 0); omega
      have hnl : (nums (b.take k)).length ≤ 1000 := by unfold nums; simp; omega
      clear hc
      go_wp2_with (at_builtin; refine append_one (Value.int .i64) w.heap.size rfl (.tmp 11) (.tmp 16) 37 3 (.int .i64 0) 8 rfl Tryd.underlying37 info_intS rfl (by decide) _ _ _ rfl rfl rfl HB.out.1 HB.out.2 HB.out.2.size (by omega) ?_; intro v1 w2 hown1 hbel1)
      go_roundw
      case measure => simp [intOf]; omega
      case rel => exact ⟨k + 1, by omega, by go_num, Lib.hid ⟨by rw [HT.out]; exact hown1, hbel1⟩⟩
    · obtain rfl : k = b.length := by omega
      go_wp2
      go_ret
      exact ⟨_, rfl, by have := HB.out.1; rw [List.take_length] at this; exact this, HB.out.2⟩
end Go.Proofs.YtoojdknfommpbaaDoor
