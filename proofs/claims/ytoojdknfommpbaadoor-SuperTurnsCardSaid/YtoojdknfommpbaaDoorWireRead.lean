/- The walks of wire.Reader's methods. -/
import Derived.Test.YtoojdknfommpbaaDoorWireInt
import Derived.Test.YtoojdknfommpbaaDoorStampRest
import Derived.Test.YtoojdknfommpbaaDoorDiskHeap
import Derived.Laws.DeepNot64
namespace Go.Proofs.YtoojdknfommpbaaDoor
open Go.RowKit
set_option maxRecDepth 10000

/-! ### a reader in memory -/
def rdCells (r : Option (List UInt8)) : Array Value := match r with
  | some l => #[.string (mkS l), .bool true]
  | none => #[.string ⟨#[]⟩, .bool false]
def RdAt (W : World) (b : Nat) (r : Option (List UInt8)) : Prop := W.heap[b]? = some (.cells (rdCells r) 138 (0, 0))
def One1 (b : Nat) : Nat → Prop := fun k => k = b
/-- What a method does: a value, the reader's new state, nothing else that was there. -/
def RPost (b : Nat) (w : World) (v : Value) (r : Option (List UInt8)) (e : Ending) (w' : World) : Prop := e = .returned v ∧ RdAt w' b r ∧ Tou (One1 b) w w'
theorem RdAt.lt {W : World} {b : Nat} {r : Option (List UInt8)} (h : RdAt W b r) : b < W.heap.size := (Array.getElem?_eq_some_iff.1 h).1
theorem RdAt.below {W W' : World} {b : Nat} {r : Option (List UInt8)} (h : RdAt W b r) (hb : Below W.heap.size W W') : RdAt W' b r := blk_keep' h hb
where blk_keep' {W W' : World} {b : Nat} {o : Obj} (z : W.heap[b]? = some o) (h : Below W.heap.size W W') : W'.heap[b]? = some o := (h.block _ (Array.getElem?_eq_some_iff.1 z).1).trans z
theorem cells2 {W : World} {b : Nat} {x y : Value} {T : TypeId} (h : W.heap[b]? = some (.cells #[x, y] T (0, 0))) :
    (W.cell? ⟨b, 0, none⟩ = some x ∧ W.cell? ⟨b, 1, none⟩ = some y) ∧ W.frozen? ⟨b, 0, none⟩ = false ∧ W.frozen? ⟨b, 1, none⟩ = false := by
  unfold World.cell? World.frozen?; rw [h]; exact ⟨⟨rfl, rfl⟩, rfl, rfl⟩
theorem after2 {W : World} {b : Nat} {x y : Value} {T : TypeId} (h : W.heap[b]? = some (.cells #[x, y] T (0, 0))) (x' y' : Value) :
    ((W.setCell ⟨b, 0, none⟩ x').setCell ⟨b, 1, none⟩ y').heap[b]? = some (.cells #[x', y'] T (0, 0)) := by
  have h1 := Lib.heap_setCell_same (i := 0) h x'
  have h2 := Lib.heap_setCell_same (i := 1) h1 y'
  rw [h2]; rfl
theorem after2_0 {W : World} {b : Nat} {x y : Value} {T : TypeId} (h : W.heap[b]? = some (.cells #[x, y] T (0, 0))) (x' : Value) :
    (W.setCell ⟨b, 0, none⟩ x').heap[b]? = some (.cells #[x', y] T (0, 0)) := by
  have h1 := Lib.heap_setCell_same (i := 0) h x'
  rw [h1]; rfl
theorem tou_one (b : Nat) (w : World) (i j : Nat) (x y : Value) : Tou (One1 b) w ((w.setCell ⟨b, i, none⟩ x).setCell ⟨b, j, none⟩ y) := ((Tou.refl (One1 b) w).set (.inl (show One1 b b from rfl)) _ _).set (.inl (show One1 b b from rfl)) _ _
theorem tou_one1 (b : Nat) (w : World) (i : Nat) (x : Value) : Tou (One1 b) w (w.setCell ⟨b, i, none⟩ x) := (Tou.refl (One1 b) w).set (.inl (show One1 b b from rfl)) _ _

theorem goes_any (b : Nat) (r : Option (List UInt8)) (m : Bool) (w : World) (h : RdAt w b r) :
    Calls Tryd.prog 128 #[.pointer (some ⟨b, 0, none⟩), .bool m] w (RPost b w (.bool (r.isSome && m)) (if m then r else none)) := by
  rcases r with _ | l
  · have h' : w.heap[b]? = some (.cells #[.string ⟨#[]⟩, .bool false] 138 (0, 0)) := h
    obtain ⟨⟨c0, c1⟩, f0, f1⟩ := cells2 h'
    have H := Lib.hid (after2 h' (.string ⟨#[]⟩) (.bool false))
    have hx : (if m then (none : Option (List UInt8)) else none) = none := by cases m <;> rfl
    rw [hx]
    clear h h' hx
    go_enter Tryd.func128, Tryd.ntmps128
    go_wp2
    go_ret
    exact ⟨rfl, H.out, tou_one _ _ _ _ _ _⟩
  · have h' : w.heap[b]? = some (.cells #[.string (mkS l), .bool true] 138 (0, 0)) := h
    obtain ⟨⟨c0, c1⟩, f0, f1⟩ := cells2 h'
    have H := Lib.hid (after2 h' (.string ⟨#[]⟩) (.bool false))
    have H0 := Lib.hid h
    clear h h'
    cases m
    · go_enter Tryd.func128, Tryd.ntmps128
      go_wp2
      go_ret
      exact ⟨rfl, H.out, tou_one _ _ _ _ _ _⟩
    · go_enter Tryd.func128, Tryd.ntmps128
      go_wp2
      go_ret
      exact ⟨rfl, H0.out, Tou.refl _ _⟩
theorem take_rd (b : Nat) (l : List UInt8) (n : Nat) (w : World) (h : RdAt w b (some l)) (hn : n ≤ l.length) :
    Calls Tryd.prog 130 #[.pointer (some ⟨b, 0, none⟩), .int .i64 (n : Int)] w (RPost b w (.string (mkS (l.take n))) (some (l.drop n))) := by
  have h' : w.heap[b]? = some (.cells #[.string (mkS l), .bool true] 138 (0, 0)) := h
  obtain ⟨⟨c0, c1⟩, f0, f1⟩ := cells2 h'
  have H := Lib.hid (after2_0 h' (.string (mkS (l.drop n))))
  have hs : (mkS l).size = l.length := mkS_size l
  have s1 : ∀ W : World, (Instr.slice 9 (.string (mkS l)) none (some (.int .i64 (n : Int))) none).run Tryd.prog W = .ok (.string (mkS (l.take n))) W := fun W => by
    rw [run_slice_string_h W 9 (mkS l) Tryd.underlying9 .i64 (n : Int) (by omega) (by omega), mkS_extract]; simp
  have s2 : ∀ W : World, (Instr.slice 9 (.string (mkS l)) (some (.int .i64 (n : Int))) none none).run Tryd.prog W = .ok (.string (mkS (l.drop n))) W := fun W => by
    rw [run_slice_string_l W 9 (mkS l) Tryd.underlying9 .i64 (n : Int) (by omega) (by omega), mkS_extract, hs, List.take_length]; simp
  clear h h' hs
  generalize mkS (l.take n) = A at *
  obtain ⟨B, hB⟩ : ∃ B, mkS (l.drop n) = B := ⟨_, rfl⟩
  have HB := Lib.hid hB
  rw [hB] at s2 H
  clear hB
  generalize mkS l = L at *
  go_enter Tryd.func130, Tryd.ntmps130
  go_wp2
  go_ret
  refine ⟨rfl, ?_, tou_one1 _ _ _ _⟩
  show (w.setCell _ _).heap[b]? = some (.cells #[.string (mkS (l.drop n)), .bool true] _ (0, 0))
  rw [HB.out]; exact H.out

/-! ### the number that stands there -/
def numN (l : List UInt8) : Int := if numBad l then 0 else if numP l % 2 = 1 then -((numP l / 2 : Nat) : Int) - 1 else ((numP l / 2 : Nat) : Int)
def numK (l : List UInt8) : Int := if numBad l then 0 else ((1 + cnt0 l : Nat) : Int)
theorem wraps64 (n : Int) (h0 : 0 ≤ n) (h1 : n < 2 ^ 64) : IntKind.wrap .u64 n = n := by rw [IntKind.wrap_u64]; omega
theorem or_u64 (n b : Int) (h0 : 0 ≤ n) (h1 : n < 72057594037927936) (hb0 : 0 ≤ b) (hb1 : b < 256) : bits .or .u64 (n * 256) b = n * 256 + b :=
  bits_join .u64 64 (by decide) wraps64 8 (n * 256) b (by omega) (by omega) (by omega) hb0 (by omega) (by omega)
theorem and1_u64 (n : Int) (h0 : 0 ≤ n) (h1 : n < 18446744073709551616) : bits .and .u64 n 1 = n % 2 :=
  bits_mask .u64 64 (by decide) wraps64 1 (by decide) n h0 (by omega)
theorem rdT_lt8 (m : List UInt8) (h : m.length ≤ 8) : rdT m < 18446744073709551616 := by
  have h1 := rdT_lt m
  have h2 : (256 : Nat) ^ m.length ≤ 256 ^ 8 := Nat.pow_le_pow_right (by decide) h
  have h3 : (256 : Nat) ^ 8 = 18446744073709551616 := by decide
  omega
theorem rdT_lt7 (m : List UInt8) (h : m.length ≤ 7) : rdT m < 72057594037927936 := by
  have h1 := rdT_lt m
  have h2 : (256 : Nat) ^ m.length ≤ 256 ^ 7 := Nat.pow_le_pow_right (by decide) h
  have h3 : (256 : Nat) ^ 7 = 72057594037927936 := by decide
  omega
theorem head_byte {l : List UInt8} {k : Nat} (h : k < (mkS l).size) : ((mkS l)[k]'h).toNat = (l.getD k 0).toNat := by
  have h2 : k < l.length := by rw [← mkS_size l]; exact h
  rw [List.getD_eq_getElem?_getD, List.getElem?_eq_getElem h2]
  show (l.toArray[k]).toNat = _
  simp
theorem number_bad (l : List UInt8) (w : World) (hb : numBad l) :
    Calls Tryd.prog 129 #[.string (mkS l)] w fun e w' => e = .returned (.tuple #[.int .i64 0, .int .i64 0]) ∧ Below w.heap.size w w' := by
  have hz := mkS_size l
  unfold numBad cnt0 at hb
  by_cases h0 : l.length = 0
  · have hs := str_nil (s := mkS l) (by omega)
    clear hb
    generalize mkS l = S at *
    go_enter Tryd.func129, Tryd.ntmps129
    go_wp2
    go_ret2
    exact ⟨rfl, Below.refl _ _⟩
  · have hs := str_some (s := mkS l) (by omega)
    have hp : 0 < (mkS l).size := by omega
    have e0 := head_byte hp
    have H1 : Hid (∀ h : 1 < (mkS l).size, ((mkS l)[1]'h).toNat = (l.getD 1 0).toNat) := Lib.hid fun h => head_byte h
    obtain ⟨c, hc⟩ : ∃ c, (l.getD 0 0).toNat = c := ⟨_, rfl⟩
    rw [hc] at e0 hb
    have hc256 : (c : Int) < 256 := by rw [← hc]; have := UInt8.toNat_lt (l.getD 0 0); omega
    by_cases h8 : 8 < c
    · have h8I : 8 < (c : Int) := by omega
      clear hb hc
      generalize mkS l = S at *
      go_enter Tryd.func129, Tryd.ntmps129
      go_wp2
      go_ret2
      exact ⟨rfl, Below.refl _ _⟩
    · have h8I : (c : Int) ≤ 8 := by omega
      by_cases hlc : l.length ≤ c
      · have hlI : ((mkS l).size : Int) ≤ (c : Int) := by omega
        clear hb hc
        generalize mkS l = S at *
        go_enter Tryd.func129, Tryd.ntmps129
        go_wp2
        go_ret2
        exact ⟨rfl, Below.refl _ _⟩
      · have hlI : (c : Int) < ((mkS l).size : Int) := by omega
        have hb2 : 0 < c ∧ l.getD 1 0 = 0 := by
          rcases hb with h | h | h | h
          · omega
          · omega
          · omega
          · exact h
        have hcI : 0 < (c : Int) := by omega
        have hp1 : 1 < (mkS l).size := by omega
        have e1 := H1.out hp1
        rw [hb2.2] at e1
        have e1' : ((mkS l)[1]'hp1).toNat = 0 := e1
        clear hb hc hb2 e1
        generalize mkS l = S at *
        go_enter Tryd.func129, Tryd.ntmps129
        go_wp2
        go_ret2
        exact ⟨rfl, Below.refl _ _⟩
theorem number_good (l : List UInt8) (w : World) (hl : l.length ≤ 1000) (hb : ¬ numBad l) :
    Calls Tryd.prog 129 #[.string (mkS l)] w fun e w' => e = .returned (.tuple #[.int .i64 (numN l), .int .i64 ((1 + cnt0 l : Nat) : Int)]) ∧ Below w.heap.size w w' := by
  have hz := mkS_size l
  have HNN : Hid (numN l = if numP l % 2 = 1 then -((numP l / 2 : Nat) : Int) - 1 else ((numP l / 2 : Nat) : Int)) := Lib.hid (by unfold numN; rw [if_neg hb])
  unfold numBad at hb
  simp only [not_or, not_and] at hb
  obtain ⟨h0, h8, hlc, h1⟩ := hb
  have hs := str_some (s := mkS l) (by omega)
  have hp : 0 < (mkS l).size := by omega
  have e0 := head_byte hp
  have H1 : Hid (∀ h : 1 < (mkS l).size, ((mkS l)[1]'h).toNat = (l.getD 1 0).toNat) := Lib.hid fun h => head_byte h
  obtain ⟨c, hc⟩ : ∃ c, cnt0 l = c := ⟨_, rfl⟩
  have hc' : (l.getD 0 0).toNat = c := hc
  rw [hc'] at e0
  rw [hc] at h8 hlc h1 ⊢
  have h8I : (c : Int) ≤ 8 := by omega
  have hlI : (c : Int) < ((mkS l).size : Int) := by omega
  have hzI : ((mkS l).size : Int) ≤ 1000 := by omega
  have hsl : ∀ W : World, (Instr.slice 9 (.string (mkS l)) (some (.int .i64 1)) (some (.int .i64 (1 + (c : Int)))) none).run Tryd.prog W = .ok (.string (mkS ((l.take (1 + c)).drop 1))) W := fun W => by
    rw [run_slice_string W 9 (mkS l) .i64 .i64 1 (1 + (c : Int)) Tryd.underlying9 (by omega) (by omega) (by omega), mkS_extract]
    rw [show (1 + (c : Int)).toNat = 1 + c by omega]; rfl
  have hPc : numP l = rdT ((l.take (1 + c)).drop 1) := by unfold numP; rw [hc]
  have hMl : ((l.take (1 + c)).drop 1).length = c := by simp; omega
  obtain ⟨M, hM⟩ : ∃ M, (l.take (1 + c)).drop 1 = M := ⟨_, rfl⟩
  rw [hM] at hsl hPc hMl
  obtain ⟨SM, hSM⟩ : ∃ SM, mkS M = SM := ⟨_, rfl⟩
  have hblM : bl SM = M := by rw [← hSM, bl_mkS]
  have hSz : SM.size = c := by rw [← hSM, mkS_size]; exact hMl
  rw [hSM] at hsl
  rw [hPc, ← hblM] at HNN
  have h1f : (0 < (c : Int)) → Hid (∃ h : 1 < (mkS l).size, ((mkS l)[1]'h).toNat ≠ 0) := fun hcI => Lib.hid ⟨by omega, fun e => h1 (by omega) (UInt8.toNat_inj.1 (by rw [H1.out (by omega)] at e; rw [e]; rfl))⟩
  have HB := Lib.hid fun W => bytes_of SM W
  clear hc hc' hM hSM hblM hPc hMl H1 h0 h8 hlc h1 hz
  have fin : ∀ (_ : Unit), Hid (rdT (bl SM) < 18446744073709551616) := fun _ => Lib.hid (rdT_lt8 _ (by rw [bl_length]; omega))
  have HFin := fin ()
  clear fin
  have hSe : ¬ mkS l = ByteArray.empty := fun e => by rw [e] at hp; exact absurd hp (by decide)
  generalize mkS l = S at *
  rcases Nat.eq_zero_or_pos c with hc0 | hc0
  · subst hc0
    have hsl0 : ∀ W : World, (Instr.slice 9 (.string S) (some (.int .i64 1)) (some (.int .i64 1)) none).run Tryd.prog W = .ok (.string SM) W := hsl
    have HZ : Hid (numN l = 0) := Lib.hid (by
      have : bl SM = [] := List.eq_nil_of_length_eq_zero (by rw [bl_length]; exact hSz)
      rw [HNN.out, this, rdT_nil]; rfl)
    obtain ⟨w1, c1, hcv, HC, HB1⟩ := HB.out w
    rw [hSz] at hcv
    clear h1f hsl
    go_enter Tryd.func129, Tryd.ntmps129
    go_wp2
    clear hcv
    go_loop [5, 43] (fun t i => i = .int .i64 0 ∧ t = .int .u64 0) (fun _ _ => 0)
    case atStart => exact ⟨rfl, rfl⟩
    case round =>
      obtain ⟨rfl, rfl⟩ := hrel
      have han := and1_u64 0 (by omega) (by omega)
      go_wp2
      go_ret2
      exact ⟨ret_pair (by rw [HZ.out]; try rfl) rfl, HB1.out⟩
  · have hcI : 0 < (c : Int) := by omega
    obtain ⟨hp1, hne⟩ := (h1f hcI).out
    obtain ⟨d, hd⟩ : ∃ d, (S[1]'hp1).toNat = d := ⟨_, rfl⟩
    have hd0 : ¬ d = 0 := by omega
    clear h1f hne
    obtain ⟨w1, c1, hcv, HC, HB1⟩ := HB.out w
    go_enter Tryd.func129, Tryd.ntmps129
    go_wp2
    · rename_i hq
      exfalso
      rcases hq with (h | h) | h
      · omega
      · omega
      · simp at h; omega
    clear hcv
    go_loop [5, 43] (fun t i => ∃ k : Nat, k ≤ c ∧ i = .int .i64 k ∧ ∃ n : Nat, Hid (n = rdT ((bl SM).take k)) ∧ t = .int .u64 n) (fun _ i => c - (intOf i).toNat)
    case atStart => exact ⟨0, by omega, rfl, 0, Lib.hid (by simp [rdT_nil]), rfl⟩
    case round =>
      obtain ⟨k, hk, rfl, n, HN, rfl⟩ := hrel
      by_cases hlt : k < c
      · have hkS : k < SM.size := by omega
        have HT := Lib.hid (rdT_take SM k hkS)
        have hn : (n : Int) < 72057594037927936 := by
          have h9 := rdT_lt7 ((bl SM).take k) (by rw [List.length_take]; omega)
          rw [← HN.out] at h9; omega
        have hc := HC.out k hkS
        have hb1 : (SM[k].toNat : Int) < 256 := by have := SM[k].toNat_lt; omega
        obtain ⟨b, hb⟩ : ∃ b, SM[k].toNat = b := ⟨_, rfl⟩
        rw [hb] at HT hc hb1
        have hor := or_u64 (n : Int) (b : Int) (by omega) hn (by omega) hb1
        have hltI : (k : Int) < (c : Int) := by omega
        clear hb
        go_wp2
        go_round
        case measure => simp [intOf]; omega
        case rel => exact ⟨k + 1, by omega, by go_num, n * 256 + b, Lib.hid (by rw [HT.out, HN.out]), by go_num⟩
      · obtain rfl : k = c := by omega
        have HN2 : Hid (n = rdT (bl SM)) := Lib.hid (by rw [HN.out, List.take_of_length_le (by rw [bl_length]; omega)])
        have hNlt : (n : Int) < 18446744073709551616 := by have := HFin.out; rw [← HN2.out] at this; omega
        have han := and1_u64 (n : Int) (by omega) hNlt
        by_cases hodd : n % 2 = 1
        · have han2 : bits .and .u64 (n : Int) 1 = 1 := by rw [han]; omega
          have hnot : bits .xor .i64 (-1) ((n : Int) / 2) = -1 - (n : Int) / 2 := by
            have := i64_not (n / 2) (by omega)
            rw [show ((n / 2 : Nat) : Int) = (n : Int) / 2 by omega] at this; exact this
          have HO := Lib.hid hodd
          have HV := Lib.hid hnot
          obtain ⟨v, hv⟩ : ∃ v, -1 - (n : Int) / 2 = v := ⟨_, rfl⟩
          have HV2 := Lib.hid hv
          rw [hv] at hnot
          clear hodd han hv
          have hsg : IntKind.signed .i64 = true := rfl
          have hun : ∀ W : World, (Op.unary .xor (.int .i64 ((n : Int) / 2))).run Tryd.prog W = .ok (.int .i64 v) W := fun W => by rw [unary_xor, hsg, if_pos rfl, intBits_xor, hnot]; rfl
          go_wp2
          go_ret2
          exact ⟨ret_pair (by rw [HNN.out, ← HN2.out, if_pos HO.out, ← HV2.out]; omega) (by omega), HB1.out⟩
        · have han2 : bits .and .u64 (n : Int) 1 = 0 := by rw [han]; omega
          have HO := Lib.hid hodd
          clear hodd han
          go_wp2
          go_ret2
          exact ⟨ret_pair (by rw [HNN.out, ← HN2.out, if_neg HO.out]; omega) (by omega), HB1.out⟩
theorem number_any (l : List UInt8) (w : World) (hl : l.length ≤ 1000) :
    Calls Tryd.prog 129 #[.string (mkS l)] w fun e w' => e = .returned (.tuple #[.int .i64 (numN l), .int .i64 (numK l)]) ∧ Below w.heap.size w w' := by
  by_cases h : numBad l
  · have h1 : numN l = 0 := by unfold numN; rw [if_pos h]
    have h2 : numK l = 0 := by unfold numK; rw [if_pos h]
    rw [h1, h2]; exact number_bad l w h
  · have h2 : numK l = ((1 + cnt0 l : Nat) : Int) := by unfold numK; rw [if_neg h]
    rw [h2]; exact number_good l w hl h
end Go.Proofs.YtoojdknfommpbaaDoor
