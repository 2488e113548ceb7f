/- The walks of frame's Size, Put, of the document's, of Few and Same: what they compute. -/
import Derived.Test.YtmmajdkngboecaaFramePure
import Derived.Test.YtmmajdkngboecaaCrcLaws
import Derived.Test.YtmmajdkngboecaaBuilder
import Derived.IntWalk
namespace Go.Proofs.Ytmmajdkngboecaa
open Go.RowKit
set_option maxRecDepth 10000


theorem size_any (v : Value) (l : List ByteArray) (w : World) (hs : Sl Value.string w v l) (hl : sizeL l ≤ 140737488351232) :
    Calls Try.prog 40 #[v] w fun e w' => e = .returned (.int .i64 (sizeL l : Int)) ∧ w = w' := by
  obtain ⟨A, c, rfl, hc, hread⟩ := hs
  have HR := Lib.hid hread; clear hread
  have hlen := length_le_sizeL l
  have hlI : (l.length : Int) ≤ 140737488351232 := by omega
  go_enter Try.func40, Try.ntmps40
  go_wp2
  go_loop [3, 11] (fun t i => ∃ k : Nat, k ≤ l.length ∧ i = .int .i64 k ∧ ∃ n : Nat, Hid (n = 6 * (l.length - k) + sizeL (l.take k)) ∧ t = .int .i64 n) (fun _ i => l.length - (intOf i).toNat)
  case atStart => exact ⟨0, by omega, rfl, 6 * l.length, Lib.hid (by simp [sizeL_nil]), by go_num⟩
  case round =>
    obtain ⟨k, hk, rfl, n, HN, rfl⟩ := hrel
    by_cases hlt : k < l.length
    · obtain ⟨a, rfl, hcell⟩ := HR.out k hlt
      have HT := Lib.hid (sizeL_take l k hlt)
      have h1 := sizeL_split l (k + 1)
      have hn := HN.out
      have ht := HT.out
      have b1 : (n : Int) + (l[k].size : Int) ≤ 140737488351232 := by omega
      clear h1 hn ht hlen
      generalize l[k] = s at *
      go_wp2
      go_round
      case measure => simp [intOf]; omega
      case rel => exact ⟨k + 1, by omega, by go_num, n + s.size, Lib.hid (by rw [HT.out, HN.out]; omega), by go_num⟩
    · obtain rfl : k = l.length := by omega
      go_wp2
      go_ret
      exact ⟨ret_int (by rw [HN.out, List.take_length]; omega), rfl⟩

theorem size_ref (v : Value) (l : List ByteArray) (w : World) (hs : Sl Value.string w v l) (hl : sizeL l ≤ 140737488351232) :
    Calls Try.prog 41 #[v] w fun e w' => e = .returned (.int .i64 (sizeL l : Int)) ∧ w = w' := by
  obtain ⟨A, c, rfl, hc, hread⟩ := hs
  have HR := Lib.hid hread; clear hread
  have hlen := length_le_sizeL l
  have hlI : (l.length : Int) ≤ 140737488351232 := by omega
  go_enter Try.func41, Try.ntmps41
  go_wp2
  go_loop [3, 4] (fun t i => ∃ k : Nat, k ≤ l.length ∧ i = .int .i64 k ∧ ∃ n : Nat, Hid (n = sizeL (l.take k)) ∧ t = .int .i64 n) (fun _ i => l.length - (intOf i).toNat)
  case atStart => exact ⟨0, by omega, rfl, 0, Lib.hid (by simp [sizeL_nil]), rfl⟩
  case round =>
    obtain ⟨k, hk, rfl, n, HN, rfl⟩ := hrel
    by_cases hlt : k < l.length
    · obtain ⟨a, rfl, hcell⟩ := HR.out k hlt
      have HT := Lib.hid (sizeL_take l k hlt)
      have h1 := sizeL_take_le l (k + 1)
      have hn := HN.out
      have ht := HT.out
      have b1 : (n : Int) + 6 + (l[k].size : Int) ≤ 140737488351232 := by omega
      clear h1 hn ht hlen
      generalize l[k] = s at *
      go_wp2
      go_round
      case measure => simp [intOf]; omega
      case rel => exact ⟨k + 1, by omega, by go_num, n + 6 + s.size, Lib.hid (by rw [HT.out, HN.out]; omega), by go_num⟩
    · obtain rfl : k = l.length := by omega
      go_wp2
      go_ret
      exact ⟨ret_int (by rw [HN.out, List.take_length]), rfl⟩

/-- What Few says when it says true. -/
def FewPost (l : List ByteArray) (most size : Int) (w : World) (e : Ending) (w' : World) : Prop :=
  ∃ b, e = .returned (.bool b) ∧ (b = true → (l.length : Int) ≤ most ∧ ∀ s ∈ l, (s.size : Int) ≤ size) ∧ w = w'
theorem few_any (v : Value) (l : List ByteArray) (most size : Int) (w : World) (hs : Sl Value.string w v l) (hm0 : 0 ≤ most) (hm : most ≤ 1000000) (hl : l.length ≤ 9223372036854775807) (hsz : ∀ s ∈ l, s.size ≤ 9223372036854775807) :
    Calls Try.prog 36 #[v, .int .i64 most, .int .i64 size] w (FewPost l most size w) := by
  obtain ⟨A, c, rfl, hc, hread⟩ := hs
  have HR := Lib.hid hread; clear hread
  have HZ := Lib.hid hsz; clear hsz
  have hlI : (l.length : Int) ≤ 9223372036854775807 := by omega
  go_enter Try.func36, Try.ntmps36
  go_wp2
  go_loop [7] (fun i => ∃ k : Nat, k ≤ l.length ∧ i = .int .i64 k ∧ (k : Int) ≤ most ∧ Hid (∀ s ∈ l.take k, (s.size : Int) ≤ size)) (fun i => l.length - (intOf i).toNat)
  case atStart => exact ⟨0, by omega, rfl, by omega, Lib.hid (by simp)⟩
  case round =>
    obtain ⟨k, hk, rfl, hkm, HA⟩ := hrel
    by_cases hlt : k < l.length
    · obtain ⟨a, rfl, hcell⟩ := HR.out k hlt
      have HT := Lib.hid (take_snoc' l k hlt)
      have hz := HZ.out l[k] (List.getElem_mem hlt)
      have HMem := Lib.hid (List.getElem_mem hlt)
      by_cases hlm : (k : Int) < most
      · generalize l[k] = s at *
        by_cases hss : size < (s.size : Int)
        · go_wp2
          go_ret
          exact ⟨false, rfl, (fun h => by cases h), rfl⟩
        · go_wp2
          go_round
          case measure => simp [intOf]; omega
          case rel => exact ⟨k + 1, by omega, by go_num, by omega, Lib.hid (by
              rw [HT.out]; intro x hx
              rcases List.mem_append.1 hx with h | h
              · exact HA.out x h
              · simp at h; subst h; omega)⟩
      · have hg : most < (l.length : Int) := by omega
        go_wp2
        go_ret
        exact ⟨_, rfl, (fun h => by have := of_decide_eq_true h; omega), rfl⟩
    · obtain rfl : k = l.length := by omega
      go_wp2
      go_ret
      exact ⟨_, rfl, fun _ => ⟨hkm, by have := HA.out; rw [List.take_length] at this; exact this⟩, rfl⟩

theorem strs_same (v u : Value) (l m : List ByteArray) (w : World) (hs : Sl Value.string w v l) (ht : Sl Value.string w u m) (hl : l.length ≤ 140737488351232) (hm : m.length ≤ 140737488351232) :
    Calls Try.prog 44 #[v, u] w fun e w' => e = .returned (.bool (decide (l = m))) ∧ Below w.heap.size w w' := by
  obtain ⟨A, c, rfl, hc, hread⟩ := hs
  obtain ⟨A', c', rfl, hc', hread'⟩ := ht
  have HR := Lib.hid hread; clear hread
  have HR' := Lib.hid hread'; clear hread'
  have hmax : (l.length : Int) ≤ 140737488351232 := by omega
  by_cases hlen : l.length = m.length
  · have hn : ((l.length : Int) != (m.length : Int)) = false := by simp [hlen]
    have HL := Lib.hid hlen
    clear hlen
    go_enter Try.func44, Try.ntmps44
    go_wp2
    go_loopw [5] (fun i w' => ∃ k : Nat, k ≤ l.length ∧ i = .int .i64 k ∧ Hid (l.take k = m.take k) ∧ ∃ q, w' = w.drewN q) (fun i _ => l.length - (intOf i).toNat)
    case atStart => exact ⟨0, by omega, rfl, Lib.hid rfl, 0, rfl⟩
    case round =>
      obtain ⟨k, hk, rfl, HN, q, rfl⟩ := hrel
      by_cases hlt : k < l.length
      · have hltm : k < m.length := by rw [← HL.out]; exact hlt
        obtain ⟨a, rfl, hcell⟩ := HR.out k hlt
        obtain ⟨a', rfl, hcell'⟩ := HR'.out k hltm
        have HT := Lib.hid (take_snoc' l k hlt)
        have HT' := Lib.hid (take_snoc' m k hltm)
        have i0 : 0 ≤ (k : Int) := by omega
        have i1 : (k : Int) < (l.length : Int) := by omega
        have i2 : (k : Int) < (m.length : Int) := by omega
        by_cases he : l[k] = m[k]
        · have he' := str_eq he
          have HM : Hid (l.take (k + 1) = m.take (k + 1)) := Lib.hid (by rw [HT.out, HT'.out, HN.out, he])
          clear he
          go_wp2_with fail
          go_quiet (fail)
          go_wp2
          go_roundw
          case measure => simp [intOf]; omega
          case rel => exact ⟨k + 1, by omega, by go_num, HM, _, rfl⟩
        · have he' := str_ne he
          have HM : Hid (l ≠ m) := Lib.hid (by rintro rfl; exact he rfl)
          clear he
          go_wp2_with fail
          go_quiet (fail)
          go_wp2
          go_ret
          exact ⟨ret_bool (decide_eq_false HM.out).symm, ⟨rfl, rfl, rfl, Nat.le_refl _, fun _ _ => rfl⟩⟩
      · obtain rfl : k = l.length := by omega
        go_wp2
        go_ret
        exact ⟨ret_bool (decide_eq_true (by have := HN.out; rw [List.take_length, HL.out, List.take_length] at this; exact this)).symm, ⟨rfl, rfl, rfl, Nat.le_refl _, fun _ _ => rfl⟩⟩
  · have hn : ((l.length : Int) != (m.length : Int)) = true := by simp; omega
    have HM : Hid (l ≠ m) := Lib.hid (by rintro rfl; exact hlen rfl)
    clear hlen
    go_enter Try.func44, Try.ntmps44
    go_wp2
    go_ret
    exact ⟨ret_bool (decide_eq_false HM.out).symm, Below.refl _ _⟩

theorem heap_new (w : World) (o : Obj) : (w.alloc o).heap[w.heap.size]? = some o := by
  show (w.heap.push o)[w.heap.size]? = some o
  simp
/-- A Builder of the call's own that holds so many cells. -/
def Bld (w0 : World) (bs : List Value) (n : Nat) (w : World) : Prop :=
  Lib.IsBuilder 99 5 w0.heap.size w0.heap.size bs w ∧ bs.length ≤ n ∧ Below w0.heap.size w0 w
theorem bld_byte (w0 : World) (bs : List Value) (n : Nat) (c : Int) (w : World) (h : Bld w0 bs n w) (hn : n ≤ 1000000000) :
    Calls Try.prog 64 #[.pointer (some ⟨w0.heap.size, 0, none⟩), .int .u8 c] w fun e w' => e = .returned .nilIface ∧ Bld w0 (bs ++ [.int .u8 c]) (n + 1) w' :=
  (writeByte_any _ _ bs c w h.1 (by have := h.2.1; omega) h.2.2.size).mono fun e w' ⟨he, hb, hb2⟩ => ⟨he, .inr hb, by rw [List.length_append]; have := h.2.1; simp; omega, h.2.2.trans hb2⟩
theorem bld_string (w0 : World) (bs : List Value) (n : Nat) (s : ByteArray) (w : World) (h : Bld w0 bs n w) (hn : n ≤ 1000000000) (hs : s.size ≤ 1000000000) :
    Calls Try.prog 65 #[.pointer (some ⟨w0.heap.size, 0, none⟩), .string s] w fun e w' => e = .returned (.tuple #[.int .i64 s.size, .nilIface]) ∧ Bld w0 (bs ++ Lib.strCells s) (n + s.size) w' :=
  (writeString_any _ _ bs s w h.1 (by have := h.2.1; omega) h.2.2.size).mono fun e w' ⟨he, hb, hb2⟩ => ⟨he, .inr hb, by rw [List.length_append, Lib.strCells_length]; have := h.2.1; omega, h.2.2.trans hb2⟩
theorem Bld.below {w0 w w' : World} {bs : List Value} {n : Nat} (h : Bld w0 bs n w) (hb : Below w.heap.size w w') : Bld w0 bs n w' := by
  obtain ⟨h1, h2, h3⟩ := h
  have hlt : ∀ p, Lib.BuilderAt 99 5 w0.heap.size w0.heap.size p bs w → Lib.BuilderAt 99 5 w0.heap.size w0.heap.size p bs w' := by
    rintro p ⟨hB, v, hbk, hown, hne⟩
    have hl : w0.heap.size < w.heap.size := (Array.getElem?_eq_some_iff.1 hbk).1
    exact ⟨hB, v, (hb.block _ hl).trans hbk, own_block hown fun k hk => hb.block k (World.ownsRow.lt hown k hk).2, hne⟩
  exact ⟨h1.imp (hlt _) (hlt _), h2, below_next h3 hb⟩
theorem bld_done (w0 : World) (l : List UInt8) (n : Nat) (w : World) (h : Bld w0 (Lib.byteCells l) n w) :
    Calls Try.prog 66 #[.pointer (some ⟨w0.heap.size, 0, none⟩)] w fun e w' => e = .returned (.string ⟨l.toArray⟩) ∧ Below w0.heap.size w0 w' :=
  (Try.Builder_String_any _ _ l w h.1 h.2.2.size).mono fun _ _ ⟨he, hb⟩ => ⟨he, h.2.2.trans hb⟩
theorem frameCells (l : List UInt8) (s : ByteArray) (hs : s.size ≤ 4096) :
    (((Lib.byteCells l ++ [.int .u8 ((s.size : Int) / 256)]) ++ [.int .u8 ((s.size : Int) % 256)]) ++ Lib.strCells (octS (sumB (bl s)))) ++ Lib.strCells s = Lib.byteCells (l ++ frameB (bl s)) := by
  have h1 : (s.size : Int) / 256 = ((UInt8.ofNat (s.size / 256)).toNat : Int) := by rw [UInt8.toNat_ofNat']; omega
  have h2 : (s.size : Int) % 256 = ((UInt8.ofNat s.size).toNat : Int) := by rw [UInt8.toNat_ofNat']; omega
  rw [h1, h2]
  unfold Lib.byteCells Lib.strCells frameB
  rw [bl_length]
  simp only [List.map_append, List.map_cons, List.append_assoc, List.cons_append, List.nil_append]
  rfl

set_option maxHeartbeats 1000000 in
theorem put_any (v : Value) (l : List ByteArray) (w : World) (hs : Sl Value.string w v l) (hl : sizeL l ≤ 1000000000) :
    Calls Try.prog 38 #[v] w fun e w' => e = .returned (.tuple #[.string (putS l), .int .i64 (putE l)]) ∧ Below w.heap.size w w' := by
  have HV := Lib.hid hs
  obtain ⟨A, c, rfl, hc, hread⟩ := hs
  have HR := Lib.hid hread; clear hread
  have hlen := length_le_sizeL l
  have hlI : (l.length : Int) ≤ 1000000000 := by omega
  have HSz := Lib.hid (size_any _ l w HV.out (by omega))
  go_enter Try.func38, Try.ntmps38
  go_wp2_with fail
  go_loop [11] (fun i => ∃ k : Nat, k ≤ l.length ∧ i = .int .i64 k ∧ Hid ((l.take k).all okRec = true)) (fun i => l.length - (intOf i).toNat)
  case atStart => exact ⟨0, by omega, rfl, Lib.hid rfl⟩
  case round =>
    obtain ⟨k, hk, rfl, HA⟩ := hrel
    by_cases hlt : k < l.length
    · obtain ⟨a, rfl, hcell⟩ := HR.out k hlt
      have HT := Lib.hid (okRec_snoc l k hlt)
      have HMem := Lib.hid (List.getElem_mem hlt)
      generalize l[k] = s at *
      by_cases h0 : s.size = 0
      · have t1 : s.toList = [] := by rw [ByteArray.toList_eq]; exact List.eq_nil_of_length_eq_zero (by rw [Array.length_toList]; exact h0)
        have HE : Hid (putE l = 1) := Lib.hid (by
          unfold putE; rw [if_neg]
          intro h; have := okRec_mem h HMem.out; omega)
        have HE2 : Hid (putS l = ByteArray.empty) := Lib.hid (by unfold putS; rw [HE.out]; rfl)
        clear h0
        go_wp2
        go_ret2
        exact ⟨by rw [HE.out, HE2.out]; rfl, Below.refl _ _⟩
      · have t1 : ¬ s.toList = [] := by rw [ByteArray.toList_eq]; intro h; apply h0; have := congrArg List.length h; rw [Array.length_toList] at this; exact this
        have t2 : s.toList.isEmpty = false := by simpa using t1
        by_cases hb : 4096 < s.size
        · have hbI : (4096 : Int) < (s.size : Int) := by omega
          have HE : Hid (putE l = 1) := Lib.hid (by
            unfold putE; rw [if_neg]
            intro h; have := okRec_mem h HMem.out; omega)
          have HE2 : Hid (putS l = ByteArray.empty) := Lib.hid (by unfold putS; rw [HE.out]; rfl)
          clear h0
          go_wp2
          go_ret2
          exact ⟨by rw [HE.out, HE2.out]; rfl, Below.refl _ _⟩
        · have hbI : (s.size : Int) ≤ 4096 := by omega
          have HK : Hid ((l.take (k + 1)).all okRec = true) := Lib.hid (by rw [HT.out, HA.out]; unfold okRec; simp; omega)
          clear h0
          go_wp2
          go_round
          case measure => simp [intOf]; omega
          case rel => exact ⟨k + 1, by omega, by go_num, HK⟩
    · obtain rfl : k = l.length := by omega
      have HAll : Hid (l.all okRec = true) := Lib.hid (by have := HA.out; rw [List.take_length] at this; exact this)
      by_cases hbig : 16384 < sizeL l
      · have hbI : (16384 : Int) < (sizeL l : Int) := by omega
        have HE : Hid (putE l = 9) := Lib.hid (by unfold putE; rw [if_pos HAll.out, if_pos hbig])
        have HE2 : Hid (putS l = ByteArray.empty) := Lib.hid (by unfold putS; rw [HE.out]; rfl)
        go_wp2_with (go_at_call 40; (with_reducible refine HSz.out.mono ?_); rintro e w' ⟨rfl, rfl⟩)
        go_ret2
        exact ⟨by rw [HE.out, HE2.out]; rfl, Below.refl _ _⟩
      · have hbI : (sizeL l : Int) ≤ 16384 := by omega
        have HE : Hid (putE l = 0) := Lib.hid (by unfold putE; rw [if_pos HAll.out, if_neg hbig])
        have HE2 : Hid (putS l = ⟨(framesB l).toArray⟩) := Lib.hid (by unfold putS; rw [HE.out]; rfl)
        go_wp2_with (go_at_call 40; (with_reducible refine HSz.out.mono ?_); rintro e w' ⟨rfl, rfl⟩)
        have hB0 : Lib.IsBuilder 99 5 w.heap.size w.heap.size (Lib.byteCells (framesB (l.take 0))) (w.alloc (.cells #[.pointer none, .slice none 0 0] 99)) :=
          .inl ⟨Nat.le_refl _, _, heap_new _ _, World.ownsRow_nil _ _ _ _, by simp [Value.ownBlock]⟩
        go_loopw [28] (fun i w' => ∃ k : Nat, k ≤ l.length ∧ i = .int .i64 k ∧ Hid (Bld w (Lib.byteCells (framesB (l.take k))) (sizeL (l.take k)) w')) (fun i _ => l.length - (intOf i).toNat)
        case atStart => exact ⟨0, by omega, rfl, Lib.hid ⟨hB0, by simp [framesB, Lib.byteCells], below_new _ _⟩⟩
        case round =>
          clear hB0
          obtain ⟨k, hk, rfl, HB⟩ := hrel
          have hbel := HB.out.2.2
          by_cases hlt : k < l.length
          · obtain ⟨a, rfl, hcell0⟩ := HR.out k hlt
            have hcell := cell_below hbel hcell0
            clear hcell0
            have HMem := Lib.hid (List.getElem_mem hlt)
            have hok := okRec_mem HAll.out HMem.out
            have hs0 : 0 ≤ (l[k].size : Int) := by omega
            have hs1 : (l[k].size : Int) ≤ 4096 := by omega
            have HT := Lib.hid (take_snoc' l k hlt)
            have HL0 := sizeL_take_le l k
            have HL1 := Lib.hid (sizeL_take l k hlt)
            have hs4 : l[k].size ≤ 4096 := hok.2
            have hq := HB.out
            generalize l[k] = s at *
            have HF := Lib.hid (frameCells (framesB (l.take k)) s hs4)
            have q1 := Lib.hid (bld_byte w _ _ ((s.size : Int) / 256) wr hq (by omega))
            have q2 : Hid (∀ W bs, Bld w bs (sizeL (l.take k) + 1) W → _) := Lib.hid fun W bs h => bld_byte w bs _ ((s.size : Int) % 256) W h (by omega)
            have q3 : Hid (∀ W bs, Bld w bs (sizeL (l.take k) + 1 + 1) W → Calls Try.prog 19 #[.string s] W fun e w' => e = .returned (.int .u32 (Ytmmajdkngboecaa.W (sumB (bl s)))) ∧ Bld w bs (sizeL (l.take k) + 1 + 1) w') := Lib.hid fun W bs h => (sum_any s W (by omega)).mono fun e w' ⟨he, hw⟩ => ⟨he, by rw [← hw]; exact h⟩
            have q4 : Hid (∀ W bs, Bld w bs (sizeL (l.take k) + 1 + 1) W → Calls Try.prog 23 #[.int .u32 (Ytmmajdkngboecaa.W (sumB (bl s)))] W fun e w' => e = .returned (.string (octS (sumB (bl s)))) ∧ Bld w bs (sizeL (l.take k) + 1 + 1) w') := Lib.hid fun W bs h => (octets_any _ W).mono fun e w' ⟨he, hb⟩ => ⟨he, h.below hb⟩
            have q5 : Hid (∀ W bs, Bld w bs (sizeL (l.take k) + 1 + 1) W → _) := Lib.hid fun W bs h => bld_string w bs _ (octS (sumB (bl s))) W h (by omega) (by rw [octS_size]; omega)
            have q6 : Hid (∀ W bs, Bld w bs (sizeL (l.take k) + 1 + 1 + (octS (sumB (bl s))).size) W → _) := Lib.hid fun W bs h => bld_string w bs _ s W h (by rw [octS_size]; omega) (by omega)
            clear hq hok hs4 HL0
            go_wp2_with (first | (go_at_call 64; (with_reducible refine (q2.out _ _ hw1).mono ?_); rintro e w2 ⟨rfl, hw2⟩) | (go_at_call 64; (with_reducible refine q1.out.mono ?_); rintro e w1 ⟨rfl, hw1⟩) | (go_at_call 19; (with_reducible refine (q3.out _ _ hw2).mono ?_); rintro e w3 ⟨rfl, hw3⟩) | (go_at_call 23; (with_reducible refine (q4.out _ _ hw3).mono ?_); rintro e w4 ⟨rfl, hw4⟩) | (go_at_call 65; (with_reducible refine (q6.out _ _ hw5).mono ?_); rintro e w6 ⟨rfl, hw6⟩) | (go_at_call 65; (with_reducible refine (q5.out _ _ hw4).mono ?_); rintro e w5 ⟨rfl, hw5⟩))
            go_roundw
            case measure => simp [intOf]; omega
            case rel => exact ⟨k + 1, by omega, by go_num, Lib.hid (by
              rw [HT.out, framesB_snoc, ← HF.out, ← HT.out, HL1.out]
              have hx := hw6; rw [octS_size] at hx
              rw [show sizeL (l.take k) + (6 + s.size) = sizeL (l.take k) + 1 + 1 + 4 + s.size by omega]; exact hx)⟩
          · obtain rfl : k = l.length := by omega
            have HD := Lib.hid (bld_done w _ _ wr HB.out)
            go_wp2_with (go_at_call 66; (with_reducible refine HD.out.mono ?_); rintro e w1 ⟨rfl, hb1⟩)
            go_ret2
            exact ⟨by rw [HE.out, HE2.out]; rfl, hb1⟩
end Go.Proofs.Ytmmajdkngboecaa
