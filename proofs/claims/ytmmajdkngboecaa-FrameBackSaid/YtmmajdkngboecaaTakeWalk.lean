/- The walk of frame's Take: what it computes. -/
import Derived.Test.YtmmajdkngboecaaTakePure
import Derived.Test.YtmmajdkngboecaaFrameWalk
import Derived.Deep.LoopGhost
namespace Go.Proofs.Ytmmajdkngboecaa
open Go.RowKit
set_option maxRecDepth 10000

theorem info_string : (Try.prog.info? 9).map (fun i => (i.zero, i.size, i.bytes)) = some (some (.string ByteArray.empty), 1, 16) := by kernel_rfl
/-- Octets as a string. -/
def mkS (r : List UInt8) : ByteArray := ⟨r.toArray⟩
theorem bl_mkS (r : List UInt8) : bl (mkS r) = r := by unfold bl mkS; simp
theorem mkS_bl (s : ByteArray) : mkS (bl s) = s := by cases s; unfold bl mkS; simp
theorem mkS_size (r : List UInt8) : (mkS r).size = r.length := by rw [← bl_length, bl_mkS]
theorem bl_inj {a b : ByteArray} (h : bl a = bl b) : a = b := by rw [← mkS_bl a, h, mkS_bl]
theorem mkS_take (r : List UInt8) (n : Nat) : (mkS r).extract 0 n = mkS (r.take n) := bl_inj (by rw [bl_extract, bl_mkS, bl_mkS]; simp)
theorem mkS_drop (r : List UInt8) (n : Nat) : (mkS r).extract n (mkS r).size = mkS (r.drop n) := bl_inj (by rw [bl_extract, bl_mkS, bl_mkS, mkS_size, List.take_length])
theorem mkS_toList (r : List UInt8) : (mkS r).toList = r := by rw [ByteArray.toList_eq]; exact bl_mkS r

/-- What Take says. -/
def TakePost (w : World) (r : List UInt8) (e : Ending) (w' : World) : Prop :=
  ∃ v, e = .returned (.tuple #[v, .int .i64 (takeT r).1]) ∧ Own Value.string 9 w.heap.size w' v (takeT r).2 ∧ Below w.heap.size w w'
/-- Where Take stands: its variable s holds r, out is v. -/
structure TK (w0 : World) (v : Value) (out : List ByteArray) (r : List UInt8) (W : World) : Prop where
  cell : W.cell? ⟨w0.heap.size, 0, none⟩ = some (.string (mkS r))
  fz : W.frozen? ⟨w0.heap.size, 0, none⟩ = false
  bel : Below w0.heap.size w0 W
  sz : w0.heap.size + 1 ≤ W.heap.size
  own : Own Value.string 9 (w0.heap.size + 1) W v out
theorem TK.below {w0 W W' : World} {v : Value} {out : List ByteArray} {r : List UInt8} (h : TK w0 v out r W) (hb : Below W.heap.size W W') : TK w0 v out r W' :=
  ⟨cell_below hb h.cell, by have hk := hb.block w0.heap.size (by have := h.sz; omega); exact (World.frozen?_of_block (a := ⟨w0.heap.size, 0, none⟩) hk).trans h.fz, below_next h.bel hb, Nat.le_trans h.sz hb.size, h.own.below hb⟩
theorem TK.set {w0 W : World} {v : Value} {out : List ByteArray} {r : List UInt8} (h : TK w0 v out r W) (r' : List UInt8) : TK w0 v out r' (W.setCell ⟨w0.heap.size, 0, none⟩ (.string (mkS r'))) :=
  ⟨World.cell?_setCell_same _ _ _ h.cell, by rw [World.frozen?_setCell]; exact h.fz, h.bel.setCell (Nat.le_refl _) _, by have := h.sz; simp [World.setCell]; exact this,
    own_block h.own fun k hk => Below.heap_setCell W _ _ k (by have := (h.own.lt k hk).1; show k ≠ w0.heap.size; omega)⟩
theorem TK.app {w0 W W' : World} {v v' : Value} {out out' : List ByteArray} {r : List UInt8} (h : TK w0 v out r W) (ho : Own Value.string 9 (w0.heap.size + 1) W' v' out') (hb : Below (w0.heap.size + 1) W W') : TK w0 v' out' r W' :=
  ⟨by have hk := hb.block w0.heap.size (by omega); exact (World.cell?_of_block (a := ⟨w0.heap.size, 0, none⟩) hk).trans h.cell,
   by have hk := hb.block w0.heap.size (by omega); exact (World.frozen?_of_block (a := ⟨w0.heap.size, 0, none⟩) hk).trans h.fz,
   h.bel.trans (hb.mono (Nat.le_succ _)), Nat.le_trans h.sz hb.size, ho⟩

theorem cut_some (w0 W : World) (v : Value) (out : List ByteArray) (r : List UInt8) (n : Nat) (h : TK w0 v out r W) (hn : n ≤ r.length) (hr : r.length ≤ 1000000000) :
    Calls Try.prog 67 #[.int .i64 n, .pointer (some ⟨w0.heap.size, 0, none⟩)] W fun e w' => e = .returned (.tuple #[.string (mkS (r.take n)), .bool true]) ∧ TK w0 v out (r.drop n) w' := by
  have hc := h.cell
  have hf := h.fz
  have HS := Lib.hid (h.set (r.drop n))
  have hT := Lib.hid (mkS_take r n)
  have hD := Lib.hid (mkS_drop r n)
  have hs : (n : Int) ≤ ((mkS r).size : Int) := by rw [mkS_size]; omega
  have hs2 : n ≤ (mkS r).size := by rw [mkS_size]; omega
  have hs3 : ((mkS r).size : Int) ≤ 1000000000 := by rw [mkS_size]; omega
  rw [← hD.out] at HS
  rw [← hT.out]
  generalize mkS r = s at *
  clear h
  go_enter Try.func67, Try.ntmps67
  go_wp2
  go_ret2
  exact ⟨rfl, HS.out⟩
theorem cut_none (w0 W : World) (v : Value) (out : List ByteArray) (r : List UInt8) (n : Nat) (h : TK w0 v out r W) (hn : r.length < n) (hr : r.length ≤ 1000000000) :
    Calls Try.prog 67 #[.int .i64 n, .pointer (some ⟨w0.heap.size, 0, none⟩)] W fun e w' => e = .returned (.tuple #[.string ByteArray.empty, .bool false]) ∧ TK w0 v out r w' := by
  have hc := h.cell
  have hs : ((mkS r).size : Int) < (n : Int) := by rw [mkS_size]; omega
  have hs3 : ((mkS r).size : Int) ≤ 1000000000 := by rw [mkS_size]; omega
  have HS := Lib.hid h
  clear h
  generalize mkS r = s at *
  go_enter Try.func67, Try.ntmps67
  go_wp2
  go_ret2
  exact ⟨rfl, HS.out⟩

theorem cut_yes (w0 W : World) (v : Value) (out : List ByteArray) (r : List UInt8) (z : Int) (n : Nat) (hz : z = (n : Int)) (h : TK w0 v out r W) (hn : n ≤ r.length) (hr : r.length ≤ 1000000000) :
    Calls Try.prog 67 #[.int .i64 z, .pointer (some ⟨w0.heap.size, 0, none⟩)] W fun e w' => e = .returned (.tuple #[.string (mkS (r.take n)), .bool true]) ∧ TK w0 v out (r.drop n) w' := by
  subst hz; exact cut_some w0 W v out r n h hn hr
theorem cut_no (w0 W : World) (v : Value) (out : List ByteArray) (r : List UInt8) (z : Int) (n : Nat) (hz : z = (n : Int)) (h : TK w0 v out r W) (hn : r.length < n) (hr : r.length ≤ 1000000000) :
    Calls Try.prog 67 #[.int .i64 z, .pointer (some ⟨w0.heap.size, 0, none⟩)] W fun e w' => e = .returned (.tuple #[.string ByteArray.empty, .bool false]) ∧ TK w0 v out r w' := by
  subst hz; exact cut_none w0 W v out r n h hn hr
theorem wraps_i64 (n : Int) (h₀ : 0 ≤ n) (h₁ : n < 2 ^ 63) : IntKind.i64.wrap n = n := by rw [IntKind.wrap_i64]; omega
theorem or_join64 (a b : Int) (h0 : 0 ≤ a) (h1 : a < 256) (hb0 : 0 ≤ b) (hb1 : b < 256) : bits .or .i64 (a * 256) b = ((a.toNat * 256 + b.toNat : Nat) : Int) := by
  rw [bits_join .i64 63 (by decide) wraps_i64 8 (a * 256) b (by omega) (by omega) (by omega) hb0 (by omega) (by omega)]; omega
set_option maxHeartbeats 2000000 in
theorem take_any (s : ByteArray) (w : World) (hs : s.size ≤ 1000000) :
    Calls Try.prog 42 #[.string s] w (TakePost w (bl s)) := by
  have HL : Hid ((bl s).length ≤ 1000000) := Lib.hid (by rw [bl_length]; exact hs)
  obtain ⟨r0, rfl⟩ : ∃ r0, s = mkS r0 := ⟨bl s, (mkS_bl s).symm⟩
  rw [bl_mkS] at HL ⊢
  have h0 : TK w (.slice none 0 0) [] r0 (w.alloc (.cells #[.string (mkS r0)] 9)) :=
    ⟨World.cell?_alloc_new _ _ _ _, by rw [frozen?_alloc_cells]; unfold World.frozen?; rw [Array.getElem?_eq_none (Nat.le_refl _)], below_new _ _, by simp, Own.nil _ _ _ _⟩
  have H0 := Lib.hid h0
  have hmf : ∀ (fn : Fn) (first cap : Array Value) (w : World), (Instr.makeFunc fn first cap).run Try.prog w = .ok (.func fn first cap) w := fun _ _ _ _ => rfl
  clear h0 hs
  generalize hs0 : mkS r0 = s0 at H0 ⊢
  clear hs0
  go_enter Try.func42, Try.ntmps42
  go_wp2
  clear hmf
  go_loopg [5] r0.length (fun kq v5 w' => ∃ out r, r.length ≤ kq ∧ out.length + r.length ≤ 1000000 ∧ Hid (takeT r0 = joinT out (takeT r)) ∧ Hid (TK w v5 out r w'))
  case atStart => exact ⟨[], r0, Nat.le_refl _, by have := HL.out; simpa using this, Lib.hid (by unfold takeT; rw [joinT_nil]), H0⟩
  case round =>
    clear H0
    obtain ⟨out, r, hkq, hrl, HT, HK⟩ := hrel
    have hcell := HK.out.cell
    rcases r with _ | ⟨x, _ | ⟨y, t⟩⟩
    · have HO := Lib.hid HK.out.own
      have hbel := HK.out.bel
      have he' : (!(mkS []).toList.isEmpty) = false := by rw [mkS_toList]; rfl
      generalize mkS [] = q at *
      go_wp2
      go_ret2
      exact ⟨_, ret_vi (by rw [HT.out, takeT_nil, joinT_done]), by rw [HT.out, takeT_nil, joinT_done]; exact HO.out.weaken (Nat.le_succ _), hbel⟩
    · have he' : (!(mkS [x]).toList.isEmpty) = true := by rw [mkS_toList]; rfl
      have C2 := Lib.hid (cut_none w _ _ _ _ 2 HK.out (by simp) (by simp))
      rw [show ((2 : Nat) : Int) = 2 from rfl] at C2
      generalize mkS [x] = q at *
      go_wp2_with (go_at_call 67; (with_reducible refine C2.out.mono ?_); rintro e w1 ⟨rfl, h1⟩)
      go_ret2
      exact ⟨_, ret_vi (by rw [HT.out, takeT_one, joinT_err _ _ (by decide)]), by rw [HT.out, takeT_one, joinT_err _ _ (by decide)]; exact Own.nil _ _ _ _, h1.bel⟩
    · have he' : (!(mkS (x :: y :: t)).toList.isEmpty) = true := by rw [mkS_toList]; rfl
      have hot : out.length + (t.length + 2) ≤ 1000000 := by have := hrl; simpa using this
      have C2 := Lib.hid (cut_some w _ _ _ _ 2 HK.out (by simp) (by simp; omega))
      rw [show ((2 : Nat) : Int) = 2 from rfl, show (x :: y :: t).take 2 = [x, y] from rfl, show (x :: y :: t).drop 2 = t from rfl] at C2
      have hx0 : ∀ W : World, (Instr.index 9 (.string (mkS [x, y])) (.int .i64 0)).run Try.prog W = .ok (.int .u8 (x.toNat : Int)) W := fun _ => rfl
      have hx1 : ∀ W : World, (Instr.index 9 (.string (mkS [x, y])) (.int .i64 1)).run Try.prog W = .ok (.int .u8 (y.toNat : Int)) W := fun _ => rfl
      have X0 : (0 : Int) ≤ (x.toNat : Int) ∧ (x.toNat : Int) < 256 := ⟨by omega, by have := x.toNat_lt; omega⟩
      have X1 : (0 : Int) ≤ (y.toNat : Int) ∧ (y.toNat : Int) < 256 := ⟨by omega, by have := y.toNat_lt; omega⟩
      obtain ⟨N, hN⟩ : ∃ N, N = x.toNat * 256 + y.toNat := ⟨_, rfl⟩
      have hor : bits .or .i64 ((x.toNat : Int) * 256) (y.toNat : Int) = (N : Int) := by rw [hN]; exact or_join64 _ _ X0.1 X0.2 X1.1 X1.2
      generalize mkS (x :: y :: t) = q at *
      go_wp2_with (go_at_call 67; (with_reducible refine C2.out.mono ?_); rintro e w1 ⟨rfl, h1⟩)
      generalize mkS [x, y] = s2 at *
      have ht : t.length ≤ 1000000 := by omega
      have hkt : t.length + 2 ≤ gk := by simpa using hkq
      clear hrl hkq
      by_cases hz : N = 0 ∨ 4096 < N
      · have hTT : Hid (takeT r0 = (7, [])) := Lib.hid (by rw [HT.out, takeT_two, if_pos (by rw [← hN]; exact hz), joinT_err _ _ (by decide)])
        clear HT hN
        have hb1 := Lib.hid h1.bel
        rcases hz with hz | hz
        · have hz' : (N : Int) = 0 := by omega
          go_quiet (fail)
          go_wp2
          go_ret2
          exact ⟨_, ret_vi (by rw [hTT.out]), by rw [hTT.out]; exact Own.nil _ _ _ _, below_drewN hb1.out _⟩
        · have hz' : 4096 < (N : Int) := by omega
          go_quiet (fail)
          go_wp2
          go_ret2
          exact ⟨_, ret_vi (by rw [hTT.out]), by rw [hTT.out]; exact Own.nil _ _ _ _, below_drewN hb1.out _⟩
      · have hz1 : 0 < (N : Int) := by omega
        have hz2 : (N : Int) ≤ 4096 := by omega
        have hz3 : ¬ (N : Int) = 0 := by omega
        have hz4 : ((N : Int) == 0) = false := by simp; omega
        have hz5 : decide ((4096 : Int) < (N : Int)) = false := by simp; omega
        have HT2 := HT.out
        rw [takeT_two, ← hN, if_neg hz] at HT2
        clear HT hz hN
        have H1 := Lib.hid h1; clear h1
        go_quiet (fail)
        by_cases h4 : t.length < 4
        · rw [if_pos (by omega), joinT_err _ _ (by decide)] at HT2
          have hTT := Lib.hid HT2; clear HT2
          by_cases h5 : t.length < N
          · go_wp2_with (first | (go_at_call 67; (with_reducible refine (cut_no w _ _ _ _ 4 4 rfl (H1.out.below (below_drewN (Below.refl _ _) _)) h4 (by omega)).mono ?_); rintro e w2 ⟨rfl, h2⟩) | (go_at_call 67; (with_reducible refine (cut_no w _ _ _ _ _ N rfl h2 h5 (by omega)).mono ?_); rintro e w3 ⟨rfl, h3⟩))
            go_ret2
            exact ⟨_, ret_vi (by rw [hTT.out]), by rw [hTT.out]; exact Own.nil _ _ _ _, h3.bel⟩
          · go_wp2_with (first | (go_at_call 67; (with_reducible refine (cut_no w _ _ _ _ 4 4 rfl (H1.out.below (below_drewN (Below.refl _ _) _)) h4 (by omega)).mono ?_); rintro e w2 ⟨rfl, h2⟩) | (go_at_call 67; (with_reducible refine (cut_yes w _ _ _ _ _ N rfl h2 (by omega) (by omega)).mono ?_); rintro e w3 ⟨rfl, h3⟩))
            go_ret2
            exact ⟨_, ret_vi (by rw [hTT.out]), by rw [hTT.out]; exact Own.nil _ _ _ _, h3.bel⟩
        · by_cases h5 : t.length < 4 + N
          · rw [if_pos h5, joinT_err _ _ (by decide)] at HT2
            have hTT := Lib.hid HT2; clear HT2
            go_wp2_with (first | (go_at_call 67; (with_reducible refine (cut_yes w _ _ _ _ 4 4 rfl (H1.out.below (below_drewN (Below.refl _ _) _)) (by omega) (by omega)).mono ?_); rintro e w2 ⟨rfl, h2⟩) | (go_at_call 67; (with_reducible refine (cut_no w _ _ _ _ _ N rfl h2 (by rw [List.length_drop]; omega) (by rw [List.length_drop]; omega)).mono ?_); rintro e w3 ⟨rfl, h3⟩))
            go_ret2
            exact ⟨_, ret_vi (by rw [hTT.out]), by rw [hTT.out]; exact Own.nil _ _ _ _, h3.bel⟩
          · rw [if_neg h5] at HT2
            obtain ⟨P, hP⟩ : ∃ P, mkS (t.take 4) = P := ⟨_, rfl⟩
            obtain ⟨R, hR⟩ : ∃ R, mkS ((t.drop 4).take N) = R := ⟨_, rfl⟩
            obtain ⟨t', ht'⟩ : ∃ t', t.drop (4 + N) = t' := ⟨_, rfl⟩
            have hd : (t.drop 4).drop N = t' := by rw [List.drop_drop, ht']
            obtain ⟨X, hX⟩ : ∃ X, sumB (bl R) = X := ⟨_, rfl⟩
            obtain ⟨o, ho⟩ : ∃ o, octS X = o := ⟨_, rfl⟩
            have hRl : R.size ≤ 4096 := by rw [← hR, mkS_size, List.length_take]; omega
            have ht'l : t'.length + 6 ≤ t.length + 2 := by rw [← ht', List.length_drop]; omega
            have CS : Hid (∀ W0, Calls Try.prog 19 #[.string R] W0 fun e w' => e = .returned (.int .u32 (W X)) ∧ W0 = w') := Lib.hid fun W0 => by rw [← hX]; exact sum_any R W0 (by omega)
            have CO : Hid (∀ W0, Calls Try.prog 23 #[.int .u32 (W X)] W0 fun e w' => e = .returned (.string o) ∧ Below W0.heap.size W0 w') := Lib.hid fun W0 => by rw [← ho]; exact octets_any X W0
            rw [ht', show (⟨((t.drop 4).take N).toArray⟩ : ByteArray) = R from hR] at HT2
            have hRb : (t.drop 4).take N = bl R := by rw [← hR, bl_mkS]
            rw [hRb, hX] at HT2
            have hPb : t.take 4 = bl P := by rw [← hP, bl_mkS]
            rw [hPb] at HT2
            have hob : bl o = octetsB X := by rw [← ho]; rfl
            clear hX ho hRb hPb
            by_cases hcmp : P = o
            · have hc1 := str_eq hcmp
              rw [if_pos (by rw [hcmp, hob]), joinT_joinT] at HT2
              have hTT := Lib.hid HT2; clear HT2 hob hcmp
              go_wp2_with (first | (go_at_call 67; (with_reducible refine (cut_yes w _ _ _ _ 4 4 rfl (H1.out.below (below_drewN (Below.refl _ _) _)) (by omega) (by omega)).mono ?_); rw [hP]; rintro e w2 ⟨rfl, h2⟩) | (go_at_call 67; (with_reducible refine (cut_yes w _ _ _ _ _ N rfl h2 (by rw [List.length_drop]; omega) (by rw [List.length_drop]; omega)).mono ?_); rw [hR, hd]; rintro e w3 ⟨rfl, h3⟩) | (go_at_call 19; (with_reducible refine (CS.out _).mono ?_); rintro e w4 ⟨rfl, rfl⟩) | (go_at_call 23; (with_reducible refine (CO.out _).mono ?_); rintro e w5 ⟨rfl, h5⟩; have h6 := h3.below h5) | (at_builtin; refine append_one Value.string (w.heap.size + 1) rfl (.tmp 61) (.tmp 63) 44 9 (.string ByteArray.empty) 16 rfl Try.underlying44 info_string rfl (by decide) _ _ _ rfl rfl rfl h6.own (Below.refl _ _) h6.sz (by omega) ?_; intro v1 w7 hown1 hbel1))
              go_roundg t'.length
              case measure => omega
              case rel => exact ⟨out ++ [R], t', by omega, by simp; omega, hTT, Lib.hid (h6.app hown1 hbel1)⟩
            · have hc1 := str_ne hcmp
              rw [if_neg (by intro h; exact hcmp (bl_inj (h.trans hob.symm))), joinT_err _ _ (by decide)] at HT2
              have hTT := Lib.hid HT2; clear HT2 hob hcmp
              go_wp2_with (first | (go_at_call 67; (with_reducible refine (cut_yes w _ _ _ _ 4 4 rfl (H1.out.below (below_drewN (Below.refl _ _) _)) (by omega) (by omega)).mono ?_); rw [hP]; rintro e w2 ⟨rfl, h2⟩) | (go_at_call 67; (with_reducible refine (cut_yes w _ _ _ _ _ N rfl h2 (by rw [List.length_drop]; omega) (by rw [List.length_drop]; omega)).mono ?_); rw [hR, hd]; rintro e w3 ⟨rfl, h3⟩) | (go_at_call 19; (with_reducible refine (CS.out _).mono ?_); rintro e w4 ⟨rfl, rfl⟩) | (go_at_call 23; (with_reducible refine (CO.out _).mono ?_); rintro e w5 ⟨rfl, h5⟩; have h6 := h3.below h5))
              go_ret2
              exact ⟨_, ret_vi (by rw [hTT.out]), by rw [hTT.out]; exact Own.nil _ _ _ _, h6.bel⟩
end Go.Proofs.Ytmmajdkngboecaa
