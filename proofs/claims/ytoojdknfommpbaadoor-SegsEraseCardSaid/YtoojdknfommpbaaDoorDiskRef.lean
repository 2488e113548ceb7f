/- The walks of the document's disk: its operations. -/
import Derived.Test.YtoojdknfommpbaaDoorDiskCopy
import Derived.RegionCalls
import Derived.Deep.RegionWith
import Derived.BigRegion
namespace Go.Proofs.YtoojdknfommpbaaDoor
open Go.RowKit
set_option maxRecDepth 10000

theorem rop_any (t : TypeId) (w : World) (b : Nat) (left done : Nat) (sv wv : Value) (h : Five t w b sv wv (.int .i64 left) (.int .i64 done) (.bool false)) (hl : left ≤ 9223372036854775807) (hd : done ≤ 1000000) :
    Calls Tryd.prog 115 #[.pointer (some ⟨b, 0, none⟩)] w fun e w' => e = .returned (.bool (!decide (left = 1))) ∧
      Five t w' b sv wv (.int .i64 ((left - 1 : Nat) : Int)) (.int .i64 ((done + 1 : Nat) : Int)) (.bool (decide (left = 1))) ∧ Tou (fun k => k = b) w w' := by
  have c2 := h.c2
  have c3 := h.c3
  have c4 := h.c4
  have f2 := h.fz 2
  have f3 := h.fz 3
  have f4 := h.fz 4
  have H1 := Lib.hid (h.s3 (.int .i64 ((done : Int) + 1)))
  have T1 := Lib.hid ((Tou.refl (fun k => k = b) w).set (.inl rfl) 3 (.int .i64 ((done : Int) + 1)))
  clear h
  rcases (show left = 0 ∨ left = 1 ∨ 2 ≤ left by omega) with rfl | rfl | hl2
  · go_enter Tryd.func115, Tryd.ntmps115
    go_wp2
    go_ret
    exact ⟨rfl, H1.out, T1.out⟩
  · have H2 := Lib.hid ((H1.out.s2 (.int .i64 0)).s4 (.bool true))
    have T2 := Lib.hid ((T1.out.set (.inl rfl) 2 (.int .i64 0)).set (.inl rfl) 4 (.bool true))
    go_enter Tryd.func115, Tryd.ntmps115
    go_wp2
    go_ret
    exact ⟨rfl, H2.out, T2.out⟩
  · have H2 := Lib.hid ((H1.out.s2 (.int .i64 ((left : Int) - 1))).s4 (.bool false))
    have T2 := Lib.hid ((T1.out.set (.inl rfl) 2 (.int .i64 ((left : Int) - 1))).set (.inl rfl) 4 (.bool false))
    have hl3 : 2 ≤ (left : Int) := by omega
    have hl4 : (left : Int) ≤ 9223372036854775807 := by omega
    have hl5 : ((left : Int) - 1 == 0) = false := by simp; omega
    have hl6 : ¬ ((left : Int) - 1 = 0) := by omega
    have E1 : Hid (decide (left = 1) = false) := Lib.hid (by simp; omega)
    have E2 : Hid (((left - 1 : Nat) : Int) = (left : Int) - 1) := Lib.hid (by omega)
    go_enter Tryd.func115, Tryd.ntmps115
    go_wp2
    go_ret
    exact ⟨by rw [E1.out]; rfl, by rw [E1.out, E2.out]; exact H2.out, T2.out⟩
theorem rfuse_any (t : TypeId) (w : World) (b : Nat) (x0 x1 x2 x3 x4 : Value) (n : Int) (h : Five t w b x0 x1 x2 x3 x4) (hn0 : -9223372036854775808 ≤ n) (hn1 : n ≤ 9223372036854775807) :
    Calls Tryd.prog 49 #[.pointer (some ⟨b, 0, none⟩), .int .i64 n] w fun e w' => e = .returned (.tuple #[]) ∧ Five t w' b x0 x1 (.int .i64 (n.toNat : Int)) x3 x4 ∧ Tou (fun k => k = b) w w' := by
  have c2 := h.c2
  have f2 := h.fz 2
  have H1 := Lib.hid (h.s2 (.int .i64 (n.toNat : Int)))
  have T1 := Lib.hid ((Tou.refl (fun k => k = b) w).set (.inl rfl) 2 (.int .i64 (n.toNat : Int)))
  clear h
  rcases (show n < 0 ∨ 0 ≤ n by omega) with hn | hn
  · have e : (n.toNat : Int) = 0 := by omega
    rw [e] at H1 T1
    go_enter Tryd.func49, Tryd.ntmps49
    go_wp2
    go_end0
    exact ⟨rfl, by rw [e]; exact H1.out, T1.out⟩
  · have e : (n.toNat : Int) = n := by omega
    rw [e] at H1 T1
    go_enter Tryd.func49, Tryd.ntmps49
    go_wp2
    go_end0
    exact ⟨rfl, by rw [e]; exact H1.out, T1.out⟩
theorem with_any (w : World) (v : Value) (L : List ByteArray) (i : Nat) (y : ByteArray) (h : w.ownsRow 0 9 1 v L.length (L.map Value.string)) (hi : i < L.length) (hL : L.length ≤ 512) :
    Calls Tryd.prog 116 #[v, .int .i64 (i : Int), .string y] w fun e w' => ∃ v', e = .returned v' ∧ w'.ownsRow w.heap.size 9 1 v' L.length ((L.set i y).map Value.string) ∧ Below w.heap.size w w' := by
  obtain ⟨g, c, rfl, _⟩ := World.ownsRow.form h (by omega)
  have HC := Lib.hid (show ∀ j u, (L.map Value.string)[j]? = some u → w.cell? ((⟨g, 0, none⟩ : Addr).add j) = some u from h.cells rfl)
  have hiI : (i : Int) < (L.length : Int) := by omega
  have h1 : ∀ u ∈ L.map Value.string, u.oneCell' = true := by intro u hu; obtain ⟨y, _, rfl⟩ := List.mem_map.1 hu; rfl
  have HH := Lib.hid h1
  clear h1 h
  obtain ⟨i0, hi0, hz0, hz1, hz2⟩ := info_parts info_str
  have HI := Lib.hid hi0
  clear hi0
  go_enter Tryd.func116, Tryd.ntmps116
  go_wp2_with (at_builtin; refine wpList_append_own_at w rfl (.tmp 8) (.tmp 9) 30 rfl w.heap.size 9 i0 (.string ByteArray.empty) 1 16 Tryd.underlying30 HI.out hz0 hz1 hz2 rfl (by decide) (.slice none 0 0) 0 [] rfl (World.ownsRow_nil _ _ _ _) ⟨g, 0, none⟩ L.length c (L.map Value.string) rfl (by simp) HC.out HH.out (by simp only [maxLen]; omega) (by omega) (Nat.le_refl _) ?_; intro v1 w1 hown hgrow _ _; rw [List.nil_append, Nat.zero_add] at hown; obtain ⟨g1, c1, rfl, _, _⟩ := World.ownsRow.form hown (by omega); have hc1 := own_at hown i _ (getElem?_secs _ i hi); have hf1 := own_fz hown (g := g1) rfl i; have HO := Lib.hid (own_set hown rfl i (.string y)); have HB : Hid (Below w.heap.size w (w1.setCell ⟨g1, i, none⟩ (.string y))) := Lib.hid ((grown_below (v := .slice none 0 0) (Below.refl _ _) hgrow (by simp [Value.ownBlock])).setCell (p := ⟨g1, i, none⟩) (World.ownsRow.lt hown g1 rfl).1 _); clear hown hgrow)
  go_ret
  exact ⟨_, rfl, HO.out, HB.out⟩
theorem rread_any (w : World) (b : Nat) (s : St) (sv wv : Value) (at_ : Int) (h : RefAt w b s sv wv) (hok : s.ok 1000000) (ha0 : -9223372036854775808 ≤ at_) (ha1 : at_ ≤ 9223372036854775807) :
    Calls Tryd.prog 95 #[.pointer (some ⟨b, 0, none⟩), .int .i64 at_] w fun e w' => e = .returned (.tuple #[.string (s.read at_).1, .int .i64 (s.read at_).2]) ∧ w = w' := by
  have hlen : s.sec.length ≤ 512 := hok.most
  have hlen2 : 2 ≤ s.sec.length := hok.two
  obtain ⟨g1, c1, rfl, _, hg1⟩ := World.ownsRow.form h.rows.sec (by omega)
  obtain ⟨A2, c2, rfl, _⟩ := sl_form h.rows.wai
  have c0 := h.five.c0
  have c1' := h.five.c1
  have c4 := h.five.c4
  have HD := Lib.hid h
  have hwf := hok.few
  have hsI : (s.sec.length : Int) ≤ 512 := by omega
  have hwI : (s.waits.length : Int) ≤ 1000000 := by omega
  have HW : Hid (∃ r : ByteArray × Int, r = s.read at_) := Lib.hid ⟨_, rfl⟩
  obtain ⟨r, hr⟩ := HW.out
  rw [← hr]
  unfold St.read at hr
  clear HW h
  by_cases hd : s.dead = true
  · rw [if_pos hd] at hr
    subst hr
    go_enter Tryd.func95, Tryd.ntmps95
    go_wp2
    go_ret2
    exact ⟨rfl, rfl⟩
  · rw [if_neg hd] at hr
    have hd' : s.dead = false := by simpa using hd
    by_cases hr1 : at_ < 0
    · rw [if_pos (.inl hr1)] at hr
      subst hr
      go_enter Tryd.func95, Tryd.ntmps95
      go_wp2
      go_ret2
      exact ⟨rfl, rfl⟩
    · by_cases hr2 : (s.sec.length : Int) ≤ at_
      · rw [if_pos (.inr hr2)] at hr
        subst hr
        go_enter Tryd.func95, Tryd.ntmps95
        go_wp2
        go_ret2
        exact ⟨rfl, rfl⟩
      · rw [if_neg (by omega)] at hr
        have hr3 : 0 ≤ at_ := by omega
        have hr4 : at_ < (s.sec.length : Int) := by omega
        obtain ⟨a, rfl⟩ : ∃ a : Nat, at_ = a := ⟨at_.toNat, by omega⟩
        have haL : a < s.sec.length := by omega
        have hcs := own_at HD.out.rows.sec a _ (getElem?_secs _ a haL)
        rw [Int.toNat_natCast, List.getD_eq_getElem?_getD, List.getElem?_eq_getElem haL] at hr
        obtain ⟨s0, hs0⟩ : ∃ s0, s.sec[a] = s0 := ⟨_, rfl⟩
        rw [hs0] at hr hcs
        clear hs0
        have HR := Lib.hid hr
        clear hr
        go_enter Tryd.func95, Tryd.ntmps95
        go_wp2
        go_loop [6, 7] (fun v i => ∃ k : Nat, k ≤ s.waits.length ∧ i = .int .i64 k ∧ v = .string (lastD a s0 (s.waits.take k))) (fun _ i => s.waits.length - (intOf i).toNat)
        case atStart => exact ⟨0, by omega, rfl, rfl⟩
        case round =>
          obtain ⟨k, hk, rfl, rfl⟩ := hrel
          by_cases hlt : k < s.waits.length
          · obtain ⟨g2, rfl⟩ : ∃ g2, A2 = some ⟨g2, 0, none⟩ := by
              obtain ⟨g, c, he, _⟩ := World.ownsRow.form HD.out.rows.wai (by omega)
              simp only [Value.slice.injEq] at he
              exact ⟨g, he.1⟩
            have q0 := own_at HD.out.rows.wai (k * 2) _ (by rw [Nat.mul_comm]; exact (wcells_at s.waits k hlt).1)
            have q1 := own_at HD.out.rows.wai (k * 2 + 1) _ (by rw [Nat.mul_comm]; exact (wcells_at s.waits k hlt).2)
            have hkI : (k : Int) < (s.waits.length : Int) := by omega
            have HS : Hid (lastD a s0 (s.waits.take (k + 1)) = if (s.waits[k].1 : Int) = a then s.waits[k].2 else lastD a s0 (s.waits.take k)) := Lib.hid (by rw [take_succ' _ _ hlt, lastD_snoc])
            obtain ⟨x, hxe⟩ : ∃ x, s.waits[k] = x := ⟨_, rfl⟩
            rw [hxe] at q0 q1 HS
            clear hxe
            by_cases he : x.1 = a
            · have HS2 : Hid (lastD a s0 (s.waits.take (k + 1)) = x.2) := Lib.hid (by rw [HS.out, if_pos (by omega)])
              subst he
              go_wp2
              go_round
              case measure => simp [intOf]; omega
              case rel => exact ⟨k + 1, by omega, by go_num, by rw [HS2.out]⟩
            · have HS2 : Hid (lastD a s0 (s.waits.take (k + 1)) = lastD a s0 (s.waits.take k)) := Lib.hid (by rw [HS.out, if_neg (by omega)])
              have heB : ((x.1 : Int) == (a : Int)) = false := by simp; omega
              go_wp2
              go_round
              case measure => simp [intOf]; omega
              case rel => exact ⟨k + 1, by omega, by go_num, by rw [HS2.out]⟩
          · obtain rfl : k = s.waits.length := by omega
            rw [List.take_length]
            go_wp2
            go_ret2
            exact ⟨by rw [HR.out]; rfl, rfl⟩
theorem rwrite_any (w : World) (b : Nat) (s : St) (sv wv : Value) (at_ : Int) (x : ByteArray) (h : RefAt w b s sv wv) (hok : s.ok 1000000) (hleft : s.left ≤ 9223372036854775807) (ha0 : -9223372036854775808 ≤ at_) (ha1 : at_ ≤ 9223372036854775807) :
    Calls Tryd.prog 92 #[.pointer (some ⟨b, 0, none⟩), .int .i64 at_, .string x] w fun e w' => e = .returned (.int .i64 (s.write at_ x).2) ∧ RStep w b sv wv (s.write at_ x).1 w' := by
  have hlen : s.sec.length ≤ 512 := hok.most
  have hlen2 : 2 ≤ s.sec.length := hok.two
  have hf := h.five
  obtain ⟨g1, c1, rfl, _, hg1⟩ := World.ownsRow.form h.rows.sec (by omega)
  have HS := Lib.hid h.same
  have c0 := hf.c0
  have c4 := hf.c4
  have HD := Lib.hid h
  have HW : Hid (∃ r : St × Int, r = s.write at_ x) := Lib.hid ⟨_, rfl⟩
  obtain ⟨r, hr⟩ := HW.out
  rw [← hr]
  unfold St.write at hr
  clear HW h
  by_cases hd : s.dead = true
  · rw [if_pos hd] at hr
    subst hr
    clear hf
    go_enter Tryd.func92, Tryd.ntmps92
    go_wp2
    go_ret
    exact ⟨rfl, HS.out⟩
  · rw [if_neg hd] at hr
    have hd' : s.dead = false := by simpa using hd
    have hsI : (s.sec.length : Int) ≤ 512 := by omega
    rw [hd'] at hf c4
    have hdone := hok.ops
    have hfew := hok.few
    have hfw := HD.out.rows.fw
    have HB := Lib.hid (rop_any _ w b s.left s.done _ wv hf hleft hdone)
    have hlt := hf.lt
    clear hf
    by_cases hr1 : at_ < 0
    · rw [if_pos (.inl hr1)] at hr
      subst hr
      go_enter Tryd.func92, Tryd.ntmps92
      go_wp2
      go_ret
      exact ⟨rfl, HS.out⟩
    · by_cases hr2 : (s.sec.length : Int) ≤ at_
      · rw [if_pos (.inr hr2)] at hr
        subst hr
        go_enter Tryd.func92, Tryd.ntmps92
        go_wp2
        go_ret
        exact ⟨rfl, HS.out⟩
      · rw [if_neg (by omega)] at hr
        have hr3 : 0 ≤ at_ := by omega
        have hr4 : at_ < (s.sec.length : Int) := by omega
        by_cases hx1 : x.size ≠ 128
        · rw [if_pos hx1] at hr
          subst hr
          have hx2 : ¬ ((x.size : Int) = 128) := by omega
          have hx3 : ((x.size : Int) != 128) = true := by simp; omega
          go_enter Tryd.func92, Tryd.ntmps92
          go_wp2
          go_ret
          exact ⟨rfl, HS.out⟩
        · rw [if_neg hx1] at hr
          have hx2 : (x.size : Int) = 128 := by omega
          obtain ⟨a, rfl⟩ : ∃ a : Nat, at_ = a := ⟨at_.toNat, by omega⟩
          have hop : s.op.dead = decide (s.left = 1) := by unfold St.op; rw [hd']; simp
          rw [hop] at hr
          by_cases hl1 : s.left = 1
          · rw [decide_eq_true hl1] at hr HB
            rw [if_pos rfl] at hr
            subst hr
            go_enter Tryd.func92, Tryd.ntmps92
            go_wp2_with (go_at_call 115; (with_reducible refine HB.out.mono ?_); rintro e w2 ⟨rfl, hf2, ht2⟩)
            go_ret
            exact ⟨rfl, _, wv, ⟨by unfold St.op; rw [hl1, hd'] at *; exact hf2, (HD.out.rows.five ht2).of_eq rfl rfl⟩, fun _ hk => .inl hk, ht2.mono fun k _ hk => .inl hk⟩
          · rw [decide_eq_false hl1] at hr HB
            rw [if_neg (by decide)] at hr
            subst hr
            go_enter Tryd.func92, Tryd.ntmps92
            go_wp2_with (first | (go_at_call 115; (with_reducible refine HB.out.mono ?_); rintro e w2 ⟨rfl, hf2, ht2⟩; have c1 := hf2.c1) | (at_builtin; go_loud (refine append_two rfl (.tmp 32) (.tmp 36) 75 119 _ 24 rfl Tryd.underlying75 info_write rfl (by decide) wv _ _ _ _ rfl rfl rfl rfl (HD.out.rows.five ht2).wai (by omega) ?_; intro v1 w3 hown3 hfr3 ht3; obtain ⟨A1, c1, rfl, _⟩ := sl_form hown3; have hf3 := hf2.block (ht3.block _ hf2.lt hfw); have c5 := hf3.c1; have f5 := hf3.fz 1)))
            go_ret
            obtain ⟨k1, k2, k3⟩ := rows_append HD.out.rows hlt ht2 ht3 a x hown3 hfr3 1
            exact ⟨rfl, _, _, ⟨by unfold St.op; rw [hd']; simp [hl1]; exact hf3.s1 _, k1.of_eq rfl (by simp)⟩, k2, k3⟩
end Go.Proofs.YtoojdknfommpbaaDoor
