/- The law SegsErase: the walk. -/
import Derived.Test.YtoojdknfommpbaaDoorEraBoth
namespace Go.Proofs.YtoojdknfommpbaaDoor
open Go.RowKit
set_option maxRecDepth 10000

/-- The first k sectors' texts. -/
def readsL (s : St) (k : Nat) : List ByteArray := (List.range k).map s.val
theorem readsL_succ (s : St) (k : Nat) : readsL s (k + 1) = readsL s k ++ [s.val k] := by unfold readsL; rw [List.range_succ, List.map_append]; rfl
theorem readsL_length (s : St) (k : Nat) : (readsL s k).length = k := by unfold readsL; simp
/-- Texts that were read, in a row of their own. -/
def RdIn (W0 W : World) (s : St) (k : Nat) (v : Value) : Prop := Own Value.string 9 W0.heap.size W v (readsL s k) ∧ Below W0.heap.size W0 W
theorem RdIn.below {W0 W W' : World} {s : St} {k : Nat} {v : Value} (h : RdIn W0 W s k v) (hb : Below W.heap.size W W') : RdIn W0 W' s k v :=
  ⟨own_block h.1 fun j hj => hb.block j (World.ownsRow.lt h.1 j hj).2, h.2.trans (hb.mono h.2.size)⟩
theorem RdIn.done {w W0 W : World} {b1 b2 : Nat} {s : St} {p1 q1 p2 q2 v : Value} (hB : Both w W0 b1 b2 s p1 q1 p2 q2) (h : RdIn W0 W s 18 v) :
    ∃ g c, v = .slice (some ⟨g, 0, none⟩) 18 c ∧ ErB w W b1 b2 s g s.val p1 q1 p2 q2 := by
  obtain ⟨ho, hb⟩ := h
  have ho2 : W.ownsRow W0.heap.size 9 1 v (readsL s 18).length ((readsL s 18).map Value.string) := ho
  rw [readsL_length] at ho2
  obtain ⟨g, c, rfl, _, _⟩ := World.ownsRow.form ho2 (by omega)
  have hlt := World.ownsRow.lt ho2 g rfl
  refine ⟨g, c, rfl, hB.below hb, fun hf => ?_, fun hf => ?_, fun i hi => ?_⟩
  · have := hB.d.lt g hf; omega
  · have := hB.r.lt g hf; omega
  · refine own_at ho2 i _ ?_
    rw [List.getElem?_map]
    unfold readsL
    rw [List.getElem?_map, List.getElem?_range hi]; rfl
set_option maxHeartbeats 8000000 in
theorem segsErase_walk (v : Value) (l : List Ac) (u : Value) (m : List Int) (f : Int) (w : World) (hl : ActsAt w v l ∧ (∀ a ∈ l, a.ok ∧ a.keep.length ≤ maxLen) ∧ l.length ≤ maxLen)
    (hm : Sl (Value.int .i64) w u m ∧ (∀ x ∈ m, -9223372036854775808 ≤ x ∧ x ≤ 9223372036854775807) ∧ m.length ≤ maxLen) (hf : (Lit.int .u8 f).wf = true) :
    Calls Tryd.prog 11 #[v, u, .int .u8 f] w fun e w' => e = .returned (.bool true) ∧ Below w.heap.size w w' := by
  obtain ⟨hs, hfit, hlm⟩ := hl
  obtain ⟨hsm, hfm, hmm⟩ := hm
  unfold maxLen at hlm hfit hmm
  have HF := Lib.hid (few_any v l 12 w hs hlm (fun a ha => (hfit a ha).2) (by omega))
  have HAw := Lib.hid segs_awake
  have HA := Lib.hid hs
  have HM := Lib.hid hsm
  have HFm := Lib.hid hfm
  have HFit := Lib.hid hfit
  obtain ⟨A, c, rfl, _⟩ := hs
  obtain ⟨A', c', rfl, _⟩ := hsm
  have hlI : (l.length : Int) ≤ 9223372036854775807 := by omega
  have hmI : (m.length : Int) ≤ 9223372036854775807 := by omega
  have hf0 : 0 ≤ f ∧ f < 256 := by
    exact wf_u8 hf
  obtain ⟨hf0, hf1⟩ := hf0
  clear hfit hfm hf
  obtain ⟨fb, hfb⟩ : ∃ fb, fewB l 12 = fb := ⟨_, rfl⟩
  rw [hfb] at HF
  have HFb := Lib.hid hfb
  clear hfb
  have HF2 : Hid (Calls Tryd.prog 39 #[.slice A l.length c, .int .i64 12] w fun e w' => e = .returned (.bool fb) ∧ w = w') := HF
  clear HF
  cases fb
  · go_enter Tryd.func11, Tryd.ntmps11
    go_wp2_with (first | (go_at_call 39; (with_reducible refine HF2.out.mono ?_); rintro e w2 ⟨rfl, rfl⟩) | (go_at_call 40; (with_reducible refine (HAw.out _).mono ?_); rintro e w2 ⟨rfl, hb2⟩))
    go_ret
    exact ⟨rfl, hb2⟩
  · obtain ⟨hl12, hkeep⟩ := fewB_true HFb.out
    have HKp := Lib.hid hkeep
    clear hkeep
    by_cases hm20 : 20 < m.length
    · have hm20I : (20 : Int) < (m.length : Int) := by omega
      go_enter Tryd.func11, Tryd.ntmps11
      go_wp2_with (first | (go_at_call 39; (with_reducible refine HF2.out.mono ?_); rintro e w2 ⟨rfl, rfl⟩) | (go_at_call 40; (with_reducible refine (HAw.out _).mono ?_); rintro e w2 ⟨rfl, hb2⟩))
      go_ret
      exact ⟨rfl, hb2⟩
    · have hm20I : (m.length : Int) ≤ 20 := by omega
      have HN : Hid (Calls Tryd.prog 41 #[.int .i64 18] w (NewDisk w (newSt 18))) := Lib.hid (new_any 18 w (by omega) (by omega))
      have HR : Hid (∀ W, Calls Tryd.prog 42 #[.int .i64 18] W (NewRef W (newSt 18))) := Lib.hid fun W => rnew_any 18 W (by omega) (by omega)
      go_enter Tryd.func11, Tryd.ntmps11
      go_wp2_with (first | (go_at_call 39; (with_reducible refine HF2.out.mono ?_); rintro e w2 ⟨rfl, rfl⟩) | (go_at_call 41; (with_reducible refine HN.out.mono ?_); rintro e w2 ⟨b1, sv1, wv1, rfl, hd1, hf1, hb1⟩) | (go_at_call 42; (with_reducible refine (HR.out _).mono ?_); rintro e w3 ⟨b2, sv2, wv2, rfl, hd2, hf2, hb2⟩))
      have HB0 : Hid (Both w w3 b1 b2 (newSt 18) sv1 wv1 sv2 wv2) := Lib.hid ⟨hd1.bel hb2, hd2, fun k hk hk2 => by have := hd1.lt k hk; have := hf2 k hk2; omega, hf1, fun k hk => Nat.le_trans hb1.size (hf2 k hk), below_next hb1 hb2⟩
      clear hd1 hd2 hf1 hf2 hb1 hb2
      go_loopw [11] (fun i W => ∃ k : Nat, k ≤ l.length ∧ i = .int .i64 k ∧ Hid (∃ s p1 q1 p2 q2, Both w W b1 b2 s p1 q1 p2 q2 ∧ s.good (k + 10) ∧ s.dead = false ∧ s.left = 0 ∧ s.sec.length = 18)) (fun i _ => l.length - (intOf i).toNat)
      case atStart => exact ⟨0, by omega, rfl, Lib.hid ⟨newSt 18, sv1, wv1, sv2, wv2, HB0.out, ⟨newSt_ok 18 _ (by omega) (by omega), by simp [newSt]⟩, rfl, rfl, by simp [newSt]⟩⟩
      case round =>
        obtain ⟨k, hk, rfl, HE⟩ := hrel
        obtain ⟨s, p1, q1, p2, q2, hB, hok, hdead, hleft, hsl⟩ := HE.out
        have HB := Lib.hid hB
        clear HE hB HB0
        by_cases hlt : k < l.length
        · have hltI : (k : Int) < (l.length : Int) := by omega
          have AC := Lib.hid (actCalls HB.out (hok.mono (by omega)))
          obtain ⟨A2, c2, hv', hcells⟩ := HA.out
          cases hv'
          obtain ⟨bk, off, kv, rfl, y0, y1, y2, y3, y4, hkv⟩ := hcells k hlt
          clear hcells
          have haok := (HFit.out _ (List.getElem_mem hlt)).1
          have hak := HKp.out _ (List.getElem_mem hlt)
          obtain ⟨a, hae⟩ : ∃ a, l[k] = a := ⟨_, rfl⟩
          rw [hae] at y0 y1 y2 y3 hkv haok hak
          clear hae
          have HCells : Hid (∀ W2, Below w.heap.size w W2 → W2.cell? ⟨bk, off + k * 5, none⟩ = some (.int .i64 a.kind) ∧ W2.cell? ⟨bk, off + k * 5 + 1, none⟩ = some (.int .i64 a.at_) ∧ W2.cell? ⟨bk, off + k * 5 + 2, none⟩ = some (.int .u8 a.fill) ∧ W2.cell? ⟨bk, off + k * 5 + 3, none⟩ = some (.int .i64 a.size) ∧ W2.cell? ⟨bk, off + k * 5 + 4, none⟩ = some kv) := Lib.hid fun W2 hb =>
            ⟨cell_below hb y0, cell_below hb y1, cell_below hb y2, cell_below hb y3, cell_below hb y4⟩
          clear y0 y1 y2 y3 y4
          have HDB : Hid (∀ s' W2, DStep _ b1 p1 q1 s' W2 → Below w.heap.size w W2) := Lib.hid fun s' W2 hs => HB.out.bel.trans (hs.tou.below HB.out.bel.size HB.out.f1)
          have Wr : Hid (∀ W', Below _ _ W' → _) := Lib.hid fun W' hb => AC.out.write W' a haok hb
          have Fl := Lib.hid AC.out.flush
          have Do : Hid (∀ W2, DStep _ b1 p1 q1 (s.act a).1 W2 → _) := Lib.hid fun W2 hs => AC.out.rdo W2 a kv haok hkv hak hs
          have hkvf : ∃ A n c, kv = .slice A n c := by obtain ⟨A, c, h, _⟩ := hkv; exact ⟨_, _, _, h⟩
          have Da := Lib.hid fun W => data_any a kv hkvf haok W
          have HNx : Hid (∀ s' W2 W3, DStep _ b1 p1 q1 s' W2 → RStep W2 b2 p2 q2 s' W3 → ∃ p1' q1' p2' q2', Both w W3 b1 b2 s' p1' q1' p2' q2') := Lib.hid fun s' W2 W3 h1 h2 => HB.out.step h1 h2
          have HOK := Lib.hid hok
          have HW1 : Hid ((s.write a.at_ a.data).1.dead = false ∧ (s.write a.at_ a.data).1.left = 0 ∧ (s.write a.at_ a.data).1.sec.length = 18 ∧ (s.write a.at_ a.data).1.good (k + 1 + 10)) :=
            Lib.hid ⟨(write_alive hdead hleft _ _).1, (write_alive hdead hleft _ _).2, by rw [write_secs]; exact hsl, (hok.write _ _).mono (by omega)⟩
          have HF1 : Hid (s.flush.1.dead = false ∧ s.flush.1.left = 0 ∧ s.flush.1.sec.length = 18 ∧ s.flush.1.good (k + 1 + 10)) :=
            Lib.hid ⟨(flush_alive hdead hleft).1, (flush_alive hdead hleft).2, by rw [flush_secs]; exact hsl, hok.flush.mono (by omega)⟩
          have HS0 : Hid (s.dead = false ∧ s.left = 0 ∧ s.sec.length = 18 ∧ s.good (k + 1 + 10)) := Lib.hid ⟨hdead, hleft, hsl, hok.mono (by omega)⟩
          obtain ⟨y0, y1, y2, y3, y4⟩ := HCells.out _ HB.out.bel
          obtain ⟨D, hD⟩ : ∃ D, a.data = D := ⟨_, rfl⟩
          have hact : (a.kind = 1 → (s.act a).1 = (s.write a.at_ D).1) ∧ (a.kind = 2 → (s.act a).1 = s.flush.1) := by
            unfold St.act
            rw [hD]
            exact ⟨fun h => by rw [if_pos h], fun h => by rw [if_neg (by omega), if_pos h]⟩
          rw [hD] at Wr HW1 Da
          obtain ⟨sa, hsa⟩ : ∃ sa, (s.act a).1 = sa := ⟨_, rfl⟩
          rw [hsa] at hact Do
          have hk0 := haok.k0
          have hk1 := haok.k1
          clear hsa hD haok hkv hak AC hdead hleft hsl hok
          unfold Ac.cells at Da
          obtain ⟨kind, at_, fill, size, keep⟩ := a
          simp only at *
          by_cases e1 : kind = 1
          · subst e1
            obtain rfl := hact.1 rfl
            clear hact
            go_wp2
            have hx := HCells.out _ HB.out.bel
            have hbr := Below.refl wr.heap.size wr
            go_region_held3 (fun W' : World => W'.cell? ⟨bk, off + k * 5, none⟩ = some (.int .i64 1) ∧ W'.cell? ⟨bk, off + k * 5 + 1, none⟩ = some (.int .i64 at_) ∧ W'.cell? ⟨bk, off + k * 5 + 2, none⟩ = some (.int .u8 fill) ∧ W'.cell? ⟨bk, off + k * 5 + 3, none⟩ = some (.int .i64 size) ∧ W'.cell? ⟨bk, off + k * 5 + 4, none⟩ = some kv)
              (first | exact hx | exact x1 | exact x3)
              (first | (go_at_call 44; (with_reducible refine (Da.out _).mono ?_); rintro e w2 ⟨rfl, hb2⟩; have x1 := HCells.out _ (HB.out.bel.trans ((below_dr hb2).mono HB.out.bel.size))) | (go_at_call 43; (with_reducible refine (Wr.out _ (below_dr hb2)).mono ?_); rintro e w3 ⟨rfl, hs3⟩; have x3 := HCells.out _ (HDB.out _ _ hs3)))
            obtain ⟨z0, z1, z2, z3, z4⟩ := x3
            go_wp2_with (go_at_call 46; (with_reducible refine (Do.out _ hs3).mono ?_); rintro e w4 ⟨⟨X, r, rfl⟩, hr4⟩)
            go_roundw
            case measure => simp [intOf]; omega
            case rel =>
              obtain ⟨p1', q1', p2', q2', hB'⟩ := HNx.out _ _ _ hs3 hr4
              exact ⟨k + 1, by omega, by go_num, Lib.hid ⟨_, p1', q1', p2', q2', hB', HW1.out.2.2.2, HW1.out.1, HW1.out.2.1, HW1.out.2.2.1⟩⟩
          · have e1B : (kind == 1) = false := by simpa using e1
            by_cases e2 : kind = 2
            · subst e2
              obtain rfl := hact.2 rfl
              clear hact
              have FlC : Hid (Calls Tryd.prog 45 #[.pointer (some ⟨b1, 0, none⟩)] wr fun e w' => e = .returned (.int .i64 s.flush.2) ∧ DStep wr b1 p1 q1 s.flush.1 w' ∧ (w'.cell? ⟨bk, off + k * 5, none⟩ = some (.int .i64 2) ∧ w'.cell? ⟨bk, off + k * 5 + 1, none⟩ = some (.int .i64 at_) ∧ w'.cell? ⟨bk, off + k * 5 + 2, none⟩ = some (.int .u8 fill) ∧ w'.cell? ⟨bk, off + k * 5 + 3, none⟩ = some (.int .i64 size) ∧ w'.cell? ⟨bk, off + k * 5 + 4, none⟩ = some kv)) := Lib.hid (Fl.out.mono fun e w' ⟨h1, h2⟩ => ⟨h1, h2, HCells.out _ (HDB.out _ _ h2)⟩)
              go_wp2_with (first | (go_at_call 45; (with_reducible refine FlC.out.mono ?_); rintro e w3 ⟨rfl, hs3, z0, z1, z2, z3, z4⟩) | (go_at_call 46; (with_reducible refine (Do.out _ hs3).mono ?_); rintro e w4 ⟨⟨X, r, rfl⟩, hr4⟩))
              go_roundw
              case measure => simp [intOf]; omega
              case rel =>
                obtain ⟨p1', q1', p2', q2', hB'⟩ := HNx.out _ _ _ hs3 hr4
                exact ⟨k + 1, by omega, by go_num, Lib.hid ⟨_, p1', q1', p2', q2', hB', HF1.out.2.2.2, HF1.out.1, HF1.out.2.1, HF1.out.2.2.1⟩⟩
            · have e2B : (kind == 2) = false := by simpa using e2
              go_wp2
              go_roundw
              case measure => simp [intOf]; omega
              case rel => exact ⟨k + 1, by omega, by go_num, Lib.hid ⟨s, p1, q1, p2, q2, HB.out, HS0.out.2.2.2, HS0.out.1, HS0.out.2.1, HS0.out.2.2.1⟩⟩
        · obtain rfl : k = l.length := by omega
          have AC := Lib.hid (actCalls HB.out (hok.mono (by omega)))
          have HSf : Hid (s.dead = false ∧ s.left = 0 ∧ s.sec.length = 18 ∧ s.good 100) := Lib.hid ⟨hdead, hleft, hsl, hok.mono (by omega)⟩
          have Rd : Hid (∀ W' (i : Nat), i < 18 → Below wr.heap.size wr W' → Calls Tryd.prog 47 #[.pointer (some ⟨b1, 0, none⟩), .int .i64 (i : Int)] W' fun e w' => e = .returned (.tuple #[.string (s.val i), .int .i64 0]) ∧ Below W'.heap.size W' w') := Lib.hid fun W' i hi hb => AC.out.read W' i (by rw [hsl]; exact hi) hdead hb
          have HDn : Hid (∀ W v, RdIn wr W s 18 v → ∃ g c, v = .slice (some ⟨g, 0, none⟩) 18 c ∧ ErB w W b1 b2 s g s.val p1 q1 p2 q2) := Lib.hid fun W v h => RdIn.done HB.out h
          have HI0 : Hid (RdIn wr wr s 0 (.slice none 0 0)) := Lib.hid ⟨Own.nil _ _ _ _, Below.refl _ _⟩
          clear AC hdead hleft hsl hok
          go_wp2
          go_loopw [12, 13] (fun v i W => ∃ k : Nat, k ≤ 18 ∧ i = .int .i64 k ∧ Hid (RdIn wr W s k v)) (fun _ i _ => 18 - (intOf i).toNat)
          case atStart => exact ⟨0, by omega, rfl, HI0⟩
          case round =>
            obtain ⟨k, hk, rfl, HR⟩ := hrel
            by_cases hlt : k < 18
            · have hltI : (k : Int) < 18 := by omega
              have Rk := Lib.hid (Rd.out _ k hlt HR.out.2)
              have HSu := Lib.hid (readsL_succ s k)
              have HLe := Lib.hid (readsL_length s k)
              obtain ⟨X, hX⟩ : ∃ X, s.val k = X := ⟨_, rfl⟩
              rw [hX] at Rk HSu
              clear hX
              go_wp2_with (first
                | (go_at_call 47; (with_reducible refine Rk.out.mono ?_); rintro e w2 ⟨rfl, hb2⟩; have HR2 := Lib.hid (HR.out.below hb2))
                | (at_builtin; refine append_one Value.string _ rfl (.tmp 110) (.tmp 112) 30 9 (.string ByteArray.empty) 16 rfl Tryd.underlying30 info_str rfl (by decide) _ _ _ rfl rfl rfl HR2.out.1 HR2.out.2 HR2.out.2.size (by rw [HLe.out]; omega) ?_; intro v1 w3 hown1 hbel1))
              go_roundw
              case measure => simp [intOf]; omega
              case rel => exact ⟨k + 1, by omega, by go_num, Lib.hid ⟨by rw [HSu.out]; exact hown1, hbel1⟩⟩
            · obtain rfl : k = 18 := by omega
              obtain ⟨g, cg, rfl, hE⟩ := HDn.out _ _ HR.out
              have HE := Lib.hid hE
              have HGd := Lib.hid HSf.out.2.2.2
              have AC2 := Lib.hid (actCalls HE.out.both (HGd.out.mono (by omega)))
              have HFu : Hid (∀ n : Int, 0 ≤ n → n ≤ 8 → _) := Lib.hid fun n h0 h1 => AC2.out.fuse n h0 h1
              have HRf : Hid (∀ (n : Int) W2, 0 ≤ n → n ≤ 8 → DStep _ b1 p1 q1 (s.fuse n) W2 → _) := Lib.hid fun n W2 h0 h1 h => AC2.out.rfuse W2 n h0 h1 h
              have HNx : Hid (∀ s' W2 W3, DStep _ b1 p1 q1 s' W2 → RStep W2 b2 p2 q2 s' W3 → ∃ p1' q1' p2' q2', ErB w W3 b1 b2 s' g s.val p1' q1' p2' q2') := Lib.hid fun s' W2 W3 h1 h2 => HE.out.step h1 h2
              have HEr : Hid (∀ (n : Int) W P1 Q1 P2 Q2, n ≤ 8 → ErB w W b1 b2 (s.fuse n) g s.val P1 Q1 P2 Q2 →
                (Calls Tryd.prog 50 #[.pointer (some ⟨b1, 0, none⟩), .slice A' m.length c'] W fun e w' => e = .returned (.int .i64 (eraS blankB (s.fuse n) m false).2) ∧ DStep W b1 P1 Q1 (eraS blankB (s.fuse n) m false).1 w') ∧
                ∀ W2, DStep W b1 P1 Q1 (eraS blankB (s.fuse n) m false).1 W2 → Calls Tryd.prog 51 #[.pointer (some ⟨b2, 0, none⟩), .slice A' m.length c'] W2 fun e w' => e = .returned (.int .i64 (eraS blankB (s.fuse n) m false).2) ∧ RStep W2 b2 P2 Q2 (eraS blankB (s.fuse n) m false).1 w') := Lib.hid fun n W P1 Q1 P2 Q2 hn h =>
                era_calls h.both (St.good.mono ⟨HGd.out.ok.fuse n, by show n.toNat ≤ _; omega⟩ (by omega)) HM.out (by omega) HFm.out
              clear hE HI0 HDn Rd AC2
              have hrem : 0 ≤ f % 8 ∧ f % 8 ≤ 8 := by omega
              obtain ⟨hrem0, hrem1⟩ := hrem
              go_wp2_with (first
                | (go_at_call 48; (with_reducible refine (HFu.out _ hrem0 hrem1).mono ?_); rintro e w2 ⟨rfl, hs2⟩)
                | (go_at_call 49; (with_reducible refine (HRf.out _ _ hrem0 hrem1 hs2).mono ?_); rintro e w3 ⟨rfl, hr3⟩; obtain ⟨p3, q3, p4, q4, hE3⟩ := HNx.out _ _ _ hs2 hr3; have HE3 := Lib.hid hE3; clear hE3)
                | (go_at_call 50; (with_reducible refine (HEr.out _ _ _ _ _ _ hrem1 HE3.out).1.mono ?_); rintro e w4 ⟨rfl, hs4⟩)
                | (go_at_call 51; (with_reducible refine ((HEr.out _ _ _ _ _ _ hrem1 HE3.out).2 _ hs4).mono ?_); rintro e w5 ⟨rfl, hr5⟩; obtain ⟨p5, q5, p6, q6, hE5⟩ := HE3.out.step hs4 hr5; have HE5 := Lib.hid hE5; clear hE5))
              have hera : Hid ((eraS blankB (s.fuse (f % 8)) m false).2 = 0 → (eraS blankB (s.fuse (f % 8)) m false).1.dead = false ∧ (eraS blankB (s.fuse (f % 8)) m false).1.sec.length = 18 ∧ ∀ i : Nat, i < 18 → (eraS blankB (s.fuse (f % 8)) m false).1.val i = if (i : Int) ∈ m then blankB else s.val i) := Lib.hid fun h0 => by
                obtain ⟨g1, g2, g3⟩ := era_ok m (s.fuse (f % 8)) false HSf.out.1 h0
                have h18 : (s.fuse (f % 8)).sec.length = 18 := HSf.out.2.2.1
                rw [h18] at g2 g3
                exact ⟨g1, g2, fun i hi => g3 i hi⟩
              have hgood : Hid ((eraS blankB (s.fuse (f % 8)) m false).1.good 1000000) := Lib.hid ((era_good m _ false 100 ⟨HGd.out.ok.fuse _, by show (f % 8).toNat ≤ _; omega⟩).mono (by omega))
              have HBl := Lib.hid blank_any
              obtain ⟨r, hr⟩ : ∃ r, (eraS blankB (s.fuse (f % 8)) m false).2 = r := ⟨_, rfl⟩
              obtain ⟨t, ht⟩ : ∃ t, (eraS blankB (s.fuse (f % 8)) m false).1 = t := ⟨_, rfl⟩
              obtain ⟨R, hR⟩ : ∃ R, s.val = R := ⟨_, rfl⟩
              rw [ht, hR] at HE5
              rw [hr, ht, hR] at hera
              rw [ht] at hgood
              rw [hr]
              clear HEr HFu HRf HNx HE3 hr ht hR HE HR HGd HSf hs2 hr3 hs4 hr5
              generalize blankB = Z at *
              have EC := Lib.hid (erCalls HE5.out.both hgood.out.ok)
              have HX : Hid (∀ W, Below w5.heap.size w5 W → W.cell? ⟨b2, 0, none⟩ = some p6 ∧ W.cell? ⟨b2, 1, none⟩ = some q6 ∧ W.cell? ⟨b2, 3, none⟩ = some (.int .i64 (t.done : Int))) := Lib.hid fun W hb =>
                have h5 := HE5.out.both.r.five
                ⟨cell_below hb h5.c0, cell_below hb h5.c1, cell_below hb h5.c3⟩
              have hbr : Below w5.heap.size w5 w5.drew := (Below.refl w5.heap.size w5).drew
              have hx := HX.out _ (Below.refl _ w5)
              go_region_held3 (fun W' : World => W'.cell? ⟨b2, 0, none⟩ = some p6 ∧ W'.cell? ⟨b2, 1, none⟩ = some q6 ∧ W'.cell? ⟨b2, 3, none⟩ = some (.int .i64 (t.done : Int)))
                (first | exact hx | exact y7 | exact y8 | exact y9 | exact y10)
                (first
                  | (go_at_call 52; (with_reducible refine (EC.out.secs _ hbr).mono ?_); rintro e w7 ⟨v7, rfl, ho7, hb7⟩; have hb7' := below_dr hb7; have y7 := HX.out _ hb7'; obtain ⟨A7, c7, rfl, _⟩ := id ho7)
                  | (go_at_call 17; (with_reducible refine (EC.out.same _ _ hb7' ho7).mono ?_); rintro e w8 ⟨rfl, hb8⟩; have hb8' := below_next hb7' hb8; have y8 := HX.out _ hb8')
                  | (go_at_call 54; (with_reducible refine (EC.out.waits _ hb8').mono ?_); rintro e w9 ⟨v9, rfl, ho9, hb9⟩; have hb9' := below_next hb8' hb9; have y9 := HX.out _ hb9'; obtain ⟨A9, c9, rfl, _⟩ := sl_form ho9)
                  | (go_at_call 53; (with_reducible refine (EC.out.samew _ _ hb9' ho9).mono ?_); rintro e w10 ⟨rfl, hb10⟩; have hb10' := below_next hb9' hb10; have y10 := HX.out _ hb10')
                  | (go_at_call 55; (with_reducible refine (EC.out.ops _ hb10').mono ?_); rintro e w11 ⟨rfl, rfl⟩))
              all_goals go_wp2
              have HE6 := Lib.hid (HE5.out.below hb10')
              have HHs : Hid (∀ (k : Int) W, Below w.heap.size w W → Calls Tryd.prog 56 #[.slice A' m.length c', .int .i64 k] W fun e w' => e = .returned (.bool (hasB m k)) ∧ W = w') := Lib.hid fun k W hb => has_any _ m k W (HM.out.below hb) (by omega)
              clear EC HX hx y7 y8 y9 y10 hbr hb7 hb8 hb9 hb10 hb7' hb8' hb9' hb10' ho7 ho9 HE5
              go_loopw [18] (fun i W => ∃ k : Nat, k ≤ 18 ∧ i = .int .i64 k ∧ Hid (ErB w W b1 b2 t g R p5 q5 p6 q6)) (fun i _ => 18 - (intOf i).toNat)
              case atStart => exact ⟨0, by omega, rfl, HE6⟩
              case round =>
                clear HE6
                obtain ⟨k, hk, rfl, HI⟩ := hrel
                have HEnd : Hid (∀ W, Below _ _ W → Below w.heap.size w W) := Lib.hid fun W hb => HI.out.both.bel.trans (hb.mono HI.out.both.bel.size)
                by_cases hlt : k < 18
                · have hltI : (k : Int) < 18 := by omega
                  by_cases hr0 : r = 0
                  · subst hr0
                    obtain ⟨e1, e2, e3⟩ := hera.out rfl
                    have Rd : Hid (∀ W' : World, Below _ _ W' → _) := Lib.hid fun W' hb => (actCalls HI.out.both hgood.out).read W' k (by rw [e2]; exact hlt) e1 hb
                    have hv := e3 k hlt
                    have HB2 : Hid (∀ W2, Below _ _ W2 → ErB w W2 b1 b2 t g R p5 q5 p6 q6) := Lib.hid fun W2 hb => HI.out.below hb
                    have hbr := Below.refl wr.heap.size wr
                    have HasK : Hid (∀ W, Below w.heap.size w W → _) := Lib.hid fun W hb => HHs.out (k : Int) W hb
                    have HCk : Hid (∀ W, ErB w W b1 b2 t g R p5 q5 p6 q6 → W.cell? ⟨g, k, none⟩ = some (.string (R k))) := Lib.hid fun W h => h.cs k hlt
                    rw [hv] at Rd
                    clear hv e1 e2 e3
                    by_cases hmem : (k : Int) ∈ m
                    · rw [if_pos hmem] at Rd
                      rw [hasB_true.2 hmem] at HasK
                      have hZZ := str_eq (show Z = Z from rfl)
                      go_wp2_with (first
                        | (go_at_call 47; (with_reducible refine (Rd.out _ hbr).mono ?_); rintro e w2 ⟨rfl, hb2⟩; have h2 := HB2.out _ hb2)
                        | (go_at_call 23; (with_reducible refine (HBl.out _).mono ?_); rintro e w3 ⟨rfl, hb3⟩; have h3 := h2.below hb3)
                        | (go_at_call 56; (with_reducible refine (HasK.out _ h3.both.bel).mono ?_); rintro e w4 ⟨rfl, rfl⟩)
                        | (go_at_call 56; (with_reducible refine (HasK.out _ h2.both.bel).mono ?_); rintro e w4 ⟨rfl, rfl⟩))
                      go_roundw
                      case measure => simp [intOf]; omega
                      case rel => exact ⟨k + 1, by omega, by go_num, Lib.hid h3⟩
                    · rw [if_neg hmem] at Rd
                      have hnm : hasB m (k : Int) = false := by
                        cases h : hasB m (k : Int)
                        · rfl
                        · exact absurd (hasB_true.1 h) hmem
                      rw [hnm] at HasK
                      have hZZ := str_eq (show R k = R k from rfl)
                      go_wp2_with (first
                        | (go_at_call 47; (with_reducible refine (Rd.out _ hbr).mono ?_); rintro e w2 ⟨rfl, hb2⟩; have h2 := HB2.out _ hb2; have hck := HCk.out _ h2)
                        | (go_at_call 56; (with_reducible refine (HasK.out _ h2.both.bel).mono ?_); rintro e w4 ⟨rfl, rfl⟩))
                      go_roundw
                      case measure => simp [intOf]; omega
                      case rel => exact ⟨k + 1, by omega, by go_num, Lib.hid h2⟩
                  · have hr0B : (r == 0) = false := by simpa using hr0
                    go_wp2_with (go_at_call 40; (with_reducible refine (HAw.out _).mono ?_); rintro e w9 ⟨rfl, hb9⟩)
                    go_ret
                    exact ⟨rfl, HEnd.out _ hb9⟩
                · obtain rfl : k = 18 := by omega
                  go_wp2_with (go_at_call 40; (with_reducible refine (HAw.out _).mono ?_); rintro e w9 ⟨rfl, hb9⟩)
                  go_ret
                  exact ⟨rfl, HEnd.out _ hb9⟩
end Go.Proofs.YtoojdknfommpbaaDoor
