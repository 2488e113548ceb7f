/- The walk of the document's Erase. -/
import Derived.Test.YtoojdknfommpbaaDoorEraWalk
import Derived.Test.YtoojdknfommpbaaDoorDiskRef3
import Derived.Deep.RegionHeld3
namespace Go.Proofs.YtoojdknfommpbaaDoor
open Go.RowKit
set_option maxRecDepth 10000

/-- Erasing, under way: k sectors are behind. -/
def RrIn (w : World) (b : Nat) (sv wv : Value) (n : Nat) (Z : ByteArray) (l : List Int) (E : St × Int) (k : Nat) (wr : Bool) (s : St) (W : World) : Prop :=
  RStep w b sv wv s W ∧ s.good (n + k) ∧ eraS Z s (l.drop k) wr = E
set_option maxHeartbeats 4000000 in
theorem rera_any (w0 w : World) (b : Nat) (s : St) (sv wv v : Value) (l : List Int) (n : Nat) (h : RefAt w b s sv wv) (hg : s.good n) (hn : n + l.length ≤ 999998) (hs : Sl (Value.int .i64) w0 v l) (hb0 : Below w0.heap.size w0 w) (hF : ∀ k, Foot b sv wv k → w0.heap.size ≤ k) (hfit : ∀ x ∈ l, -9223372036854775808 ≤ x ∧ x ≤ 9223372036854775807) :
    Calls Tryd.prog 51 #[.pointer (some ⟨b, 0, none⟩), v] w fun e w' => e = .returned (.int .i64 (eraS blankB s l false).2) ∧ RStep w b sv wv (eraS blankB s l false).1 w' := by
  obtain ⟨A, c, rfl, hlc, hread⟩ := hs
  have hZb : blankB.size = 128 := blankB_size
  have HZ := Lib.hid fun W => blank_any W
  generalize blankB = Z at *
  obtain ⟨E, hE⟩ : ∃ E, eraS Z s l false = E := ⟨_, rfl⟩
  rw [hE]
  have hlI : (l.length : Int) ≤ 999998 := by omega
  have H0 : Hid (RrIn w b sv wv n Z l E 0 false s w) := Lib.hid ⟨h.same, hg, by rw [List.drop_zero]; exact hE⟩
  have HC : Hid (∀ k (hk : k < l.length) wr s' W, RrIn w b sv wv n Z l E k wr s' W → ∃ a, A = some a ∧ W.cell? (a.add k) = some (.int .i64 l[k])) := Lib.hid fun k hk wr s' W hi => by
    obtain ⟨a, ha, hc⟩ := hread k hk
    exact ⟨a, ha, cell_below (hb0.trans (hi.1.tou.below hb0.size hF)) hc⟩
  have HRd : Hid (∀ k (hk : k < l.length) wr s' W, RrIn w b sv wv n Z l E k wr s' W → Calls Tryd.prog 95 #[.pointer (some ⟨b, 0, none⟩), .int .i64 l[k]] W fun e w' => e = .returned (.tuple #[.string (s'.read l[k]).1, .int .i64 (s'.read l[k]).2]) ∧ RrIn w b sv wv n Z l E k wr s' w') := Lib.hid fun k hk wr s' W hi => by
    obtain ⟨sv1, wv1, d1, _, _⟩ := hi.1
    have hf := hfit _ (List.getElem_mem hk)
    exact (rread_any W b s' sv1 wv1 l[k] d1 (hi.2.1.ok.mono (by omega)) hf.1 hf.2).mono fun e w' ⟨he, hb⟩ => ⟨he, hb ▸ hi⟩
  have HBk : Hid (∀ k wr s' W, RrIn w b sv wv n Z l E k wr s' W → Calls Tryd.prog 23 #[] W fun e w' => e = .returned (.string Z) ∧ RrIn w b sv wv n Z l E k wr s' w') := Lib.hid fun k wr s' W hi =>
    (HZ.out W).mono fun e w' ⟨he, hb⟩ => ⟨he, hi.1.then hb, hi.2⟩
  have HWr : Hid (∀ k (hk : k < l.length) wr s' W, RrIn w b sv wv n Z l E k wr s' W → Calls Tryd.prog 92 #[.pointer (some ⟨b, 0, none⟩), .int .i64 l[k], .string Z] W fun e w' => e = .returned (.int .i64 (s'.write l[k] Z).2) ∧ RStep w b sv wv (s'.write l[k] Z).1 w' ∧ ∃ a, A = some a ∧ w'.cell? (a.add k) = some (.int .i64 l[k])) := Lib.hid fun k hk wr s' W hi => by
    have hf := hfit _ (List.getElem_mem hk)
    obtain ⟨sv1, wv1, d1, e1, t1⟩ := id hi.1
    exact (rwrite_any W b s' sv1 wv1 l[k] Z d1 (hi.2.1.ok.mono (by omega)) hi.2.1.left hf.1 hf.2).mono fun e w' ⟨he, hs⟩ => ⟨he, RStep.trans' d1 e1 t1 hs, by
        obtain ⟨a, ha, hc⟩ := hread k hk
        exact ⟨a, ha, cell_below (hb0.trans ((RStep.trans' d1 e1 t1 hs).tou.below hb0.size hF)) hc⟩⟩
  have HFl : Hid (∀ wr s' W, RrIn w b sv wv n Z l E l.length wr s' W → Calls Tryd.prog 93 #[.pointer (some ⟨b, 0, none⟩)] W fun e w' => e = .returned (.int .i64 s'.flush.2) ∧ RStep w b sv wv s'.flush.1 w') := Lib.hid fun wr s' W hi => by
    obtain ⟨sv1, wv1, d1, e1, t1⟩ := id hi.1
    exact (rflush_any W b s' sv1 wv1 d1 (hi.2.1.ok.mono (by omega)) hi.2.1.left).mono fun e w' ⟨he, hs⟩ => ⟨he, RStep.trans' d1 e1 t1 hs⟩
  have HStep : Hid (∀ k (hk : k < l.length) wr s' W, RrIn w b sv wv n Z l E k wr s' W →
      ((s'.read l[k]).2 ≠ 0 → E = (s', (s'.read l[k]).2)) ∧
      ((s'.read l[k]).2 = 0 → (s'.read l[k]).1 = Z → RrIn w b sv wv n Z l E (k + 1) wr s' W) ∧
      ((s'.read l[k]).2 = 0 → (s'.read l[k]).1 ≠ Z → (s'.write l[k] Z).2 ≠ 0 → E = s'.write l[k] Z) ∧
      ((s'.read l[k]).2 = 0 → (s'.read l[k]).1 ≠ Z → (s'.write l[k] Z).2 = 0 → ∀ W2, RStep w b sv wv (s'.write l[k] Z).1 W2 → RrIn w b sv wv n Z l E (k + 1) true (s'.write l[k] Z).1 W2)) := Lib.hid fun k hk wr s' W hi => by
    obtain ⟨h1, h2, h3⟩ := hi
    rw [drop_at l k hk] at h3
    unfold eraS at h3
    refine ⟨fun g1 => ?_, fun g1 g2 => ?_, fun g1 g2 g3 => ?_, fun g1 g2 g3 W2 hs => ?_⟩
    · rw [if_pos g1] at h3; exact h3.symm
    · rw [if_neg (fun h => h g1), if_pos g2] at h3; exact ⟨h1, h2.mono (by omega), h3⟩
    · rw [if_neg (fun h => h g1), if_neg g2, if_pos g3] at h3; exact h3.symm
    · rw [if_neg (fun h => h g1), if_neg g2, if_neg (fun h => h g3)] at h3; exact ⟨hs, h2.write _ _, h3⟩
  have HEnd : Hid (∀ wr s' W, RrIn w b sv wv n Z l E l.length wr s' W → E = if wr = true then s'.flush else (s', 0)) := Lib.hid fun wr s' W hi => by
    have h3 := hi.2.2
    rw [List.drop_length] at h3
    unfold eraS at h3
    exact h3.symm
  have HIn : Hid (∀ k wr s' W W2, RrIn w b sv wv n Z l E k wr s' W → Below W.heap.size W W2 → RrIn w b sv wv n Z l E k wr s' W2) := Lib.hid fun k wr s' W W2 hi hb => ⟨hi.1.then hb, hi.2⟩
  have HD : Hid (∀ k wr s' W, RrIn w b sv wv n Z l E k wr s' W → RStep w b sv wv s' W) := Lib.hid fun k wr s' W hi => hi.1
  obtain ⟨I, hI⟩ : ∃ I, RrIn w b sv wv n Z l E = I := ⟨_, rfl⟩
  rw [hI] at H0 HC HRd HBk HWr HFl HStep HEnd HIn HD
  clear hI hread hlc h hg hb0 hF hfit hE HZ
  go_enter Tryd.func51, Tryd.ntmps51
  go_wp2
  go_loopw [5, 6] (fun t i W => ∃ (k : Nat) (wr : Bool) (s' : St), k ≤ l.length ∧ i = .int .i64 k ∧ t = .bool wr ∧ Hid (I k wr s' W)) (fun _ i _ => l.length - (intOf i).toNat)
  case atStart => exact ⟨0, false, s, by omega, rfl, rfl, H0⟩
  case round =>
    obtain ⟨k, wr, s', hk, rfl, rfl, HI⟩ := hrel
    by_cases hlt : k < l.length
    · have hltI : (k : Int) < (l.length : Int) := by omega
      obtain ⟨a, rfl, hcell⟩ := HC.out k hlt _ _ _ HI.out
      have Ce : Hid (∀ W, I k wr s' W → W.cell? (a.add k) = some (.int .i64 l[k])) := Lib.hid fun W h => by
        obtain ⟨a', ha', hc⟩ := HC.out k hlt _ _ _ h
        cases ha'; exact hc
      have Rd := Lib.hid (HRd.out k hlt _ _ _ HI.out)
      have Bk : Hid (∀ W, I k wr s' W → _) := Lib.hid fun W h => HBk.out k wr s' W h
      have Wr : Hid (∀ W, I k wr s' W → Calls Tryd.prog 92 #[.pointer (some ⟨b, 0, none⟩), .int .i64 l[k], .string Z] W fun e w' => e = .returned (.int .i64 (s'.write l[k] Z).2) ∧ RStep w b sv wv (s'.write l[k] Z).1 w' ∧ w'.cell? (a.add k) = some (.int .i64 l[k])) := Lib.hid fun W h =>
        (HWr.out k hlt wr s' W h).mono fun e w' ⟨h1, h2, a', ha', h3⟩ => ⟨h1, h2, by cases ha'; exact h3⟩
      have St1 : Hid (∀ W, I k wr s' W → _) := Lib.hid fun W h => HStep.out k hlt wr s' W h
      have Dr : Hid (∀ W : World, I k wr s' W → I k wr s' W.drew) := Lib.hid fun W h => HIn.out _ _ _ _ _ h (Below.refl W.heap.size W).drew
      obtain ⟨x, hx⟩ : ∃ x, l[k] = x := ⟨_, rfl⟩
      rw [hx] at hcell Rd Wr St1 Ce
      clear hx
      obtain ⟨r, hr⟩ : ∃ r, (s'.read x).2 = r := ⟨_, rfl⟩
      obtain ⟨y, hy⟩ : ∃ y, (s'.read x).1 = y := ⟨_, rfl⟩
      obtain ⟨s2, hs2⟩ : ∃ q, (s'.write x Z).1 = q := ⟨_, rfl⟩
      obtain ⟨r2, hr2⟩ : ∃ q, (s'.write x Z).2 = q := ⟨_, rfl⟩
      have hpair : s'.write x Z = (s2, r2) := by rw [← hs2, ← hr2]
      rw [hr, hy] at Rd
      rw [hs2, hr2] at Wr
      rw [hr, hy, hs2, hr2, hpair] at St1
      clear hr hy hs2 hr2 hpair
      by_cases hr0 : r = 0
      · subst hr0
        by_cases hyz : y = Z
        · subst hyz
          go_wp2_with (first
            | (go_at_call 95; (with_reducible refine Rd.out.mono ?_); rintro e w2 ⟨rfl, h2⟩)
            | (go_at_call 23; (with_reducible refine (Bk.out _ h2).mono ?_); rintro e w3 ⟨rfl, h3⟩))
          go_roundw
          case measure => simp [intOf]; omega
          case rel => exact ⟨k + 1, wr, s', by omega, by go_num, rfl, Lib.hid ((St1.out _ h3).2.1 (by trivial) (by trivial))⟩
        · have hne := str_ne hyz
          go_wp2_with (first
            | (go_at_call 95; (with_reducible refine Rd.out.mono ?_); rintro e w2 ⟨rfl, h2⟩)
            | (go_at_call 23; (with_reducible refine (Bk.out _ h2).mono ?_); rintro e w3 ⟨rfl, h3⟩))
          have hbr := Dr.out _ h3
          have hx := Ce.out _ hbr
          by_cases hr2 : r2 = 0
          · subst hr2
            go_region_held3 (fun W' : World => W'.cell? (a.add k) = some (.int .i64 x))
              (first | exact hx | exact y5 | exact y4)
              (first
                | (go_at_call 23; (with_reducible refine (Bk.out _ hbr).mono ?_); rintro e w5 ⟨rfl, h5⟩; have y5 := Ce.out _ h5)
                | (go_at_call 92; (with_reducible refine (Wr.out _ h5).mono ?_); rintro e w4 ⟨rfl, h4, y4⟩))
            all_goals go_wp2
            all_goals go_roundw
            all_goals first | (simp [intOf]; omega) | exact ⟨k + 1, true, s2, by omega, by go_num, rfl, Lib.hid ((St1.out _ h3).2.2.2 (by trivial) hyz (by trivial) _ h4)⟩
          · go_region_held3 (fun W' : World => W'.cell? (a.add k) = some (.int .i64 x))
              (first | exact hx | exact y5 | exact y4)
              (first
                | (go_at_call 23; (with_reducible refine (Bk.out _ hbr).mono ?_); rintro e w5 ⟨rfl, h5⟩; have y5 := Ce.out _ h5)
                | (go_at_call 92; (with_reducible refine (Wr.out _ h5).mono ?_); rintro e w4 ⟨rfl, h4, y4⟩))
            all_goals go_wp2
            all_goals go_ret
            have := (St1.out _ h3).2.2.1 (by trivial) hyz hr2
            rw [this]
            exact ⟨rfl, h4⟩
      · go_wp2_with (go_at_call 95; (with_reducible refine Rd.out.mono ?_); rintro e w2 ⟨rfl, h2⟩)
        go_ret
        have := (St1.out _ h2).1 hr0
        rw [this]
        exact ⟨rfl, HD.out _ _ _ _ h2⟩
    · obtain rfl : k = l.length := by omega
      have hend := HEnd.out _ _ _ HI.out
      have Fl := Lib.hid (HFl.out _ _ _ HI.out)
      cases wr
      · go_wp2
        go_ret
        rw [hend]
        exact ⟨rfl, HD.out _ _ _ _ HI.out⟩
      · rw [if_pos rfl] at hend
        go_wp2_with (go_at_call 93; (with_reducible refine Fl.out.mono ?_); rintro e w2 ⟨rfl, h2⟩)
        go_ret
        rw [hend]
        exact ⟨rfl, h2⟩
end Go.Proofs.YtoojdknfommpbaaDoor
