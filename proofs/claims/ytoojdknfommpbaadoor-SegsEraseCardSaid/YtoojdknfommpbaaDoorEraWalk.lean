/- The walk of segs.Erase. -/
import Derived.Test.YtoojdknfommpbaaDoorEraPure
import Derived.Test.YtoojdknfommpbaaDoorDiskDo
import Derived.Test.YtoojdknfommpbaaDoorStampRest
namespace Go.Proofs.YtoojdknfommpbaaDoor
open Go.RowKit
set_option maxRecDepth 10000

theorem bl_blankB (s : ByteArray) : bl s = zer 128 ↔ s = blankB := by
  constructor
  · intro h
    have h2 : mkS (bl s) = mkS (zer 128) := by rw [h]
    rw [mkS_bl] at h2
    exact h2.trans rfl
  · rintro rfl; rfl
theorem isZ_any (s : ByteArray) (w : World) (hs : s.size ≤ 1000) :
    Calls Tryd.prog 22 #[.string s] w fun e w' => e = .returned (.bool (decide (s = blankB))) ∧ Below w.heap.size w w' :=
  (isBlank_any s w hs).mono fun e w' ⟨he, hb⟩ => ⟨by rw [he, decide_eq_decide.2 (bl_blankB s)], hb⟩
theorem lastD_size {P : ByteArray → Prop} (at_ : Int) (ws : List (Nat × ByteArray)) (init : ByteArray) (h0 : P init) (hw : ∀ w ∈ ws, P w.2) : P (lastD at_ init ws) := by
  induction ws generalizing init with
  | nil => exact h0
  | cons w ws ih =>
    show P (lastD at_ (if (w.1 : Int) = at_ then w.2 else init) ws)
    refine ih _ ?_ fun v hv => hw v (List.mem_cons_of_mem _ hv)
    split
    · exact hw w List.mem_cons_self
    · exact h0
theorem read_size {s : St} {n : Nat} (h : s.ok n) (a : Int) : (s.read a).1.size ≤ 1000 := by
  unfold St.read
  split
  · decide
  · split
    · decide
    · refine lastD_size (P := fun x => x.size ≤ 1000) _ _ _ ?_ fun w hw => by have := (h.fits w hw).2; show w.2.size ≤ 1000; omega
      have hlt : a.toNat < s.sec.length := by omega
      rw [List.getD_eq_getElem?_getD, List.getElem?_eq_getElem hlt]
      have := h.full _ (List.getElem_mem hlt)
      show (s.sec[a.toNat]).size ≤ 1000; omega
theorem DStep.trans' {w w1 w2 : World} {b : Nat} {s2 : St} {sv wv sv1 wv1 : Value} {s1 : St} (_ : DiskAt w1 b s1 sv1 wv1) (e1 : ∀ k, Foot b sv1 wv1 k → Foot b sv wv k ∨ w.heap.size ≤ k) (t1 : Tou (Foot b sv wv) w w1) (k : DStep w1 b sv1 wv1 s2 w2) : DStep w b sv wv s2 w2 := by
  obtain ⟨sv2, wv2, d2, e2, t2⟩ := k
  refine ⟨sv2, wv2, d2, fun j hj => ?_, ⟨t2.os.trans t1.os, t2.tape.trans t1.tape, t2.output.trans t1.output, Nat.le_trans t1.size t2.size, fun j hj hF => ?_⟩⟩
  · rcases e2 j hj with h3 | h3
    · exact e1 j h3
    · exact .inr (Nat.le_trans t1.size h3)
  · rw [t2.block j (Nat.lt_of_lt_of_le hj t1.size) fun h4 => by rcases e1 j h4 with h5 | h5; exact hF h5; omega]
    exact t1.block j hj hF
theorem RStep.trans' {w w1 w2 : World} {b : Nat} {s2 : St} {sv wv sv1 wv1 : Value} {s1 : St} (_ : RefAt w1 b s1 sv1 wv1) (e1 : ∀ k, Foot b sv1 wv1 k → Foot b sv wv k ∨ w.heap.size ≤ k) (t1 : Tou (Foot b sv wv) w w1) (k : RStep w1 b sv1 wv1 s2 w2) : RStep w b sv wv s2 w2 := by
  obtain ⟨sv2, wv2, d2, e2, t2⟩ := k
  refine ⟨sv2, wv2, d2, fun j hj => ?_, ⟨t2.os.trans t1.os, t2.tape.trans t1.tape, t2.output.trans t1.output, Nat.le_trans t1.size t2.size, fun j hj hF => ?_⟩⟩
  · rcases e2 j hj with h3 | h3
    · exact e1 j h3
    · exact .inr (Nat.le_trans t1.size h3)
  · rw [t2.block j (Nat.lt_of_lt_of_le hj t1.size) fun h4 => by rcases e1 j h4 with h5 | h5; exact hF h5; omega]
    exact t1.block j hj hF
theorem DStep.then {w w1 w2 : World} {b : Nat} {s1 : St} {sv wv : Value} (h : DStep w b sv wv s1 w1) (hb : Below w1.heap.size w1 w2) : DStep w b sv wv s1 w2 := by
  obtain ⟨sv1, wv1, d1, e1, t1⟩ := h
  exact ⟨sv1, wv1, d1.bel hb, e1, t1.trans (tou_of_below hb)⟩
theorem RStep.then {w w1 w2 : World} {b : Nat} {s1 : St} {sv wv : Value} (h : RStep w b sv wv s1 w1) (hb : Below w1.heap.size w1 w2) : RStep w b sv wv s1 w2 := by
  obtain ⟨sv1, wv1, d1, e1, t1⟩ := h
  exact ⟨sv1, wv1, d1.bel hb, e1, t1.trans (tou_of_below hb)⟩
/-- Erasing, under way: k sectors are behind. -/
def ErIn (w : World) (b : Nat) (sv wv : Value) (n : Nat) (Z : ByteArray) (l : List Int) (E : St × Int) (k : Nat) (wr : Bool) (s : St) (W : World) : Prop :=
  DStep w b sv wv s W ∧ s.good (n + k) ∧ eraS Z s (l.drop k) wr = E
theorem drop_at (l : List Int) (k : Nat) (h : k < l.length) : l.drop k = l[k] :: l.drop (k + 1) := List.drop_eq_getElem_cons h
set_option maxHeartbeats 4000000 in
theorem sera_any (w0 w : World) (b : Nat) (s : St) (sv wv v : Value) (l : List Int) (n : Nat) (h : DiskAt w b s sv wv) (hg : s.good n) (hn : n + l.length ≤ 999998) (hs : Sl (Value.int .i64) w0 v l) (hb0 : Below w0.heap.size w0 w) (hF : ∀ k, Foot b sv wv k → w0.heap.size ≤ k) (hfit : ∀ x ∈ l, -9223372036854775808 ≤ x ∧ x ≤ 9223372036854775807) :
    Calls Tryd.prog 50 #[.pointer (some ⟨b, 0, none⟩), v] w fun e w' => e = .returned (.int .i64 (eraS blankB s l false).2) ∧ DStep w b sv wv (eraS blankB s l false).1 w' := by
  obtain ⟨A, c, rfl, hlc, hread⟩ := hs
  have HRp := Lib.hid fun W => repeat_blank W
  have hZb : blankB.size = 128 := blankB_size
  have HZ := Lib.hid fun x W hx => isZ_any x W hx
  generalize blankB = Z at *
  obtain ⟨E, hE⟩ : ∃ E, eraS Z s l false = E := ⟨_, rfl⟩
  rw [hE]
  have hlI : (l.length : Int) ≤ 999998 := by omega
  have H0 : Hid (ErIn w b sv wv n Z l E 0 false s w) := Lib.hid ⟨h.same, hg, by rw [List.drop_zero]; exact hE⟩
  have HC : Hid (∀ k (hk : k < l.length) wr s' W, ErIn w b sv wv n Z l E k wr s' W → ∃ a, A = some a ∧ W.cell? (a.add k) = some (.int .i64 l[k])) := Lib.hid fun k hk wr s' W hi => by
    obtain ⟨a, ha, hc⟩ := hread k hk
    exact ⟨a, ha, cell_below (hb0.trans (hi.1.tou.below hb0.size hF)) hc⟩
  have HRd : Hid (∀ k (hk : k < l.length) wr s' W, ErIn w b sv wv n Z l E k wr s' W → Calls Tryd.prog 47 #[.pointer (some ⟨b, 0, none⟩), .int .i64 l[k]] W fun e w' => e = .returned (.tuple #[.string (s'.read l[k]).1, .int .i64 (s'.read l[k]).2]) ∧ ErIn w b sv wv n Z l E k wr s' w') := Lib.hid fun k hk wr s' W hi => by
    obtain ⟨sv1, wv1, d1, _, _⟩ := hi.1
    have hf := hfit _ (List.getElem_mem hk)
    exact (dread_any W b s' sv1 wv1 l[k] d1 (hi.2.1.ok.mono (by omega)) hf.1 hf.2).mono fun e w' ⟨he, hb⟩ => ⟨he, hi.1.then hb, hi.2⟩
  have HBk : Hid (∀ k wr s' W a, ErIn w b sv wv n Z l E k wr s' W → Calls Tryd.prog 22 #[.string (s'.read a).1] W fun e w' => e = .returned (.bool (decide ((s'.read a).1 = Z))) ∧ ErIn w b sv wv n Z l E k wr s' w') := Lib.hid fun k wr s' W a hi =>
    (HZ.out _ W (read_size hi.2.1.ok a)).mono fun e w' ⟨he, hb⟩ => ⟨he, hi.1.then hb, hi.2⟩
  have HWr : Hid (∀ k (hk : k < l.length) wr s' W, ErIn w b sv wv n Z l E k wr s' W → Calls Tryd.prog 43 #[.pointer (some ⟨b, 0, none⟩), .int .i64 l[k], .string Z] W fun e w' => e = .returned (.int .i64 (s'.write l[k] Z).2) ∧ DStep w b sv wv (s'.write l[k] Z).1 w') := Lib.hid fun k hk wr s' W hi => by
    have hf := hfit _ (List.getElem_mem hk)
    obtain ⟨sv1, wv1, d1, e1, t1⟩ := id hi.1
    exact (write_any W b s' sv1 wv1 l[k] Z d1 (hi.2.1.ok.mono (by omega)) hi.2.1.left hf.1 hf.2).mono fun e w' ⟨he, hs⟩ => ⟨he, DStep.trans' d1 e1 t1 hs⟩
  have HFl : Hid (∀ wr s' W, ErIn w b sv wv n Z l E l.length wr s' W → Calls Tryd.prog 45 #[.pointer (some ⟨b, 0, none⟩)] W fun e w' => e = .returned (.int .i64 s'.flush.2) ∧ DStep w b sv wv s'.flush.1 w') := Lib.hid fun wr s' W hi => by
    obtain ⟨sv1, wv1, d1, e1, t1⟩ := id hi.1
    exact (flush_any W b s' sv1 wv1 d1 (hi.2.1.ok.mono (by omega)) hi.2.1.left).mono fun e w' ⟨he, hs⟩ => ⟨he, DStep.trans' d1 e1 t1 hs⟩
  have HStep : Hid (∀ k (hk : k < l.length) wr s' W, ErIn w b sv wv n Z l E k wr s' W →
      ((s'.read l[k]).2 ≠ 0 → E = (s', (s'.read l[k]).2)) ∧
      ((s'.read l[k]).2 = 0 → (s'.read l[k]).1 = Z → ErIn w b sv wv n Z l E (k + 1) wr s' W) ∧
      ((s'.read l[k]).2 = 0 → (s'.read l[k]).1 ≠ Z → (s'.write l[k] Z).2 ≠ 0 → E = s'.write l[k] Z) ∧
      ((s'.read l[k]).2 = 0 → (s'.read l[k]).1 ≠ Z → (s'.write l[k] Z).2 = 0 → ∀ W2, DStep w b sv wv (s'.write l[k] Z).1 W2 → ErIn w b sv wv n Z l E (k + 1) true (s'.write l[k] Z).1 W2)) := Lib.hid fun k hk wr s' W hi => by
    obtain ⟨h1, h2, h3⟩ := hi
    rw [drop_at l k hk] at h3
    unfold eraS at h3
    refine ⟨fun g1 => ?_, fun g1 g2 => ?_, fun g1 g2 g3 => ?_, fun g1 g2 g3 W2 hs => ?_⟩
    · rw [if_pos g1] at h3; exact h3.symm
    · rw [if_neg (fun h => h g1), if_pos g2] at h3; exact ⟨h1, h2.mono (by omega), h3⟩
    · rw [if_neg (fun h => h g1), if_neg g2, if_pos g3] at h3; exact h3.symm
    · rw [if_neg (fun h => h g1), if_neg g2, if_neg (fun h => h g3)] at h3; exact ⟨hs, h2.write _ _, h3⟩
  have HEnd : Hid (∀ wr s' W, ErIn w b sv wv n Z l E l.length wr s' W → E = if wr = true then s'.flush else (s', 0)) := Lib.hid fun wr s' W hi => by
    have h3 := hi.2.2
    rw [List.drop_length] at h3
    unfold eraS at h3
    exact h3.symm
  have HIn : Hid (∀ k wr s' W W2, ErIn w b sv wv n Z l E k wr s' W → Below W.heap.size W W2 → ErIn w b sv wv n Z l E k wr s' W2) := Lib.hid fun k wr s' W W2 hi hb => ⟨hi.1.then hb, hi.2⟩
  have HD : Hid (∀ k wr s' W, ErIn w b sv wv n Z l E k wr s' W → DStep w b sv wv s' W) := Lib.hid fun k wr s' W hi => hi.1
  obtain ⟨I, hI⟩ : ∃ I, ErIn w b sv wv n Z l E = I := ⟨_, rfl⟩
  rw [hI] at H0 HC HRd HBk HWr HFl HStep HEnd HIn HD
  clear hI hread hlc h hg hb0 hF hfit hE HZ
  go_enter Tryd.func50, Tryd.ntmps50
  go_wp2_with (go_at_call 89; (with_reducible refine (HRp.out _).mono ?_); rintro e w1 ⟨rfl, hb1⟩)
  have H1 := Lib.hid (HIn.out _ _ _ _ _ H0.out hb1)
  go_loopw [6, 14] (fun t i W => ∃ (k : Nat) (wr : Bool) (s' : St), k ≤ l.length ∧ i = .int .i64 k ∧ t = .bool wr ∧ Hid (I k wr s' W)) (fun _ i _ => l.length - (intOf i).toNat)
  case atStart => exact ⟨0, false, s, by omega, rfl, rfl, H1⟩
  case round =>
    obtain ⟨k, wr, s', hk, rfl, rfl, HI⟩ := hrel
    by_cases hlt : k < l.length
    · have hltI : (k : Int) < (l.length : Int) := by omega
      obtain ⟨a, rfl, hcell⟩ := HC.out k hlt _ _ _ HI.out
      have Rd := Lib.hid (HRd.out k hlt _ _ _ HI.out)
      have Bk : Hid (∀ W, I k wr s' W → _) := Lib.hid fun W h => HBk.out k wr s' W l[k] h
      have Wr : Hid (∀ W, I k wr s' W → _) := Lib.hid fun W h => HWr.out k hlt wr s' W h
      have St1 : Hid (∀ W, I k wr s' W → _) := Lib.hid fun W h => HStep.out k hlt wr s' W h
      obtain ⟨x, hx⟩ : ∃ x, l[k] = x := ⟨_, rfl⟩
      rw [hx] at hcell Rd Bk Wr St1
      clear hx
      obtain ⟨r, hr⟩ : ∃ r, (s'.read x).2 = r := ⟨_, rfl⟩
      obtain ⟨y, hy⟩ : ∃ y, (s'.read x).1 = y := ⟨_, rfl⟩
      obtain ⟨s2, hs2⟩ : ∃ q, (s'.write x Z).1 = q := ⟨_, rfl⟩
      obtain ⟨r2, hr2⟩ : ∃ q, (s'.write x Z).2 = q := ⟨_, rfl⟩
      have hpair : s'.write x Z = (s2, r2) := by rw [← hs2, ← hr2]
      rw [hr, hy] at Rd
      rw [hy] at Bk
      rw [hs2, hr2] at Wr
      rw [hr, hy, hs2, hr2, hpair] at St1
      clear hr hy hs2 hr2 hpair
      by_cases hr0 : r = 0
      · subst hr0
        by_cases hyz : y = Z
        · subst hyz
          rw [decide_eq_true rfl] at Bk
          go_wp2_with (first
            | (go_at_call 47; (with_reducible refine Rd.out.mono ?_); rintro e w2 ⟨rfl, h2⟩)
            | (go_at_call 22; (with_reducible refine (Bk.out _ h2).mono ?_); rintro e w3 ⟨rfl, h3⟩))
          go_roundw
          case measure => simp [intOf]; omega
          case rel => exact ⟨k + 1, wr, s', by omega, by go_num, rfl, Lib.hid ((St1.out _ h3).2.1 (by trivial) (by trivial))⟩
        · rw [decide_eq_false hyz] at Bk
          by_cases hr2 : r2 = 0
          · subst hr2
            go_wp2_with (first
              | (go_at_call 47; (with_reducible refine Rd.out.mono ?_); rintro e w2 ⟨rfl, h2⟩)
              | (go_at_call 22; (with_reducible refine (Bk.out _ h2).mono ?_); rintro e w3 ⟨rfl, h3⟩)
              | (go_at_call 43; (with_reducible refine (Wr.out _ h3).mono ?_); rintro e w4 ⟨rfl, h4⟩))
            go_roundw
            case measure => simp [intOf]; omega
            case rel => exact ⟨k + 1, true, s2, by omega, by go_num, rfl, Lib.hid ((St1.out _ h3).2.2.2 (by trivial) hyz (by trivial) _ h4)⟩
          · go_wp2_with (first
              | (go_at_call 47; (with_reducible refine Rd.out.mono ?_); rintro e w2 ⟨rfl, h2⟩)
              | (go_at_call 22; (with_reducible refine (Bk.out _ h2).mono ?_); rintro e w3 ⟨rfl, h3⟩)
              | (go_at_call 43; (with_reducible refine (Wr.out _ h3).mono ?_); rintro e w4 ⟨rfl, h4⟩))
            go_ret
            have := (St1.out _ h3).2.2.1 (by trivial) hyz hr2
            rw [this]
            exact ⟨rfl, h4⟩
      · go_wp2_with (go_at_call 47; (with_reducible refine Rd.out.mono ?_); rintro e w2 ⟨rfl, h2⟩)
        go_ret
        have := (St1.out _ h2).1 hr0
        rw [this]
        exact ⟨rfl, HD.out _ _ _ _ h2⟩
    · obtain rfl : k = l.length := by omega
      have hend := HEnd.out _ _ _ HI.out
      have Fl := Lib.hid (HFl.out _ _ _ HI.out)
      cases wr
      · go_wp2
        go_ret
        rw [hend]
        exact ⟨rfl, HD.out _ _ _ _ HI.out⟩
      · rw [if_pos rfl] at hend
        go_wp2_with (go_at_call 45; (with_reducible refine Fl.out.mono ?_); rintro e w2 ⟨rfl, h2⟩)
        go_ret
        rw [hend]
        exact ⟨rfl, h2⟩
end Go.Proofs.YtoojdknfommpbaaDoor
