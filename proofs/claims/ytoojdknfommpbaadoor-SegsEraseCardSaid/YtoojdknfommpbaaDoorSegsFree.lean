/- The walk of segs' Free: what it computes. -/
import Derived.Test.YtoojdknfommpbaaDoorSegsWalk2
namespace Go.Proofs.YtoojdknfommpbaaDoor
open Go.RowKit
set_option maxRecDepth 10000

/-- Bools in a block of the call's own: a function of the place. -/
def BoolsAt (w : World) (b n : Nat) (u : Nat → Bool) : Prop := ∀ i, i < n → w.cell? ⟨b, i, none⟩ = some (.bool (u i)) ∧ w.frozen? ⟨b, i, none⟩ = false
theorem BoolsAt.set {w : World} {b n : Nat} {u : Nat → Bool} (h : BoolsAt w b n u) (j : Nat) (_hj : j < n) (u' : Nat → Bool) (c : Bool) (hc : c = u' j) (hu : ∀ i, i ≠ j → u' i = u i) :
    BoolsAt (w.setCell ⟨b, j, none⟩ (.bool c)) b n u' := by
  intro i hi
  refine ⟨?_, by rw [World.frozen?_setCell]; exact (h i hi).2⟩
  by_cases e : j = i
  · subst e
    rw [World.cell?_setCell_same _ _ _ (h j hi).1, hc]
  · rw [World.cell?_setCell_other _ _ _ _ (by intro he; exact e (congrArg Addr.off he)), (h i hi).1, hu i (fun h => e h.symm)]
theorem BoolsAt.below {w w1 : World} {B b n : Nat} {u : Nat → Bool} (h : BoolsAt w b n u) (hb : Below B w w1) (hlt : b < B) : BoolsAt w1 b n u := by
  intro i hi
  have hk := hb.block b hlt
  exact ⟨(World.cell?_of_block (a := ⟨b, i, none⟩) hk).trans (h i hi).1, (World.frozen?_of_block (a := ⟨b, i, none⟩) hk).trans (h i hi).2⟩
theorem BoolsAt.congr {w : World} {b n : Nat} {u u' : Nat → Bool} (h : BoolsAt w b n u) (hu : ∀ i, u i = u' i) : BoolsAt w b n u' := by
  have : u = u' := funext hu
  subst this; exact h
theorem bools_new (w : World) (cs : Array Value) (T : TypeId) (n : Nat) (hn : cs = Array.replicate n (.bool false)) : BoolsAt (w.alloc (.cells cs T)) w.heap.size n fun _ => false := by
  intro i hi
  subst hn
  refine ⟨by rw [World.cell?_alloc_new]; simp [hi], ?_⟩
  rw [frozen?_alloc_cells]
  unfold World.frozen?
  rw [Array.getElem?_eq_none (Nat.le_refl _)]

theorem hasB_snoc (l : List Int) (k : Nat) (h : k < l.length) (n : Int) : hasB (l.take (k + 1)) n = (hasB (l.take k) n || l[k] == n) := by
  unfold hasB
  rw [take_snoc' l k h, List.contains_append]
  congr 1
  rw [List.contains_cons, List.contains_nil, Bool.or_false, Bool.beq_comm]

theorem free_any (v : Value) (n : Int) (l : List Int) (w : World) (hs : Sl (Value.int .i64) w v l) (hl : l.length ≤ 140737488351232) (hfit : ∀ x ∈ l, -9223372036854775808 ≤ x ∧ x ≤ 9223372036854775807) :
    Calls Tryd.prog 86 #[.int .i64 n, v] w fun e w' => ∃ v', e = .returned v' ∧ Own (Value.int .i64) 3 w.heap.size w' v' (freeL n l) ∧ Below w.heap.size w w' := by
  obtain ⟨h0, h63⟩ := segCount_range n
  obtain ⟨A, c, rfl, hc, hread⟩ := hs
  have HR := Lib.hid hread; clear hread
  have HF := Lib.hid hfit; clear hfit
  have hmax : (l.length : Int) ≤ 140737488351232 := by omega
  obtain ⟨K, hK⟩ : ∃ K : Nat, segCount n = K := ⟨(segCount n).toNat, by omega⟩
  have HK := Lib.hid hK
  have HKt : Hid ((segCount n).toNat = K) := Lib.hid (by omega)
  have hK63 : K ≤ 63 := by omega
  clear hK h0 h63
  have hcount : Hid (∀ w, Calls Tryd.prog 84 #[.int .i64 n] w fun e w' => e = .returned (.int .i64 (K : Int)) ∧ w = w') := Lib.hid fun w => by rw [← HK.out]; exact count_any n w
  go_enter Tryd.func86, Tryd.ntmps86
  go_wp2
  go_loopw [12] (fun i w' => ∃ k : Nat, k ≤ l.length ∧ i = .int .i64 k ∧ BoolsAt w' w.heap.size 63 (fun j => hasB (l.take k) (j : Int)) ∧ Below w.heap.size w w' ∧ w.heap.size + 1 ≤ w'.heap.size) (fun i _ => l.length - (intOf i).toNat)
  case atStart => exact ⟨0, by omega, rfl, (bools_new w _ _ 63 rfl).congr fun _ => rfl, (Below.refl _ _).alloc (Nat.le_refl _) _, by simp⟩
  case round =>
    obtain ⟨k, hk, rfl, hbs, hbel, hsz⟩ := hrel
    by_cases hlt : k < l.length
    · obtain ⟨a, rfl, hcell0⟩ := HR.out k hlt
      have hcell := cell_below hbel hcell0
      clear hcell0
      obtain ⟨hf0, hf1⟩ := HF.out l[k] (List.getElem_mem hlt)
      have HT := Lib.hid (hasB_snoc l k hlt)
      generalize l[k] = s at *
      by_cases hin : 0 ≤ s ∧ s < 63
      · obtain ⟨S, rfl⟩ : ∃ S : Nat, s = S := ⟨s.toNat, by omega⟩
        obtain ⟨hs0, hs1⟩ := hin
        have hS : S < 63 := by omega
        obtain ⟨hcS, hfS⟩ := hbs S hS
        have HBn : Hid (BoolsAt (wr.setCell ⟨w.heap.size, S, none⟩ (.bool true)) w.heap.size 63 (fun j => hasB (l.take (k + 1)) (j : Int))) := Lib.hid (hbs.set S hS _ true (by rw [HT.out]; simp) (fun i hi => by
          rw [HT.out, beq_false_of_ne (show (S : Int) ≠ (i : Int) by omega), Bool.or_false]))
        clear hbs
        have HcS := Lib.hid hcS; clear hcS
        have hcS : ∃ b, wr.cell? ⟨w.heap.size, S, none⟩ = some (.bool b) := ⟨_, HcS.out⟩
        obtain ⟨bb, hcS⟩ := hcS
        go_wp2
        go_roundw
        case measure => simp [intOf]; omega
        case rel => exact ⟨k + 1, by omega, by go_num, HBn.out, hbel.setCell (Nat.le_refl _) _, by simp [World.setCell]; omega⟩
      · have HBn : Hid (BoolsAt wr w.heap.size 63 (fun j => hasB (l.take (k + 1)) (j : Int))) := Lib.hid fun i hi => by
          have hh := hbs i hi
          refine ⟨?_, hh.2⟩
          rw [hh.1]
          show some (Value.bool (hasB (l.take k) (i : Int))) = some (Value.bool (hasB (l.take (k + 1)) (i : Int)))
          rw [HT.out, beq_false_of_ne (show s ≠ (i : Int) by omega), Bool.or_false]
        clear hbs
        rcases (show s < 0 ∨ (0 ≤ s ∧ 63 ≤ s) by omega) with hs | ⟨hs, hs2⟩
        all_goals
          go_wp2
          go_roundw
          case measure => simp [intOf]; omega
          case rel => exact ⟨k + 1, by omega, by go_num, HBn.out, hbel, hsz⟩
    · obtain rfl : k = l.length := by omega
      have HB : Hid (BoolsAt wr w.heap.size 63 (fun j => hasB l (j : Int))) := Lib.hid (by rw [List.take_length] at hbs; exact hbs)
      clear hbs hlt
      go_wp2_with (go_at_call 84; refine (hcount.out _).mono ?_; rintro e w' ⟨rfl, rfl⟩)
      obtain ⟨wo, rfl⟩ : ∃ wo : World, wo = wr := ⟨_, rfl⟩
      go_loopw [8, 27] (fun v i w' => ∃ k : Nat, k ≤ K ∧ i = .int .i64 k ∧ Own (Value.int .i64) 3 (w.heap.size + 1) w' v (freeTo l k) ∧ Below (w.heap.size + 1) wo w') (fun _ i _ => K - (intOf i).toNat)
      case atStart => exact ⟨0, by omega, rfl, Own.nil _ _ _ _, Below.refl _ _⟩
      case round =>
        obtain ⟨k, hk, rfl, hown, hbel2⟩ := hrel
        by_cases hlt : k < K
        · obtain ⟨hck, hfk⟩ := (HB.out.below hbel2 (Nat.lt_succ_self _)) k (by omega)
          have hlen : (freeTo l k).length ≤ 63 := by have := freeTo_length l k; omega
          have HT := Lib.hid (freeTo_succ l k)
          have hsz2 : w.heap.size + 1 ≤ wr.heap.size := Nat.le_trans hsz hbel2.size
          by_cases he : hasB l (k : Int) = true
          · go_wp2
            go_roundw
            case measure => simp [intOf]; omega
            case rel => exact ⟨k + 1, by omega, by go_num, by rw [HT.out, if_pos he, List.append_nil]; exact hown, hbel2⟩
          · have he' : hasB l (k : Int) = false := by simpa using he
            have HE := Lib.hid he; clear he
            go_wp2_with (at_builtin; refine append_one (Value.int .i64) (w.heap.size + 1) rfl (.tmp 34) (.tmp 36) 37 3 (.int .i64 0) 8 rfl Tryd.underlying37 info_int rfl (by decide) _ _ _ rfl rfl rfl hown hbel2 hsz2 (by omega) ?_; intro v1 w1 hown1 hbel1)
            go_roundw
            case measure => simp [intOf]; omega
            case rel => exact ⟨k + 1, by omega, by go_num, by rw [HT.out, if_neg HE.out]; exact hown1, hbel1⟩
        · obtain rfl : k = K := by omega
          go_wp2
          go_ret
          exact ⟨_, rfl, by unfold freeL; rw [HKt.out]; exact hown.weaken (Nat.le_succ _), hbel.trans (hbel2.mono (Nat.le_succ _))⟩
end Go.Proofs.YtoojdknfommpbaaDoor
