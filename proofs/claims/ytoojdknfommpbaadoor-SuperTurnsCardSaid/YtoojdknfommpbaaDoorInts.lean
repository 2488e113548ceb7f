/- Numbers in slices: what has one, which are one; bools in an array. -/
import Derived.Test.YtoojdknfommpbaaDoorStampSplit
namespace Go.Proofs.YtoojdknfommpbaaDoor
open Go.RowKit
set_option maxRecDepth 10000

def hasB (l : List Int) (n : Int) : Bool := l.contains n
theorem hasB_true {l : List Int} {n : Int} : hasB l n = true ↔ n ∈ l := List.contains_iff_mem
theorem has_any (v : Value) (l : List Int) (n : Int) (w : World) (hs : Sl (Value.int .i64) w v l) (hl : l.length ≤ 140737488351232) :
    Calls Tryd.prog 56 #[v, .int .i64 n] w fun e w' => e = .returned (.bool (hasB l n)) ∧ w = w' := by
  obtain ⟨A, c, rfl, hc, hread⟩ := hs
  have HR := Lib.hid hread; clear hread
  have hmax : (l.length : Int) ≤ 140737488351232 := by omega
  go_enter Tryd.func56, Tryd.ntmps56
  go_wp2
  go_loop [5] (fun i => ∃ k : Nat, k ≤ l.length ∧ i = .int .i64 k ∧ Hid (hasB (l.take k) n = false)) (fun i => l.length - (intOf i).toNat)
  case atStart => exact ⟨0, by omega, rfl, Lib.hid rfl⟩
  case round =>
    obtain ⟨k, hk, rfl, HN⟩ := hrel
    by_cases hlt : k < l.length
    · obtain ⟨a, rfl, hcell⟩ := HR.out k hlt
      have HT := Lib.hid (take_snoc' l k hlt)
      by_cases he : l[k] = n
      · have he' : (l[k] == n) = true := beq_iff_eq.2 he
        have HM : Hid (hasB l n = true) := Lib.hid (by rw [hasB_true, ← he]; exact List.getElem_mem hlt)
        clear he
        go_wp2
        go_ret
        exact ⟨ret_bool HM.out.symm, rfl⟩
      · have he' : (l[k] == n) = false := beq_false_of_ne he
        have HM : Hid (hasB (l.take (k + 1)) n = false) := Lib.hid (by have h1 := HN.out; unfold hasB at *; rw [HT.out, List.contains_append, h1]; simp; exact fun h => he h.symm)
        clear he
        go_wp2
        go_round
        case measure => simp [intOf]; omega
        case rel => exact ⟨k + 1, by omega, by go_num, HM⟩
    · obtain rfl : k = l.length := by omega
      go_wp2
      go_ret
      exact ⟨ret_bool (by rw [← HN.out, List.take_length]), rfl⟩

theorem isame_any (v u : Value) (l m : List Int) (w : World) (hs : Sl (Value.int .i64) w v l) (ht : Sl (Value.int .i64) w u m) (hl : l.length ≤ 140737488351232) (hm : m.length ≤ 140737488351232) :
    Calls Tryd.prog 81 #[v, u] w fun e w' => e = .returned (.bool (decide (l = m))) ∧ Below w.heap.size w w' := by
  obtain ⟨A, c, rfl, hc, hread⟩ := hs
  obtain ⟨A', c', rfl, hc', hread'⟩ := ht
  have HR := Lib.hid hread; clear hread
  have HR' := Lib.hid hread'; clear hread'
  have hmax : (l.length : Int) ≤ 140737488351232 := by omega
  by_cases hlen : l.length = m.length
  · have hn : ((l.length : Int) != (m.length : Int)) = false := by simp [hlen]
    have HL := Lib.hid hlen
    clear hlen
    go_enter Tryd.func81, Tryd.ntmps81
    go_wp2
    go_loopw [5] (fun i w' => ∃ k : Nat, k ≤ l.length ∧ i = .int .i64 k ∧ Hid (l.take k = m.take k) ∧ ∃ q, w' = w.drewN q) (fun i _ => l.length - (intOf i).toNat)
    case atStart => exact ⟨0, by omega, rfl, Lib.hid rfl, 0, rfl⟩
    case round =>
      obtain ⟨k, hk, rfl, HN, q, rfl⟩ := hrel
      by_cases hlt : k < l.length
      · have hltm : k < m.length := by rw [← HL.out]; exact hlt
        obtain ⟨a, rfl, hcell⟩ := HR.out k hlt
        obtain ⟨a', rfl, hcell'⟩ := HR'.out k hltm
        have HT := Lib.hid (take_snoc' l k hlt)
        have HT' := Lib.hid (take_snoc' m k hltm)
        have i0 : 0 ≤ (k : Int) := by omega
        have i1 : (k : Int) < (l.length : Int) := by omega
        have i2 : (k : Int) < (m.length : Int) := by omega
        by_cases he : l[k] = m[k]
        · have he' : (l[k] != m[k]) = false := by simp [he]
          have HM : Hid (l.take (k + 1) = m.take (k + 1)) := Lib.hid (by rw [HT.out, HT'.out, HN.out, he])
          clear he
          go_wp2_with fail
          go_quiet (fail)
          go_wp2
          go_roundw
          case measure => simp [intOf]; omega
          case rel => exact ⟨k + 1, by omega, by go_num, HM, _, rfl⟩
        · have he' : (l[k] != m[k]) = true := by simp [he]
          have HM : Hid (l ≠ m) := Lib.hid (by rintro rfl; exact he rfl)
          clear he
          go_wp2_with fail
          go_quiet (fail)
          go_wp2
          go_ret
          exact ⟨ret_bool (decide_eq_false HM.out).symm, ⟨rfl, rfl, rfl, Nat.le_refl _, fun _ _ => rfl⟩⟩
      · obtain rfl : k = l.length := by omega
        go_wp2
        go_ret
        exact ⟨ret_bool (decide_eq_true (by have := HN.out; rw [List.take_length, HL.out, List.take_length] at this; exact this)).symm, ⟨rfl, rfl, rfl, Nat.le_refl _, fun _ _ => rfl⟩⟩
  · have hn : ((l.length : Int) != (m.length : Int)) = true := by simp; omega
    have HM : Hid (l ≠ m) := Lib.hid (by rintro rfl; exact hlen rfl)
    clear hlen
    go_enter Tryd.func81, Tryd.ntmps81
    go_wp2
    go_ret
    exact ⟨ret_bool (decide_eq_false HM.out).symm, Below.refl _ _⟩

theorem ieq_any (v u : Value) (l m : List Int) (w : World) (hs : Sl (Value.int .i64) w v l) (ht : Sl (Value.int .i64) w u m) (hl : l.length ≤ 140737488351232) (hm : m.length ≤ 140737488351232) :
    Calls Tryd.prog 83 #[v, u] w fun e w' => e = .returned (.bool (decide (l = m))) ∧ Below w.heap.size w w' := by
  obtain ⟨A, c, rfl, hc, hread⟩ := hs
  obtain ⟨A', c', rfl, hc', hread'⟩ := ht
  have HR := Lib.hid hread; clear hread
  have HR' := Lib.hid hread'; clear hread'
  have hmax : (l.length : Int) ≤ 140737488351232 := by omega
  by_cases hlen : l.length = m.length
  · have hn : ((l.length : Int) != (m.length : Int)) = false := by simp [hlen]
    have HL := Lib.hid hlen
    clear hlen
    go_enter Tryd.func83, Tryd.ntmps83
    go_wp2
    go_loopw [13] (fun i w' => ∃ k : Nat, k ≤ l.length ∧ i = .int .i64 k ∧ Hid (l.take k = m.take k) ∧ ∃ q, w' = w.drewN q) (fun i _ => l.length - (intOf i).toNat)
    case atStart => exact ⟨0, by omega, rfl, Lib.hid rfl, 0, rfl⟩
    case round =>
      obtain ⟨k, hk, rfl, HN, q, rfl⟩ := hrel
      by_cases hlt : k < l.length
      · have hltm : k < m.length := by rw [← HL.out]; exact hlt
        obtain ⟨a, rfl, hcell⟩ := HR.out k hlt
        obtain ⟨a', rfl, hcell'⟩ := HR'.out k hltm
        have HT := Lib.hid (take_snoc' l k hlt)
        have HT' := Lib.hid (take_snoc' m k hltm)
        have i0 : 0 ≤ (k : Int) := by omega
        have i1 : (k : Int) < (l.length : Int) := by omega
        have i2 : (k : Int) < (m.length : Int) := by omega
        by_cases he : l[k] = m[k]
        · have he' : (l[k] != m[k]) = false := by simp [he]
          have HM : Hid (l.take (k + 1) = m.take (k + 1)) := Lib.hid (by rw [HT.out, HT'.out, HN.out, he])
          clear he
          go_wp2_with fail
          go_quiet (fail)
          go_wp2
          go_roundw
          case measure => simp [intOf]; omega
          case rel => exact ⟨k + 1, by omega, by go_num, HM, _, rfl⟩
        · have he' : (l[k] != m[k]) = true := by simp [he]
          have HM : Hid (l ≠ m) := Lib.hid (by rintro rfl; exact he rfl)
          clear he
          go_wp2_with fail
          go_quiet (fail)
          go_wp2
          go_ret
          exact ⟨ret_bool (decide_eq_false HM.out).symm, ⟨rfl, rfl, rfl, Nat.le_refl _, fun _ _ => rfl⟩⟩
      · obtain rfl : k = l.length := by omega
        go_wp2
        go_ret
        exact ⟨ret_bool (decide_eq_true (by have := HN.out; rw [List.take_length, HL.out, List.take_length] at this; exact this)).symm, ⟨rfl, rfl, rfl, Nat.le_refl _, fun _ _ => rfl⟩⟩
  · have hn : ((l.length : Int) != (m.length : Int)) = true := by simp; omega
    have HM : Hid (l ≠ m) := Lib.hid (by rintro rfl; exact hlen rfl)
    clear hlen
    go_enter Tryd.func83, Tryd.ntmps83
    go_wp2
    go_ret
    exact ⟨ret_bool (decide_eq_false HM.out).symm, Below.refl _ _⟩

/-- Bools in a block of the call's own: a function of the place. -/
def BoolsAt (w : World) (b n : Nat) (u : Nat → Bool) : Prop := ∀ i, i < n → w.cell? ⟨b, i, none⟩ = some (.bool (u i)) ∧ w.frozen? ⟨b, i, none⟩ = false
theorem BoolsAt.set {w : World} {b n : Nat} {u : Nat → Bool} (h : BoolsAt w b n u) (j : Nat) (_hj : j < n) (u' : Nat → Bool) (c : Bool) (hc : c = u' j) (hu : ∀ i, i ≠ j → u' i = u i) :
    BoolsAt (w.setCell ⟨b, j, none⟩ (.bool c)) b n u' := by
  intro i hi
  refine ⟨?_, by rw [World.frozen?_setCell]; exact (h i hi).2⟩
  by_cases e : j = i
  · subst e
    rw [World.cell?_setCell_same _ _ _ (h j hi).1, hc]
  · rw [World.cell?_setCell_other _ _ _ _ (by intro he; exact e (congrArg Addr.off he)), (h i hi).1, hu i (fun h => e h.symm)]
theorem BoolsAt.below {w w1 : World} {B b n : Nat} {u : Nat → Bool} (h : BoolsAt w b n u) (hb : Below B w w1) (hlt : b < B) : BoolsAt w1 b n u := by
  intro i hi
  have hk := hb.block b hlt
  exact ⟨(World.cell?_of_block (a := ⟨b, i, none⟩) hk).trans (h i hi).1, (World.frozen?_of_block (a := ⟨b, i, none⟩) hk).trans (h i hi).2⟩
theorem BoolsAt.congr {w : World} {b n : Nat} {u u' : Nat → Bool} (h : BoolsAt w b n u) (hu : ∀ i, u i = u' i) : BoolsAt w b n u' := by
  have : u = u' := funext hu
  subst this; exact h
theorem bools_new (w : World) (cs : Array Value) (T : TypeId) (n : Nat) (hn : cs = Array.replicate n (.bool false)) : BoolsAt (w.alloc (.cells cs T)) w.heap.size n fun _ => false := by
  intro i hi
  subst hn
  refine ⟨by rw [World.cell?_alloc_new]; simp [hi], ?_⟩
  rw [frozen?_alloc_cells]
  unfold World.frozen?
  rw [Array.getElem?_eq_none (Nat.le_refl _)]

theorem hasB_snoc (l : List Int) (k : Nat) (h : k < l.length) (n : Int) : hasB (l.take (k + 1)) n = (hasB (l.take k) n || l[k] == n) := by
  unfold hasB
  rw [take_snoc' l k h, List.contains_append]
  congr 1
  rw [List.contains_cons, List.contains_nil, Bool.or_false, Bool.beq_comm]

end Go.Proofs.YtoojdknfommpbaaDoor
