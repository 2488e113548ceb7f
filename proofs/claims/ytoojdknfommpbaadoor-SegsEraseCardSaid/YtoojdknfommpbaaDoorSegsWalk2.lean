/- The walks of segs' Sectors and Free, and of the document's: what they compute. -/
import Derived.Test.YtoojdknfommpbaaDoorSegsWalk
namespace Go.Proofs.YtoojdknfommpbaaDoor
open Go.RowKit
set_option maxRecDepth 10000

theorem info_int : (Tryd.prog.info? 3).map (fun i => (i.zero, i.size, i.bytes)) = some (some (.int .i64 0), 1, 8) := by kernel_rfl
/-- The sectors of one segment, the first k. -/
def secs (s : Int) (k : Nat) : List Int := (List.range k).map fun j : Nat => 2 + s * 8 + (j : Int)
def secsOf (s : Int) : List Int := if 0 ≤ s ∧ s < 63 then secs s 8 else []
def sectorsL (l : List Int) : List Int := l.flatMap secsOf
theorem secs_succ (s : Int) (k : Nat) : secs s (k + 1) = secs s k ++ [2 + s * 8 + (k : Int)] := by unfold secs; rw [List.range_succ, List.map_append]; rfl
theorem secs_length (s : Int) (k : Nat) : (secs s k).length = k := by unfold secs; simp
theorem secsOf_length (s : Int) : (secsOf s).length ≤ 8 := by
  unfold secsOf; split
  · rw [secs_length]; omega
  · simp
theorem sectorsL_length (l : List Int) : (sectorsL l).length ≤ 8 * l.length := by
  unfold sectorsL
  induction l with
  | nil => simp
  | cons s l ih =>
    have := secsOf_length s
    rw [List.flatMap_cons, List.length_append, List.length_cons]; omega
theorem sectorsL_snoc (l : List Int) (s : Int) : sectorsL (l ++ [s]) = sectorsL l ++ secsOf s := by unfold sectorsL; simp

set_option maxHeartbeats 800000 in
theorem segsecs_any (v : Value) (l : List Int) (w : World) (hs : Sl (Value.int .i64) w v l) (hl : l.length ≤ 1000000) (hfit : ∀ x ∈ l, -9223372036854775808 ≤ x ∧ x ≤ 9223372036854775807) :
    Calls Tryd.prog 85 #[v] w fun e w' => ∃ v', e = .returned v' ∧ Own (Value.int .i64) 3 w.heap.size w' v' (sectorsL l) ∧ Below w.heap.size w w' := by
  obtain ⟨A, c, rfl, hc, hread⟩ := hs
  have HR := Lib.hid hread; clear hread
  have HF := Lib.hid hfit; clear hfit
  have hmax : (l.length : Int) ≤ 1000000 := by omega
  go_enter Tryd.func85, Tryd.ntmps85
  go_wp2
  go_loopw [3, 9] (fun v i w' => ∃ k : Nat, k ≤ l.length ∧ i = .int .i64 k ∧ Own (Value.int .i64) 3 w.heap.size w' v (sectorsL (l.take k)) ∧ Below w.heap.size w w') (fun _ i _ => l.length - (intOf i).toNat)
  case atStart => exact ⟨0, by omega, rfl, Own.nil _ _ _ _, Below.refl _ _⟩
  case round =>
    obtain ⟨k, hk, rfl, hown, hbel⟩ := hrel
    by_cases hlt : k < l.length
    · obtain ⟨a, rfl, hcell0⟩ := HR.out k hlt
      have hcell := cell_below hbel hcell0
      clear hcell0
      obtain ⟨hf0, hf1⟩ := HF.out l[k] (List.getElem_mem hlt)
      have HT := Lib.hid (take_snoc' l k hlt)
      have hlen : (sectorsL (l.take k)).length ≤ 8000000 := by
        have := sectorsL_length (l.take k)
        rw [List.length_take] at this; omega
      generalize l[k] = s at *
      by_cases hin : 0 ≤ s ∧ s < 63
      · obtain ⟨hs0, hs1⟩ := hin
        go_wp2
        obtain ⟨wo, rfl⟩ : ∃ wo : World, wo = wr := ⟨_, rfl⟩
        go_loopw [3, 19] (fun v i w' => ∃ j : Nat, j ≤ 8 ∧ i = .int .i64 j ∧ Own (Value.int .i64) 3 w.heap.size w' v (sectorsL (l.take k) ++ secs s j) ∧ Below w.heap.size w w') (fun _ i _ => 8 - (intOf i).toNat)
        case atStart => exact ⟨0, by omega, rfl, by rw [show secs s 0 = [] from rfl, List.append_nil]; exact hown, hbel⟩
        case round =>
          obtain ⟨j, hj, rfl, hown, hbel⟩ := hrel
          by_cases hj8 : j < 8
          · have hlen2 : (sectorsL (l.take k) ++ secs s j).length ≤ 8000008 := by rw [List.length_append, secs_length]; omega
            go_wp2_with (at_builtin; refine append_one (Value.int .i64) w.heap.size rfl (.tmp 22) (.tmp 28) 37 3 (.int .i64 0) 8 rfl Tryd.underlying37 info_int rfl (by decide) _ _ _ rfl rfl rfl hown hbel hbel.size (by omega) ?_; intro v1 w1 hown1 hbel1)
            go_roundw
            case measure => simp [intOf]; omega
            case rel => exact ⟨j + 1, by omega, by go_num, by rw [secs_succ, ← List.append_assoc]; exact hown1, hbel1⟩
          · obtain rfl : j = 8 := by omega
            go_wp2
            go_roundw
            case measure => simp [intOf]; omega
            case rel => exact ⟨k + 1, by omega, by go_num, by rw [HT.out, sectorsL_snoc, secsOf, if_pos ⟨hs0, hs1⟩]; exact hown, hbel⟩
      · rcases (show s < 0 ∨ (0 ≤ s ∧ 63 ≤ s) by omega) with hs | ⟨hs, hs2⟩
        all_goals
          go_wp2
          go_roundw
          case measure => simp [intOf]; omega
          case rel => exact ⟨k + 1, by omega, by go_num, by rw [HT.out, sectorsL_snoc, secsOf, if_neg hin, List.append_nil]; exact hown, hbel⟩
    · obtain rfl : k = l.length := by omega
      go_wp2
      go_ret
      exact ⟨_, rfl, by rw [List.take_length] at hown; exact hown, hbel⟩

def hasB (l : List Int) (n : Int) : Bool := l.contains n
theorem hasB_true {l : List Int} {n : Int} : hasB l n = true ↔ n ∈ l := List.contains_iff_mem
theorem has_any (v : Value) (l : List Int) (n : Int) (w : World) (hs : Sl (Value.int .i64) w v l) (hl : l.length ≤ 140737488351232) :
    Calls Tryd.prog 56 #[v, .int .i64 n] w fun e w' => e = .returned (.bool (hasB l n)) ∧ w = w' := by
  obtain ⟨A, c, rfl, hc, hread⟩ := hs
  have HR := Lib.hid hread; clear hread
  have hmax : (l.length : Int) ≤ 140737488351232 := by omega
  go_enter Tryd.func56, Tryd.ntmps56
  go_wp2
  go_loop [5] (fun i => ∃ k : Nat, k ≤ l.length ∧ i = .int .i64 k ∧ Hid (hasB (l.take k) n = false)) (fun i => l.length - (intOf i).toNat)
  case atStart => exact ⟨0, by omega, rfl, Lib.hid rfl⟩
  case round =>
    obtain ⟨k, hk, rfl, HN⟩ := hrel
    by_cases hlt : k < l.length
    · obtain ⟨a, rfl, hcell⟩ := HR.out k hlt
      have HT := Lib.hid (take_snoc' l k hlt)
      by_cases he : l[k] = n
      · have he' : (l[k] == n) = true := beq_iff_eq.2 he
        have HM : Hid (hasB l n = true) := Lib.hid (by rw [hasB_true, ← he]; exact List.getElem_mem hlt)
        clear he
        go_wp2
        go_ret
        exact ⟨ret_bool HM.out.symm, rfl⟩
      · have he' : (l[k] == n) = false := beq_false_of_ne he
        have HM : Hid (hasB (l.take (k + 1)) n = false) := Lib.hid (by have h1 := HN.out; unfold hasB at *; rw [HT.out, List.contains_append, h1]; simp; exact fun h => he h.symm)
        clear he
        go_wp2
        go_round
        case measure => simp [intOf]; omega
        case rel => exact ⟨k + 1, by omega, by go_num, HM⟩
    · obtain rfl : k = l.length := by omega
      go_wp2
      go_ret
      exact ⟨ret_bool (by rw [← HN.out, List.take_length]), rfl⟩

theorem nsame_any (v u : Value) (l m : List Int) (w : World) (hs : Sl (Value.int .i64) w v l) (ht : Sl (Value.int .i64) w u m) (hl : l.length ≤ 140737488351232) (hm : m.length ≤ 140737488351232) :
    Calls Tryd.prog 81 #[v, u] w fun e w' => e = .returned (.bool (decide (l = m))) ∧ Below w.heap.size w w' := by
  obtain ⟨A, c, rfl, hc, hread⟩ := hs
  obtain ⟨A', c', rfl, hc', hread'⟩ := ht
  have HR := Lib.hid hread; clear hread
  have HR' := Lib.hid hread'; clear hread'
  have hmax : (l.length : Int) ≤ 140737488351232 := by omega
  by_cases hlen : l.length = m.length
  · have hn : ((l.length : Int) != (m.length : Int)) = false := by simp [hlen]
    have HL := Lib.hid hlen
    clear hlen
    go_enter Tryd.func81, Tryd.ntmps81
    go_wp2
    go_loopw [5] (fun i w' => ∃ k : Nat, k ≤ l.length ∧ i = .int .i64 k ∧ Hid (l.take k = m.take k) ∧ ∃ q, w' = w.drewN q) (fun i _ => l.length - (intOf i).toNat)
    case atStart => exact ⟨0, by omega, rfl, Lib.hid rfl, 0, rfl⟩
    case round =>
      obtain ⟨k, hk, rfl, HN, q, rfl⟩ := hrel
      by_cases hlt : k < l.length
      · have hltm : k < m.length := by rw [← HL.out]; exact hlt
        obtain ⟨a, rfl, hcell⟩ := HR.out k hlt
        obtain ⟨a', rfl, hcell'⟩ := HR'.out k hltm
        have HT := Lib.hid (take_snoc' l k hlt)
        have HT' := Lib.hid (take_snoc' m k hltm)
        have i0 : 0 ≤ (k : Int) := by omega
        have i1 : (k : Int) < (l.length : Int) := by omega
        have i2 : (k : Int) < (m.length : Int) := by omega
        by_cases he : l[k] = m[k]
        · have he' : (l[k] != m[k]) = false := by simp [he]
          have HM : Hid (l.take (k + 1) = m.take (k + 1)) := Lib.hid (by rw [HT.out, HT'.out, HN.out, he])
          clear he
          go_wp2_with fail
          go_quiet (fail)
          go_wp2
          go_roundw
          case measure => simp [intOf]; omega
          case rel => exact ⟨k + 1, by omega, by go_num, HM, _, rfl⟩
        · have he' : (l[k] != m[k]) = true := by simp [he]
          have HM : Hid (l ≠ m) := Lib.hid (by rintro rfl; exact he rfl)
          clear he
          go_wp2_with fail
          go_quiet (fail)
          go_wp2
          go_ret
          exact ⟨ret_bool (decide_eq_false HM.out).symm, ⟨rfl, rfl, rfl, Nat.le_refl _, fun _ _ => rfl⟩⟩
      · obtain rfl : k = l.length := by omega
        go_wp2
        go_ret
        exact ⟨ret_bool (decide_eq_true (by have := HN.out; rw [List.take_length, HL.out, List.take_length] at this; exact this)).symm, ⟨rfl, rfl, rfl, Nat.le_refl _, fun _ _ => rfl⟩⟩
  · have hn : ((l.length : Int) != (m.length : Int)) = true := by simp; omega
    have HM : Hid (l ≠ m) := Lib.hid (by rintro rfl; exact hlen rfl)
    clear hlen
    go_enter Tryd.func81, Tryd.ntmps81
    go_wp2
    go_ret
    exact ⟨ret_bool (decide_eq_false HM.out).symm, Below.refl _ _⟩

/-- The free ones of the first k segments. -/
def freeTo (l : List Int) (k : Nat) : List Int := ((List.range k).map fun j : Nat => (j : Int)).filter fun s => !hasB l s
def freeL (n : Int) (l : List Int) : List Int := freeTo l (segCount n).toNat
theorem segCount_range (n : Int) : 0 ≤ segCount n ∧ segCount n ≤ 63 := by
  unfold segCount; split
  · omega
  · split <;> omega
theorem freeTo_succ (l : List Int) (k : Nat) : freeTo l (k + 1) = freeTo l k ++ if hasB l (k : Int) then [] else [(k : Int)] := by
  unfold freeTo
  rw [List.range_succ, List.map_append, List.filter_append]
  congr 1
  simp only [List.map_cons, List.map_nil, List.filter_cons, List.filter_nil]
  cases hasB l (k : Int) <;> rfl
theorem freeTo_length (l : List Int) (k : Nat) : (freeTo l k).length ≤ k := by
  unfold freeTo
  have := List.length_filter_le (fun s => !hasB l s) ((List.range k).map fun j : Nat => (j : Int))
  simp at this ⊢; exact this

end Go.Proofs.YtoojdknfommpbaaDoor
