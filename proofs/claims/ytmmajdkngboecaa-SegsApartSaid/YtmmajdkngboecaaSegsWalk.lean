/- The walks of segs' functions and of the document's: what they compute. -/
import Derived.Test.YtmmajdkngboecaaProg
import Derived.Test.YtmmajdkngboecaaHeap
import Derived.WalkKit
import Derived.Outline
import Derived.KernelRfl
import Derived.LoopTactic
import Derived.WalkLawsBesides
import Derived.WalkSpells
import Derived.Deep.QuietTactic
import Derived.BigQuiet
import Derived.IntWalk
namespace Go.Proofs.Ytmmajdkngboecaa
open Go.RowKit
set_option maxRecDepth 10000

def segCount (n : Int) : Int := if n < 2 ∨ 512 < n then 0 else if (n - 2) / 8 < 63 then (n - 2) / 8 else 63
def segNeed (n : Int) : Int := if n ≤ 0 then 0 else (n - 1) / 8 + 1

theorem count_any (n : Int) (w : World) : Calls Try.prog 26 #[.int .i64 n] w fun e w' => e = .returned (.int .i64 (segCount n)) ∧ w = w' := by
  by_cases h2 : n < 2
  · go_enter Try.func26, Try.ntmps26
    go_wp2
    go_ret
    exact ⟨ret_int (by unfold segCount; rw [if_pos (by omega)]), rfl⟩
  by_cases h5 : 512 < n
  · go_enter Try.func26, Try.ntmps26
    go_wp2
    go_ret
    exact ⟨ret_int (by unfold segCount; rw [if_pos (by omega)]), rfl⟩
  go_enter Try.func26, Try.ntmps26
  go_wp2
  all_goals (go_ret; exact ⟨ret_int (by unfold segCount; rw [if_neg (by omega)]; split <;> omega), rfl⟩)
theorem count_ref (n : Int) (w : World) : Calls Try.prog 27 #[.int .i64 n] w fun e w' => e = .returned (.int .i64 (segCount n)) ∧ w = w' := by
  by_cases h2 : n < 2
  · go_enter Try.func27, Try.ntmps27
    go_wp2
    go_ret
    exact ⟨ret_int (by unfold segCount; rw [if_pos (by omega)]), rfl⟩
  by_cases h5 : 512 < n
  · go_enter Try.func27, Try.ntmps27
    go_wp2
    go_ret
    exact ⟨ret_int (by unfold segCount; rw [if_pos (by omega)]), rfl⟩
  go_enter Try.func27, Try.ntmps27
  go_wp2
  all_goals (go_ret; exact ⟨ret_int (by unfold segCount; rw [if_neg (by omega)]; split <;> omega), rfl⟩)
theorem need_any (n : Int) (w : World) (h1 : n ≤ 9223372036854775807) : Calls Try.prog 28 #[.int .i64 n] w fun e w' => e = .returned (.int .i64 (segNeed n)) ∧ w = w' := by
  by_cases h0 : n < 0
  · go_enter Try.func28, Try.ntmps28
    go_wp2
    go_ret
    exact ⟨ret_int (by unfold segNeed; rw [if_pos (by omega)]), rfl⟩
  · by_cases h8 : n % 8 = 0
    · have h9 : (n % 8 == 0) = true := beq_iff_eq.2 h8
      clear h8
      go_enter Try.func28, Try.ntmps28
      go_wp2
      go_ret
      exact ⟨ret_int (by have := beq_iff_eq.1 h9; unfold segNeed; split <;> omega), rfl⟩
    · have h9 : (n % 8 == 0) = false := beq_false_of_ne h8
      clear h8
      go_enter Try.func28, Try.ntmps28
      go_wp2
      go_ret
      exact ⟨ret_int (by have := ne_of_beq_false h9; unfold segNeed; split <;> omega), rfl⟩
theorem need_ref (n : Int) (w : World) (h1 : n ≤ 9223372036854775807) : Calls Try.prog 29 #[.int .i64 n] w fun e w' => e = .returned (.int .i64 (segNeed n)) ∧ w = w' := by
  by_cases h0 : n ≤ 0
  all_goals
    go_enter Try.func29, Try.ntmps29
    go_wp2
    go_ret
    exact ⟨ret_int (by unfold segNeed; split <;> omega), rfl⟩
end Go.Proofs.Ytmmajdkngboecaa
