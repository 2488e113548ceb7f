/- The walks of segs' functions and of the document's: what they compute. -/
import Derived.Test.YtoojdknfommpbaaDoorProg
import Derived.Test.YtoojdknfommpbaaDoorHeap
import Derived.WalkKit
import Derived.Outline
import Derived.KernelRfl
import Derived.LoopTactic
import Derived.WalkLawsBesides
import Derived.WalkSpells
import Derived.Deep.QuietTactic
import Derived.BigQuiet
import Derived.IntWalk
namespace Go.Proofs.YtoojdknfommpbaaDoor
open Go.RowKit
set_option maxRecDepth 10000

def segCount (n : Int) : Int := if n < 2 ∨ 512 < n then 0 else if (n - 2) / 8 < 63 then (n - 2) / 8 else 63
def segNeed (n : Int) : Int := if n ≤ 0 then 0 else (n - 1) / 8 + 1

theorem count_any (n : Int) (w : World) : Calls Tryd.prog 84 #[.int .i64 n] w fun e w' => e = .returned (.int .i64 (segCount n)) ∧ w = w' := by
  by_cases h2 : n < 2
  · go_enter Tryd.func84, Tryd.ntmps84
    go_wp2
    go_ret
    exact ⟨ret_int (by unfold segCount; rw [if_pos (by omega)]), rfl⟩
  by_cases h5 : 512 < n
  · go_enter Tryd.func84, Tryd.ntmps84
    go_wp2
    go_ret
    exact ⟨ret_int (by unfold segCount; rw [if_pos (by omega)]), rfl⟩
  go_enter Tryd.func84, Tryd.ntmps84
  go_wp2
  all_goals (go_ret; exact ⟨ret_int (by unfold segCount; rw [if_neg (by omega)]; split <;> omega), rfl⟩)
theorem need_any (n : Int) (w : World) (h1 : n ≤ 9223372036854775807) : Calls Tryd.prog 87 #[.int .i64 n] w fun e w' => e = .returned (.int .i64 (segNeed n)) ∧ w = w' := by
  by_cases h0 : n < 0
  · go_enter Tryd.func87, Tryd.ntmps87
    go_wp2
    go_ret
    exact ⟨ret_int (by unfold segNeed; rw [if_pos (by omega)]), rfl⟩
  · by_cases h8 : n % 8 = 0
    · have h9 : (n % 8 == 0) = true := beq_iff_eq.2 h8
      clear h8
      go_enter Tryd.func87, Tryd.ntmps87
      go_wp2
      go_ret
      exact ⟨ret_int (by have := beq_iff_eq.1 h9; unfold segNeed; split <;> omega), rfl⟩
    · have h9 : (n % 8 == 0) = false := beq_false_of_ne h8
      clear h8
      go_enter Tryd.func87, Tryd.ntmps87
      go_wp2
      go_ret
      exact ⟨ret_int (by have := ne_of_beq_false h9; unfold segNeed; split <;> omega), rfl⟩
end Go.Proofs.YtoojdknfommpbaaDoor
