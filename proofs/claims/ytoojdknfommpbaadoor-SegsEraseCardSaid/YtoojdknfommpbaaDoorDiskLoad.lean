/- The walk of the disk's Load. -/
import Derived.Test.YtoojdknfommpbaaDoorDiskNew
namespace Go.Proofs.YtoojdknfommpbaaDoor
open Go.RowKit
set_option maxRecDepth 10000

def odd128 (s : ByteArray) : Bool := !decide (s.size = 128)
theorem any_snoc (l : List ByteArray) (k : Nat) (h : k < l.length) : (l.take (k + 1)).any odd128 = ((l.take k).any odd128 || odd128 l[k]) := by
  rw [take_succ' _ _ h, List.any_append]; simp
def IdxPost (w : World) (l : List ByteArray) (e : Ending) (w' : World) : Prop := ∃ r : Int, e = .returned (.int .i64 r) ∧ (0 ≤ r ↔ l.any odd128 = true) ∧ w = w'
def loadSt (l : List ByteArray) : St := { left := 0, done := 0, dead := false, sec := l, waits := [] }
theorem loadSt_ok (l : List ByteArray) (k : Nat) (h1 : 2 ≤ l.length) (h2 : l.length ≤ 512) (ho : l.any odd128 = false) : (loadSt l).ok k :=
  ⟨h1, h2, fun x hx => by
    have := List.any_eq_false.1 ho x hx
    unfold odd128 at this; simpa using this, (by intro w hw; cases hw), Nat.zero_le _, Nat.zero_le _⟩
end Go.Proofs.YtoojdknfommpbaaDoor
