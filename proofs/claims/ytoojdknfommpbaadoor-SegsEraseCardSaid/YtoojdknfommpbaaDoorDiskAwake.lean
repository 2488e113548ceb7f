/- The walk of the chapter's example (awake). -/
import Derived.Test.YtoojdknfommpbaaDoorDiskDo
namespace Go.Proofs.YtoojdknfommpbaaDoor
open Go.RowKit
set_option maxRecDepth 10000

def awA : ByteArray := dataS 97 128
def awB : ByteArray := dataS 98 128
def aw0 : St := newSt 2
def aw1 : St := (aw0.write 1 awA).1
def aw2 : St := aw1.crash [] 0
def aw3 : St := (aw2.write 1 awA).1
def aw4 : St := aw3.flush.1
def aw5 : St := (aw4.write 1 awB).1
def aw6 : St := aw5.crash [true] 1
theorem awE1 : (aw0.write 1 awA).2 = 0 := by kernel_rfl
theorem awE3 : (aw2.write 1 awA).2 = 0 := by kernel_rfl
theorem awE4 : aw3.flush.2 = 0 := by kernel_rfl
theorem awE5 : (aw4.write 1 awB).2 = 0 := by kernel_rfl
theorem awR1 : aw6.read 1 = ((⟨#[98]⟩ : ByteArray) ++ awA.extract 1 awA.size, 0) := by kernel_rfl
theorem awR0 : aw6.read 0 = (blankB, 0) := by kernel_rfl
theorem awOps : aw6.done = 4 := by kernel_rfl
theorem awW : (aw6.write 2 awA).2 = 11 := by kernel_rfl
theorem awLen : aw6.sec.length = 2 := by kernel_rfl
theorem awO0 : aw0.ok 10 := newSt_ok 2 10 (by omega) (by omega)
theorem awO1 : aw1.ok 11 := awO0.write _ _
theorem awO2 : aw2.ok 11 := awO1.crash _ _
theorem awO3 : aw3.ok 12 := awO2.write _ _
theorem awO4 : aw4.ok 13 := awO3.flush
theorem awO5 : aw5.ok 14 := awO4.write _ _
theorem awO6 : aw6.ok 14 := awO5.crash _ _
theorem aw_write (b : Nat) (s s' : St) (x : ByteArray) (i : Int) (r : Int) (hi : i = 1 ∨ i = 2) (h1 : (s.write i x).1 = s') (h2 : (s.write i x).2 = r) (hok : s.ok 14) (hl : s.left = 0) (w : World) (sv wv : Value) (h : DiskAt w b s sv wv) :
    Calls Tryd.prog 43 #[.pointer (some ⟨b, 0, none⟩), .int .i64 i, .string x] w fun e w' => e = .returned (.int .i64 r) ∧ DStep w b sv wv s' w' := by
  have := write_any w b s sv wv i x h (hok.mono (by omega)) (by omega) (by omega) (by omega)
  rw [h1, h2] at this
  exact this
theorem DStep.bel {w0 w w' : World} {b : Nat} {s' : St} {sv wv : Value} (h : DStep w b sv wv s' w') (hb : Below w0.heap.size w0 w) (hF : ∀ k, Foot b sv wv k → w0.heap.size ≤ k) :
    ∃ sv' wv', DiskAt w' b s' sv' wv' ∧ (∀ k, Foot b sv' wv' k → w0.heap.size ≤ k) ∧ Below w0.heap.size w0 w' := by
  obtain ⟨sv', wv', h1, h2, h3⟩ := h
  refine ⟨sv', wv', h1, fun k hk => ?_, hb.trans (h3.below hb.size hF)⟩
  rcases h2 k hk with h4 | h4
  · exact hF k h4
  · exact Nat.le_trans hb.size h4
def acA : Ac := ⟨0, 0, 97, 128, []⟩
def acB : Ac := ⟨0, 0, 98, 128, []⟩
end Go.Proofs.YtoojdknfommpbaaDoor
