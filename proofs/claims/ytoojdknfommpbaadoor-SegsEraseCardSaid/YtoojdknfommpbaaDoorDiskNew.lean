/- The walk of the disk's New and Load. -/
import Derived.Test.YtoojdknfommpbaaDoorDiskRepeat
import Derived.Test.YtoojdknfommpbaaDoorDiskRead
namespace Go.Proofs.YtoojdknfommpbaaDoor
open Go.RowKit
set_option maxRecDepth 10000

/-- A sector of octets 0. -/
def blankB : ByteArray := ⟨(List.replicate 128 (0 : UInt8)).toArray⟩
theorem blankB_size : blankB.size = 128 := by show (List.replicate 128 (0 : UInt8)).toArray.size = 128; simp
def newSt (n : Nat) : St := { left := 0, done := 0, dead := false, sec := List.replicate n blankB, waits := [] }
theorem newSt_ok (n k : Nat) (h2 : 2 ≤ n) (hn : n ≤ 512) : (newSt n).ok k :=
  ⟨by simpa [newSt] using h2, by simpa [newSt] using hn, fun x hx => by rw [List.eq_of_mem_replicate hx]; exact blankB_size, (by intro w hw; cases hw), Nat.zero_le _, Nat.zero_le _⟩
/-- A new disk. -/
def NewDisk (w : World) (s : St) (e : Ending) (w' : World) : Prop :=
  ∃ b sv wv, e = .returned (.tuple #[.pointer (some ⟨b, 0, none⟩), .int .i64 0]) ∧ DiskAt w' b s sv wv ∧ (∀ k, Foot b sv wv k → w.heap.size ≤ k) ∧ Below w.heap.size w w'
theorem repeat_blank (w : World) : Calls Tryd.prog 89 #[.string ⟨#[0]⟩, .int .i64 128] w fun e w' => e = .returned (.string blankB) ∧ Below w.heap.size w w' := by
  have h := Tryd.strings_Repeat ⟨#[0]⟩ 128 w (by omega) (by decide)
  rw [show (⟨(Lib.repeatL (⟨#[0]⟩ : ByteArray).data.toList 128).toArray⟩ : ByteArray) = blankB by rfl] at h
  exact h
theorem diskAt_made {w W : World} {s : St} {sv : Value} (hl : s.left = 0) (hd : s.done = 0) (hdd : s.dead = false) (hw : s.waits = []) (hown : W.ownsRow w.heap.size 9 1 sv s.sec.length (s.sec.map Value.string)) (hb : Below w.heap.size w W) :
    DiskAt (W.alloc (.cells #[.int .i64 0, .int .i64 0, .bool false, sv, .slice none 0 0] 117)) W.heap.size s sv (.slice none 0 0) ∧
      (∀ k, Foot W.heap.size sv (.slice none 0 0) k → w.heap.size ≤ k) ∧ Below w.heap.size w (W.alloc (.cells #[.int .i64 0, .int .i64 0, .bool false, sv, .slice none 0 0] 117)) := by
  refine ⟨⟨?_, ?_⟩, ?_, below_alloc hb _⟩
  · rw [hl, hd, hdd]; exact Five.new _ _ _ _ _ _ _
  · have h1 := own_rebase (base := 0) (own_block hown fun k hk => (below_new W (.cells #[.int .i64 0, .int .i64 0, .bool false, sv, .slice none 0 0] 117)).block k (World.ownsRow.lt hown k hk).2) fun _ _ => Nat.zero_le _
    refine ⟨h1, by rw [hw]; exact World.ownsRow_nil _ _ _ _, fun e => ?_, by simp [Value.ownBlock], fun k _ => by simp [Value.ownBlock]⟩
    have := (World.ownsRow.lt hown _ e).2; omega
  · rintro k (rfl | hk | hk)
    · exact hb.size
    · exact (World.ownsRow.lt hown k hk).1
    · simp [Value.ownBlock] at hk
theorem new_bad (n : Int) (w : World) (h : n < 2 ∨ 512 < n) : Calls Tryd.prog 41 #[.int .i64 n] w fun e w' => e = .returned (.tuple #[.pointer none, .int .i64 11]) ∧ w = w' := by
  rcases h with h | h
  · go_enter Tryd.func41, Tryd.ntmps41
    go_wp2
    go_ret2
    exact ⟨rfl, rfl⟩
  · have h2 : ¬ n < 2 := by omega
    go_enter Tryd.func41, Tryd.ntmps41
    go_wp2
    go_ret2
    exact ⟨rfl, rfl⟩
theorem new_any (n : Nat) (w : World) (h2 : 2 ≤ n) (hn : n ≤ 512) : Calls Tryd.prog 41 #[.int .i64 (n : Int)] w (NewDisk w (newSt n)) := by
  have h2I : ¬ (n : Int) < 2 := by omega
  have hnI : (n : Int) ≤ 512 := by omega
  go_enter Tryd.func41, Tryd.ntmps41
  go_wp2_with (first | (go_at_call 89; (with_reducible refine (repeat_blank w).mono ?_); rintro e w1 ⟨rfl, hb1⟩; have hx : (w1.alloc (.cells #[.string blankB] 9)).cell? ⟨w1.heap.size, 0, none⟩ = some (.string blankB) := by (rw [World.cell?_alloc_new]; rfl)) | (go_at_call 88; (with_reducible refine (repeat_any _ w1.heap.size n blankB hx h2 hn).mono ?_); rintro e w2 ⟨v2, rfl, hown, hb2⟩; obtain ⟨A2, c2, rfl, _⟩ := sl_form hown))
  go_ret2
  have hb3 : Below w.heap.size w w2 := below_next (below_alloc hb1 _) hb2
  obtain ⟨k1, k2, k3⟩ := diskAt_made (w := w) (s := newSt n) rfl rfl rfl rfl (sv := .slice A2 n c2) (by simpa [newSt] using own_rebase hown fun k hk => Nat.le_trans (below_alloc hb1 _).size (World.ownsRow.lt hown k hk).1) hb3
  exact ⟨_, _, _, rfl, k1, k2, k3⟩
end Go.Proofs.YtoojdknfommpbaaDoor
