/- Frames as plain functions on octets. No program in sight. -/
import Derived.Test.YtmmajdkngboecaaCrcWalk2
namespace Go.Proofs.Ytmmajdkngboecaa

def sizeL (l : List ByteArray) : Nat := (l.map fun s => 6 + s.size).sum
theorem sizeL_nil : sizeL [] = 0 := rfl
theorem sizeL_snoc (l : List ByteArray) (s : ByteArray) : sizeL (l ++ [s]) = sizeL l + (6 + s.size) := by unfold sizeL; simp
theorem sizeL_cons (s : ByteArray) (l : List ByteArray) : sizeL (s :: l) = 6 + s.size + sizeL l := by unfold sizeL; simp
theorem sizeL_take_le (l : List ByteArray) (k : Nat) : sizeL (l.take k) ≤ sizeL l := by
  induction l generalizing k with
  | nil => simp [sizeL]
  | cons s l ih =>
    cases k with
    | zero => simp [sizeL]
    | succ k => rw [List.take_succ_cons, sizeL_cons, sizeL_cons]; have := ih k; omega
theorem length_le_sizeL (l : List ByteArray) : 6 * l.length ≤ sizeL l := by
  induction l with
  | nil => simp [sizeL]
  | cons s l ih => rw [sizeL_cons, List.length_cons]; omega
theorem sizeL_split (l : List ByteArray) (k : Nat) : sizeL (l.take k) + 6 * (l.length - k) ≤ sizeL l := by
  induction l generalizing k with
  | nil => simp [sizeL]
  | cons s l ih =>
    cases k with
    | zero => have := length_le_sizeL (s :: l); simp only [List.take_zero, sizeL_nil, Nat.sub_zero]; omega
    | succ k =>
      have := ih k
      rw [List.take_succ_cons, sizeL_cons, sizeL_cons, List.length_cons]; omega
theorem sizeL_take (l : List ByteArray) (k : Nat) (h : k < l.length) : sizeL (l.take (k + 1)) = sizeL (l.take k) + (6 + l[k].size) := by
  rw [List.take_succ_eq_append_getElem h, sizeL_snoc]
theorem sizeL_bound (l : List ByteArray) (m n : Nat) (hn : l.length ≤ n) (hm : ∀ s ∈ l, s.size ≤ m) : sizeL l ≤ n * (6 + m) := by
  induction l generalizing n with
  | nil => simp [sizeL]
  | cons s l ih =>
    cases n with
    | zero => simp at hn
    | succ n =>
      rw [sizeL_cons, Nat.succ_mul]
      have := ih n (by simpa using hn) (fun x hx => hm x (List.mem_cons_of_mem _ hx))
      have := hm s List.mem_cons_self
      omega

/-- A record's frame. -/
def frameB (s : List UInt8) : List UInt8 := [UInt8.ofNat (s.length / 256), UInt8.ofNat s.length] ++ (octetsB (sumB s) ++ s)
def framesB (l : List ByteArray) : List UInt8 := l.flatMap fun s => frameB (bl s)
theorem frameB_length (s : List UInt8) : (frameB s).length = 6 + s.length := by
  unfold frameB; simp only [List.length_append, octetsB_length, List.length_cons, List.length_nil]; omega
theorem framesB_snoc (l : List ByteArray) (s : ByteArray) : framesB (l ++ [s]) = framesB l ++ frameB (bl s) := by unfold framesB; simp
theorem framesB_length (l : List ByteArray) : (framesB l).length = sizeL l := by
  induction l with
  | nil => rfl
  | cons s l ih => rw [sizeL_cons, ← ih]; unfold framesB; rw [List.flatMap_cons, List.length_append, frameB_length, bl_length]
/-- Records that may be framed. -/
def okRec (s : ByteArray) : Bool := decide (1 ≤ s.size) && decide (s.size ≤ 4096)
theorem okRec_mem {l : List ByteArray} (h : l.all okRec = true) {s : ByteArray} (hs : s ∈ l) : 1 ≤ s.size ∧ s.size ≤ 4096 := by
  have := List.all_eq_true.1 h s hs
  unfold okRec at this; simp at this; exact this
theorem okRec_snoc (l : List ByteArray) (k : Nat) (h : k < l.length) : (l.take (k + 1)).all okRec = ((l.take k).all okRec && okRec l[k]) := by
  rw [List.take_succ_eq_append_getElem h, List.all_append]; simp
/-- Why there are no frames: 0: there are. -/
def putE (l : List ByteArray) : Int := if l.all okRec = true then (if 16384 < sizeL l then 9 else 0) else 1
def putS (l : List ByteArray) : ByteArray := if putE l = 0 then ⟨(framesB l).toArray⟩ else ByteArray.empty
end Go.Proofs.Ytmmajdkngboecaa
