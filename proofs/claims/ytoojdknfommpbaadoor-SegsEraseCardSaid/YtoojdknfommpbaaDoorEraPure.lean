/- What is erased, plainly. No program in sight. -/
import Derived.Test.YtoojdknfommpbaaDoorDiskMore
namespace Go.Proofs.YtoojdknfommpbaaDoor

/-- Sectors are erased, one behind the other; at the end all that waits is done. -/
def eraS (Z : ByteArray) : St → List Int → Bool → St × Int
  | s, [], wr => if wr = true then s.flush else (s, 0)
  | s, a :: l, wr =>
    if (s.read a).2 ≠ 0 then (s, (s.read a).2)
    else if (s.read a).1 = Z then eraS Z s l wr
    else if (s.write a Z).2 ≠ 0 then s.write a Z
    else eraS Z (s.write a Z).1 l true
/-- What a sector tells. -/
def St.val (s : St) (i : Nat) : ByteArray := lastD (i : Int) (s.sec.getD i ByteArray.empty) s.waits
theorem lastD_apply (ws : List (Nat × ByteArray)) (sec : List ByteArray) (i : Nat) (hi : i < sec.length) :
    (applyW sec ws).getD i ByteArray.empty = lastD (i : Int) (sec.getD i ByteArray.empty) ws := by
  induction ws generalizing sec with
  | nil => rfl
  | cons w ws ih =>
    have h := ih (sec.set w.1 w.2) (by simpa using hi)
    have h2 : (sec.set w.1 w.2).getD i ByteArray.empty = if (w.1 : Int) = (i : Int) then w.2 else sec.getD i ByteArray.empty := by
      rw [List.getD_eq_getElem?_getD, List.getD_eq_getElem?_getD, List.getElem?_set]
      by_cases he : w.1 = i
      · rw [if_pos he, if_pos (by omega), if_pos (by omega)]; rfl
      · rw [if_neg he, if_neg (by omega)]
    rw [h2] at h
    exact h
theorem read_val {s : St} (hd : s.dead = false) {i : Nat} (hi : i < s.sec.length) : s.read (i : Int) = (s.val i, 0) := by
  unfold St.read St.val
  rw [if_neg (by rw [hd]; decide), if_neg (by omega)]
  rfl
theorem read_ok {s : St} {a : Int} (h : (s.read a).2 = 0) : s.dead = false ∧ ∃ i : Nat, a = (i : Int) ∧ i < s.sec.length := by
  unfold St.read at h
  split at h
  · exact absurd h (by simp)
  · next h1 =>
    split at h
    · exact absurd h (by simp)
    · exact ⟨by simpa using h1, a.toNat, by omega, by omega⟩
theorem write_ok {s : St} {a : Int} {x : ByteArray} (h : (s.write a x).2 = 0) : (s.write a x).1.dead = false ∧ (s.write a x).1.sec = s.sec ∧ (s.write a x).1.waits = s.waits ++ [(a.toNat, x)] := by
  unfold St.write at h ⊢
  split at h
  · exact absurd h (by simp)
  · next h1 =>
    rw [if_neg h1]
    split at h
    · exact absurd h (by simp)
    · next h2 =>
      rw [if_neg h2]
      split at h
      · exact absurd h (by simp)
      · next h3 =>
        rw [if_neg h3]
        split at h
        · exact absurd h (by simp)
        · next h4 =>
          rw [if_neg h4]
          exact ⟨by simpa using h4, rfl, rfl⟩
theorem flush_ok {s : St} (h : s.flush.2 = 0) : s.flush.1.dead = false ∧ s.flush.1.sec = applyW s.sec s.waits ∧ s.flush.1.waits = [] := by
  unfold St.flush at h ⊢
  split at h
  · exact absurd h (by simp)
  · next h1 =>
    rw [if_neg h1]
    split at h
    · exact absurd h (by simp)
    · next h2 =>
      rw [if_neg h2]
      exact ⟨by simpa using h2, rfl, rfl⟩
theorem era_ok {Z : ByteArray} : ∀ (l : List Int) (s : St) (wr : Bool), s.dead = false → (eraS Z s l wr).2 = 0 →
    (eraS Z s l wr).1.dead = false ∧ (eraS Z s l wr).1.sec.length = s.sec.length ∧ ∀ i : Nat, i < s.sec.length → (eraS Z s l wr).1.val i = if (i : Int) ∈ l then Z else s.val i := by
  intro l
  induction l with
  | nil =>
    intro s wr hd h
    unfold eraS at h ⊢
    cases wr
    · exact ⟨hd, rfl, fun i _ => by simp⟩
    · simp only [if_true] at h ⊢
      obtain ⟨h1, h2, h3⟩ := flush_ok h
      refine ⟨h1, by rw [h2, applyW_length], fun i hi => ?_⟩
      rw [if_neg (by simp)]
      unfold St.val
      rw [h2, h3, ← lastD_apply _ _ _ hi]; rfl
  | cons a l ih =>
    intro s wr hd h
    unfold eraS at h ⊢
    split at h
    · next h1 => exact absurd h h1
    · next h1 =>
      rw [if_neg h1]
      have h1' : (s.read a).2 = 0 := Decidable.byContradiction h1
      obtain ⟨_, j, rfl, hj⟩ := read_ok h1'
      have hrv := read_val hd hj
      split at h
      · next h2 =>
        rw [if_pos h2]
        obtain ⟨g1, g2, g3⟩ := ih s wr hd h
        refine ⟨g1, g2, fun i hi => ?_⟩
        rw [g3 i hi]
        rw [hrv] at h2
        by_cases hm : (i : Int) ∈ l
        · rw [if_pos hm, if_pos (List.mem_cons_of_mem _ hm)]
        · rw [if_neg hm]
          by_cases he : i = j
          · subst he
            rw [if_pos List.mem_cons_self]; exact h2
          · rw [if_neg (by intro hc; rcases List.mem_cons.1 hc with h5 | h5; exact he (by omega); exact hm h5)]
      · next h2 =>
        rw [if_neg h2]
        split at h
        · next h3 => exact absurd h h3
        · next h3 =>
          rw [if_neg h3]
          obtain ⟨w1, w2, w3⟩ := write_ok (Decidable.byContradiction h3 : (s.write (j : Int) Z).2 = 0)
          obtain ⟨g1, g2, g3⟩ := ih _ true w1 h
          rw [w2] at g2 g3
          refine ⟨g1, g2, fun i hi => ?_⟩
          rw [g3 i hi]
          have hv : (s.write (j : Int) Z).1.val i = if (j : Int) = (i : Int) then Z else s.val i := by
            unfold St.val
            rw [w2, w3, lastD_snoc]; rfl
          rw [hv]
          by_cases hm : (i : Int) ∈ l
          · rw [if_pos hm, if_pos (List.mem_cons_of_mem _ hm)]
          · rw [if_neg hm]
            by_cases he : i = j
            · subst he
              rw [if_pos rfl, if_pos List.mem_cons_self]
            · rw [if_neg (by omega), if_neg (by intro hc; rcases List.mem_cons.1 hc with h5 | h5; exact he (by omega); exact hm h5)]
/-- Few operations, and a fuse that fits. -/
structure St.good (s : St) (n : Nat) : Prop where
  ok : s.ok n
  left : s.left ≤ 9223372036854775807
theorem St.good.mono {s : St} {n m : Nat} (h : s.good n) (hm : n ≤ m) : s.good m := ⟨h.ok.mono hm, h.left⟩
theorem St.good.write {s : St} {n : Nat} (h : s.good n) (a : Int) (x : ByteArray) : (s.write a x).1.good (n + 1) := by
  refine ⟨h.ok.write a x, ?_⟩
  have := h.left
  have hop : s.op.left ≤ 9223372036854775807 := by unfold St.op; simp only; omega
  unfold St.write; repeat' split
  all_goals first | exact this | exact hop
theorem St.good.flush {s : St} {n : Nat} (h : s.good n) : s.flush.1.good (n + 1) := by
  refine ⟨h.ok.flush, ?_⟩
  have := h.left
  have hop : s.op.left ≤ 9223372036854775807 := by unfold St.op; simp only; omega
  unfold St.flush; repeat' split
  all_goals first | exact this | exact hop
theorem write_secs (s : St) (a : Int) (x : ByteArray) : (s.write a x).1.sec.length = s.sec.length := by
  unfold St.write; repeat' split
  all_goals rfl
theorem flush_secs (s : St) : s.flush.1.sec.length = s.sec.length := by
  unfold St.flush; repeat' split
  · rfl
  · rfl
  · exact applyW_length _ _
theorem write_alive {s : St} (h : s.dead = false) (h0 : s.left = 0) (a : Int) (x : ByteArray) : (s.write a x).1.dead = false ∧ (s.write a x).1.left = 0 := by
  have h1 : s.op.dead = false := by unfold St.op; simp only [h, h0]; rfl
  have h2 : s.op.left = 0 := by unfold St.op; simp only [h0]
  unfold St.write; repeat' split
  all_goals first | exact ⟨h, h0⟩ | exact ⟨h1, h2⟩
theorem flush_alive {s : St} (h : s.dead = false) (h0 : s.left = 0) : s.flush.1.dead = false ∧ s.flush.1.left = 0 := by
  have h1 : s.op.dead = false := by unfold St.op; simp only [h, h0]; rfl
  have h2 : s.op.left = 0 := by unfold St.op; simp only [h0]
  unfold St.flush; repeat' split
  all_goals first | exact ⟨h, h0⟩ | exact ⟨h1, h2⟩
end Go.Proofs.YtoojdknfommpbaaDoor
