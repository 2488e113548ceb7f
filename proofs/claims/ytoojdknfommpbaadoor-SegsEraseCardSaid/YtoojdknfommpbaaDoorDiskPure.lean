/- A disk as plain functions. No program in sight. -/
import Derived.Test.YtoojdknfommpbaaDoorCrcWalk
import Derived.RowKit3
import Derived.StillTailTactics
import Derived.Lib.IndexBytes
import Derived.Laws.BytesArg
namespace Go.Proofs.YtoojdknfommpbaaDoor

/-- What a disk holds. -/
structure St where
  left : Nat
  done : Nat
  dead : Bool
  sec : List ByteArray
  waits : List (Nat × ByteArray)

/-- An operation is counted. -/
def St.op (s : St) : St := { s with done := s.done + 1, left := s.left - 1, dead := decide (s.left = 1) || s.dead }
/-- What is read: the last write that waits, or what stands. -/
def lastD (at_ : Int) (init : ByteArray) (ws : List (Nat × ByteArray)) : ByteArray := ws.foldl (fun acc w => if (w.1 : Int) = at_ then w.2 else acc) init
theorem lastD_snoc (at_ : Int) (init : ByteArray) (ws : List (Nat × ByteArray)) (w : Nat × ByteArray) : lastD at_ init (ws ++ [w]) = if (w.1 : Int) = at_ then w.2 else lastD at_ init ws := by
  unfold lastD; rw [List.foldl_append]; rfl
def St.read (s : St) (at_ : Int) : ByteArray × Int :=
  if s.dead = true then (ByteArray.empty, 13)
  else if at_ < 0 ∨ (s.sec.length : Int) ≤ at_ then (ByteArray.empty, 11)
  else (lastD at_ (s.sec.getD at_.toNat ByteArray.empty) s.waits, 0)
def St.write (s : St) (at_ : Int) (x : ByteArray) : St × Int :=
  if s.dead = true then (s, 13)
  else if at_ < 0 ∨ (s.sec.length : Int) ≤ at_ then (s, 11)
  else if x.size ≠ 128 then (s, 9)
  else if s.op.dead = true then (s.op, 13)
  else ({ s.op with waits := s.waits ++ [(at_.toNat, x)] }, 0)
def applyW (sec : List ByteArray) (ws : List (Nat × ByteArray)) : List ByteArray := ws.foldl (fun l w => l.set w.1 w.2) sec
theorem applyW_snoc (sec : List ByteArray) (ws : List (Nat × ByteArray)) (w : Nat × ByteArray) : applyW sec (ws ++ [w]) = (applyW sec ws).set w.1 w.2 := by
  unfold applyW; rw [List.foldl_append]; rfl
theorem applyW_length (sec : List ByteArray) (ws : List (Nat × ByteArray)) : (applyW sec ws).length = sec.length := by
  induction ws generalizing sec with
  | nil => rfl
  | cons w ws ih => show (applyW (sec.set w.1 w.2) ws).length = _; rw [ih]; simp
def St.flush (s : St) : St × Int :=
  if s.dead = true then (s, 13)
  else if s.op.dead = true then (s.op, 13)
  else ({ s.op with sec := applyW s.sec s.waits, waits := [] }, 0)
def St.fuse (s : St) (n : Int) : St := { s with left := n.toNat }
/-- The writes that are kept. -/
def keptL (ws : List (Nat × ByteArray)) (keep : List Bool) : List (Nat × ByteArray) := ((ws.zip keep).filter (·.2)).map (·.1)
/-- A write of which perhaps just the beginning comes there. -/
def tornD (tear : Int) (x old : ByteArray) : ByteArray := if 1 ≤ tear ∧ tear < 128 then x.extract 0 tear.toNat ++ old.extract tear.toNat old.size else x
/-- All writes but the last one whole. -/
def crashL (sec : List ByteArray) (kept : List (Nat × ByteArray)) (tear : Int) : List ByteArray :=
  match kept.getLast? with
  | none => sec
  | some w => (applyW sec kept.dropLast).set w.1 (tornD tear w.2 ((applyW sec kept.dropLast).getD w.1 ByteArray.empty))
def St.crash (s : St) (keep : List Bool) (tear : Int) : St := { left := 0, done := s.done, dead := false, sec := crashL s.sec (keptL s.waits keep) tear, waits := [] }
/-- A disk that was made, after few operations. -/
structure St.ok (s : St) (n : Nat) : Prop where
  two : 2 ≤ s.sec.length
  most : s.sec.length ≤ 512
  full : ∀ x ∈ s.sec, x.size = 128
  fits : ∀ w ∈ s.waits, w.1 < s.sec.length ∧ w.2.size = 128
  few : s.waits.length ≤ n
  ops : s.done ≤ n
theorem St.ok.mono {s : St} {n m : Nat} (h : s.ok n) (hm : n ≤ m) : s.ok m := ⟨h.two, h.most, h.full, h.fits, Nat.le_trans h.few hm, Nat.le_trans h.ops hm⟩
theorem St.ok.op {s : St} {n : Nat} (h : s.ok n) : s.op.ok (n + 1) := ⟨h.two, h.most, h.full, h.fits, Nat.le_succ_of_le h.few, Nat.succ_le_succ h.ops⟩
theorem full_set {l : List ByteArray} (h : ∀ x ∈ l, x.size = 128) (i : Nat) (v : ByteArray) (hv : v.size = 128) : ∀ x ∈ l.set i v, x.size = 128 := by
  intro x hx
  rcases List.mem_or_eq_of_mem_set hx with h1 | h1
  · exact h x h1
  · rw [h1]; exact hv
theorem full_applyW (sec : List ByteArray) (ws : List (Nat × ByteArray)) (h : ∀ x ∈ sec, x.size = 128) (hw : ∀ w ∈ ws, w.2.size = 128) : ∀ x ∈ applyW sec ws, x.size = 128 := by
  induction ws generalizing sec with
  | nil => exact h
  | cons w ws ih => exact ih (sec.set w.1 w.2) (full_set h _ _ (hw w List.mem_cons_self)) fun v hv => hw v (List.mem_cons_of_mem _ hv)
theorem St.ok.write {s : St} {n : Nat} (h : s.ok n) (at_ : Int) (x : ByteArray) : (s.write at_ x).1.ok (n + 1) := by
  unfold St.write
  split
  · exact h.mono (Nat.le_succ _)
  · split
    · exact h.mono (Nat.le_succ _)
    · split
      · exact h.mono (Nat.le_succ _)
      · split
        · exact h.op
        · next h1 h2 h3 =>
          refine ⟨h.two, h.most, h.full, ?_, by simp; exact h.few, Nat.succ_le_succ h.ops⟩
          intro w hw
          rcases List.mem_append.1 hw with h4 | h4
          · exact h.fits w h4
          · rw [List.mem_singleton.1 h4]; exact ⟨by show at_.toNat < s.sec.length; omega, by simpa using h2⟩
theorem St.ok.flush {s : St} {n : Nat} (h : s.ok n) : s.flush.1.ok (n + 1) := by
  unfold St.flush
  split
  · exact h.mono (Nat.le_succ _)
  · split
    · exact h.op
    · exact ⟨by show 2 ≤ (applyW s.sec s.waits).length; rw [applyW_length]; exact h.two, by show (applyW s.sec s.waits).length ≤ 512; rw [applyW_length]; exact h.most,
        full_applyW _ _ h.full fun w hw => (h.fits w hw).2, (by intro w hw; cases hw), by simp, Nat.succ_le_succ h.ops⟩
theorem St.ok.fuse {s : St} {n : Nat} (h : s.ok n) (k : Int) : (s.fuse k).ok n := ⟨h.two, h.most, h.full, h.fits, h.few, h.ops⟩
theorem tornD_size (tear : Int) (x old : ByteArray) (hx : x.size = 128) (ho : old.size = 128) : (tornD tear x old).size = 128 := by
  unfold tornD
  split
  · rw [ByteArray.size_append, ByteArray.size_extract, ByteArray.size_extract]; omega
  · exact hx
theorem keptL_mem {ws : List (Nat × ByteArray)} {keep : List Bool} {w : Nat × ByteArray} (h : w ∈ keptL ws keep) : w ∈ ws := by
  unfold keptL at h
  obtain ⟨p, hp, rfl⟩ := List.mem_map.1 h
  exact (List.of_mem_zip (List.mem_filter.1 hp).1).1
theorem crashL_length (sec : List ByteArray) (kept : List (Nat × ByteArray)) (tear : Int) : (crashL sec kept tear).length = sec.length := by
  unfold crashL
  split
  · rfl
  · rw [List.length_set, applyW_length]
theorem full_crashL (sec : List ByteArray) (kept : List (Nat × ByteArray)) (tear : Int) (h : ∀ x ∈ sec, x.size = 128) (hw : ∀ w ∈ kept, w.1 < sec.length ∧ w.2.size = 128) : ∀ x ∈ crashL sec kept tear, x.size = 128 := by
  unfold crashL
  split
  · exact h
  · next w hl =>
    have hm := List.mem_of_getLast? hl
    have hf := full_applyW sec kept.dropLast h fun v hv => (hw v (List.dropLast_subset _ hv)).2
    refine full_set hf _ _ (tornD_size _ _ _ (hw w hm).2 ?_)
    have hlt : w.1 < (applyW sec kept.dropLast).length := by rw [applyW_length]; exact (hw w hm).1
    rw [List.getD_eq_getElem?_getD, List.getElem?_eq_getElem hlt]
    exact hf _ (List.getElem_mem hlt)
theorem St.ok.crash {s : St} {n : Nat} (h : s.ok n) (keep : List Bool) (tear : Int) : (s.crash keep tear).ok n :=
  ⟨by show 2 ≤ (crashL _ _ _).length; rw [crashL_length]; exact h.two, by show (crashL _ _ _).length ≤ 512; rw [crashL_length]; exact h.most,
   full_crashL _ _ _ h.full fun w hw => h.fits w (keptL_mem hw), (by intro w hw; cases hw), Nat.zero_le _, h.ops⟩
end Go.Proofs.YtoojdknfommpbaaDoor
