/- More of a disk as plain functions: crashes, round for round. -/
import Derived.Test.YtoojdknfommpbaaDoorDiskPure
namespace Go.Proofs.YtoojdknfommpbaaDoor

theorem keptL_snoc (ws : List (Nat × ByteArray)) (keep : List Bool) (k : Nat) (hk : k < ws.length) :
    keptL (ws.take (k + 1)) keep = keptL (ws.take k) keep ++ if keep[k]? = some true then [ws[k]] else [] := by
  induction ws generalizing k keep with
  | nil => simp at hk
  | cons w ws ih =>
    cases keep with
    | nil => unfold keptL; simp
    | cons b keep =>
      cases k with
      | zero => cases b <;> simp [keptL]
      | succ k =>
        have h := ih keep k (by simpa using hk)
        unfold keptL at h ⊢
        cases b <;> simp [h]
theorem keptL_length_le (ws : List (Nat × ByteArray)) (keep : List Bool) : (keptL ws keep).length ≤ ws.length := by
  unfold keptL
  rw [List.length_map]
  exact Nat.le_trans (List.length_filter_le _ _) (by rw [List.length_zip]; exact Nat.min_le_left _ _)
/-- How the sectors stand, when so many of the kept ones are done. -/
def crashTo (sec : List ByteArray) (kept : List (Nat × ByteArray)) (tear : Int) (k : Nat) : List ByteArray :=
  if k < kept.length then applyW sec (kept.take k) else crashL sec kept tear
theorem crashTo_zero (sec : List ByteArray) (kept : List (Nat × ByteArray)) (tear : Int) : crashTo sec kept tear 0 = sec := by
  unfold crashTo
  split
  · rfl
  · next h =>
    have : kept = [] := by cases kept with | nil => rfl | cons a l => simp at h
    subst this; rfl
theorem crashTo_all (sec : List ByteArray) (kept : List (Nat × ByteArray)) (tear : Int) : crashTo sec kept tear kept.length = crashL sec kept tear := by
  unfold crashTo; rw [if_neg (Nat.lt_irrefl _)]
theorem take_succ' {α : Type} (l : List α) (k : Nat) (h : k < l.length) : l.take (k + 1) = l.take k ++ [l[k]] := by
  rw [List.take_succ_eq_append_getElem h]
theorem crashTo_succ (sec : List ByteArray) (kept : List (Nat × ByteArray)) (tear : Int) (k : Nat) (hk : k < kept.length) :
    crashTo sec kept tear (k + 1) = (crashTo sec kept tear k).set kept[k].1 (if k + 1 = kept.length then tornD tear kept[k].2 ((crashTo sec kept tear k).getD kept[k].1 ByteArray.empty) else kept[k].2) := by
  have h0 : crashTo sec kept tear k = applyW sec (kept.take k) := by unfold crashTo; rw [if_pos hk]
  rw [h0]
  by_cases h : k + 1 = kept.length
  · rw [if_pos h, show crashTo sec kept tear (k + 1) = crashL sec kept tear by unfold crashTo; rw [if_neg (by omega)]]
    have hne : kept ≠ [] := by rintro rfl; simp at hk
    have hl : kept.getLast? = some kept[k] := by rw [List.getLast?_eq_getElem?, show kept.length - 1 = k by omega, List.getElem?_eq_getElem hk]
    have hd : kept.dropLast = kept.take k := by rw [List.dropLast_eq_take, show kept.length - 1 = k by omega]
    unfold crashL
    rw [hl, hd]
  · rw [if_neg h, show crashTo sec kept tear (k + 1) = applyW sec (kept.take (k + 1)) by unfold crashTo; rw [if_pos (by omega)], take_succ' _ _ hk, applyW_snoc]
theorem crashTo_length (sec : List ByteArray) (kept : List (Nat × ByteArray)) (tear : Int) (k : Nat) : (crashTo sec kept tear k).length = sec.length := by
  unfold crashTo
  split
  · exact applyW_length _ _
  · exact crashL_length _ _ _
theorem full_crashTo (sec : List ByteArray) (kept : List (Nat × ByteArray)) (tear : Int) (k : Nat) (h : ∀ x ∈ sec, x.size = 128) (hw : ∀ w ∈ kept, w.1 < sec.length ∧ w.2.size = 128) : ∀ x ∈ crashTo sec kept tear k, x.size = 128 := by
  unfold crashTo
  split
  · exact full_applyW _ _ h fun w hw' => (hw w (List.mem_of_mem_take hw')).2
  · exact full_crashL _ _ _ h hw
/-- The last one that is kept, of the first k. -/
def lastK (keep : List Bool) : Nat → Int
  | 0 => -1
  | k + 1 => if keep[k]? = some true then (k : Int) else lastK keep k
theorem lastK_lt (keep : List Bool) (k : Nat) : -1 ≤ lastK keep k ∧ lastK keep k < k := by
  induction k with
  | zero => exact ⟨by unfold lastK; omega, by unfold lastK; omega⟩
  | succ k ih =>
    unfold lastK
    split <;> omega
theorem keptL_short (ws : List (Nat × ByteArray)) (keep : List Bool) : keptL ws keep = keptL (ws.take (min ws.length keep.length)) keep := by
  have : ∀ (ws : List (Nat × ByteArray)) (keep : List Bool) (n : Nat), min ws.length keep.length ≤ n → keptL (ws.take n) keep = keptL ws keep := by
    intro ws
    induction ws with
    | nil => intro keep n _; simp
    | cons w ws ih =>
      intro keep n hn
      cases keep with
      | nil => unfold keptL; simp
      | cons b keep =>
        cases n with
        | zero => simp at hn
        | succ n =>
          have h := ih keep n (by simp at hn; omega)
          unfold keptL at h ⊢
          cases b <;> simp [h]
  exact (this ws keep _ (Nat.le_refl _)).symm
/-- No one behind the last one is kept. -/
theorem lastK_is (ws : List (Nat × ByteArray)) (keep : List Bool) (n k : Nat) (hn : n ≤ ws.length) (hk : k < n) (hb : keep[k]? = some true) :
    (lastK keep n = (k : Int)) ↔ (keptL (ws.take k) keep).length + 1 = (keptL (ws.take n) keep).length := by
  induction n with
  | zero => omega
  | succ n ih =>
    rw [keptL_snoc ws keep n (by omega), List.length_append]
    unfold lastK
    rcases Nat.lt_or_ge k n with h | h
    · have ih' := ih (by omega) h
      have hm : (keptL (ws.take k) keep).length + 1 ≤ (keptL (ws.take n) keep).length := by
        have h1 : ∀ m, k + 1 ≤ m → m ≤ ws.length → (keptL (ws.take (k + 1)) keep).length ≤ (keptL (ws.take m) keep).length := by
          intro m
          induction m with
          | zero => omega
          | succ m ihm =>
            intro h2 h3
            rcases Nat.lt_or_ge k m with h4 | h4
            · rw [keptL_snoc ws keep m (by omega), List.length_append]
              have := ihm (by omega) (by omega)
              omega
            · rw [show m = k by omega]; exact Nat.le_refl _
        have h5 := h1 n (by omega) (by omega)
        rw [keptL_snoc ws keep k (by omega), if_pos hb, List.length_append] at h5
        simpa using h5
      by_cases hc : keep[n]? = some true
      · rw [if_pos hc, if_pos hc]
        simp only [List.length_singleton]
        constructor
        · intro h6; omega
        · intro h6; omega
      · rw [if_neg hc, if_neg hc]
        simpa using ih'
    · obtain rfl : k = n := by omega
      rw [if_pos hb, if_pos hb]
      simp
/-- What is kept stands in one place each. -/
theorem applyW_at (sec : List ByteArray) (ws : List (Nat × ByteArray)) (i : Nat) (x : ByteArray) (h : (applyW sec ws)[i]? = some x) : sec[i]? = some x ∨ ∃ w ∈ ws, w.1 = i ∧ x = w.2 := by
  induction ws generalizing sec with
  | nil => exact .inl h
  | cons w ws ih =>
    rcases ih (sec.set w.1 w.2) h with h1 | ⟨v, hv, h1⟩
    · rw [List.getElem?_set] at h1
      split at h1
      · next h2 =>
        split at h1
        · exact .inr ⟨w, List.mem_cons_self, h2, (Option.some.inj h1).symm⟩
        · cases h1
      · exact .inl h1
    · exact .inr ⟨v, List.mem_cons_of_mem _ hv, h1⟩
theorem applyW_other (sec : List ByteArray) (ws : List (Nat × ByteArray)) (i : Nat) (h : ∀ w ∈ ws, w.1 ≠ i) : (applyW sec ws)[i]? = sec[i]? := by
  induction ws generalizing sec with
  | nil => rfl
  | cons w ws ih =>
    show (applyW (sec.set w.1 w.2) ws)[i]? = _
    rw [ih _ fun v hv => h v (List.mem_cons_of_mem _ hv), List.getElem?_set_ne (h w List.mem_cons_self)]
theorem crashL_other (sec : List ByteArray) (kept : List (Nat × ByteArray)) (tear : Int) (i : Nat) (h : ∀ w ∈ kept, w.1 ≠ i) : (crashL sec kept tear)[i]? = sec[i]? := by
  unfold crashL
  split
  · rfl
  · next w hl =>
    rw [List.getElem?_set_ne (h w (List.mem_of_getLast? hl))]
    exact applyW_other _ _ _ fun v hv => h v (List.dropLast_subset _ hv)
/-- Only the place of the last one may hold a torn one. -/
theorem crashL_at (sec : List ByteArray) (kept : List (Nat × ByteArray)) (tear : Int) (hw : ∀ w ∈ kept, w.1 < sec.length ∧ w.2.size = 128) :
    ∃ j : Nat, ∀ (i : Nat) (x : ByteArray), (crashL sec kept tear)[i]? = some x →
      (sec[i]? = some x ∨ ∃ w ∈ kept, w.1 = i ∧ x = w.2) ∨ (i = j ∧ ∃ w ∈ kept, w.1 = i ∧ 1 ≤ tear ∧ tear < 128 ∧ x.extract 0 tear.toNat = w.2.extract 0 tear.toNat) := by
  cases hl : kept.getLast? with
  | none =>
    refine ⟨0, fun i x h => .inl (.inl ?_)⟩
    unfold crashL at h; rw [hl] at h; exact h
  | some w =>
    have hm := List.mem_of_getLast? hl
    refine ⟨w.1, fun i x h => ?_⟩
    have hc : crashL sec kept tear = (applyW sec kept.dropLast).set w.1 (tornD tear w.2 ((applyW sec kept.dropLast).getD w.1 ByteArray.empty)) := by unfold crashL; rw [hl]
    rw [hc, List.getElem?_set] at h
    split at h
    · next h2 =>
      rw [applyW_length, if_pos (hw w hm).1] at h
      have hx := (Option.some.inj h).symm
      unfold tornD at hx
      split at hx
      · next ht =>
        refine .inr ⟨h2.symm, w, hm, h2, ht.1, ht.2, ?_⟩
        rw [hx, ByteArray.extract_append_eq_left]
        rw [ByteArray.size_extract, (hw w hm).2]; omega
      · exact .inl (.inr ⟨w, hm, h2, hx⟩)
    · rcases applyW_at _ _ _ _ h with h3 | ⟨v, hv, h3⟩
      · exact .inl (.inl h3)
      · exact .inl (.inr ⟨v, List.dropLast_subset _ hv, h3⟩)
end Go.Proofs.YtoojdknfommpbaaDoor
