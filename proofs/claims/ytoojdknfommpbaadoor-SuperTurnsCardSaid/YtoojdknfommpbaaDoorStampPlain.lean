/- Plain laws for the statements about sealed sectors: parts, tears. No program in sight. -/
import Derived.Test.YtoojdknfommpbaaDoorStampTear
import Derived.Test.YtoojdknfommpbaaDoorStampSplit
import Derived.Test.YtoojdknfommpbaaDoorStampOpen
namespace Go.Proofs.YtoojdknfommpbaaDoor

theorem chunks_facts (n : Nat) : ∀ l : List UInt8, l.length ≤ n → (chunks l).flatten = l ∧ (∀ c ∈ chunks l, c.length ≤ 104) ∧ (chunks l).length ≤ l.length + 1 ∧ (∀ i, i + 1 < (chunks l).length → ((chunks l).getD i []).length = 104) := by
  induction n with
  | zero =>
    intro l hl
    rw [chunks_small (by omega)]
    refine ⟨by simp, fun c hc => ?_, by simp, fun i h => ?_⟩
    · simp at hc; subst hc; omega
    · simp at h
  | succ n ih =>
    intro l hl
    by_cases h : l.length ≤ 104
    · rw [chunks_small h]
      refine ⟨by simp, fun c hc => ?_, by simp, fun i h => ?_⟩
      · simp at hc; subst hc; omega
      · simp at h
    · obtain ⟨h1, h2, h3, h4⟩ := ih (l.drop 104) (by simp; omega)
      rw [chunks_big h]
      refine ⟨by rw [List.flatten_cons, h1, List.take_append_drop], fun c hc => ?_, by simp at h3 ⊢; omega, fun i hi => ?_⟩
      · rcases List.mem_cons.1 hc with rfl | hc
        · simp; omega
        · exact h2 c hc
      · rcases i with _ | i
        · simp; omega
        · simp at hi ⊢; exact h4 i (by omega)
theorem chunks_flat (l : List UInt8) : (chunks l).flatten = l := (chunks_facts _ l (Nat.le_refl _)).1
theorem chunks_le {l c : List UInt8} (h : c ∈ chunks l) : c.length ≤ 104 := (chunks_facts _ l (Nat.le_refl _)).2.1 c h
theorem chunks_length (l : List UInt8) : (chunks l).length ≤ l.length + 1 := (chunks_facts _ l (Nat.le_refl _)).2.2.1
theorem chunks_full (l : List UInt8) (i : Nat) (h : i + 1 < (chunks l).length) : ((chunks l).getD i []).length = 104 := (chunks_facts _ l (Nat.le_refl _)).2.2.2 i h

theorem tornB_zero (a : List UInt8) (q : Nat) : tornB a q 0 = a.take q ++ zer (128 - q) := by unfold tornB zer; simp
theorem torn_first (a : List UInt8) (t : Int) : tornL (zer 128) a t = tornB a (tornK t) 0 := by
  rw [tornB_zero]; unfold tornL zer; rw [List.drop_replicate]
theorem torn_next (a : List UInt8) (q p : Nat) (t : Int) : tornL (tornB a q p) (zer 128) t = tornB a q (max p (tornK t)) := by
  have hk := tornK_le t
  unfold tornL
  generalize tornK t = k at *
  unfold tornB
  generalize a.take q ++ zer (128 - q) = X
  have hz : (zer 128).take k = zer k := by unfold zer; rw [List.take_replicate]; congr 1; omega
  rw [hz]
  rcases Nat.le_total k p with h | h
  · rw [Nat.max_eq_left h, List.drop_append_of_le_length (by rw [zer_length]; exact h), ← List.append_assoc]
    congr 1
    unfold zer
    rw [List.drop_replicate, List.replicate_append_replicate]
    congr 1; omega
  · rw [Nat.max_eq_right h, List.drop_append, zer_length, List.drop_of_length_le (by rw [zer_length]; exact h), List.nil_append, List.drop_drop]
    congr 2; omega
/-- What is torn of a sealed sector opens as it, or not at all. -/
theorem torn_tells {x : Stp} (hf : x.fit) {c : List UInt8} (hc : c.length ≤ 104) (q p : Nat) (hq : q ≤ 128) (hp : p ≤ 128) :
    (OpenOk (tornB (sealB x c) q p) ∧ tornB (sealB x c) q p = sealB x c) ∨ (¬ OpenOk (tornB (sealB x c) q p) ∧ tornB (sealB x c) q p ≠ sealB x c) := by
  by_cases h : OpenOk (tornB (sealB x c) q p)
  · exact .inl ⟨h, tear_open (openOk_seal hf hc) q p hq hp h⟩
  · exact .inr ⟨h, fun e => h (by rw [e]; exact openOk_seal hf hc)⟩
theorem open_seal {x : Stp} (hf : x.fit) {c : List UInt8} (hc : c.length ≤ 104) : openX (sealB x c) = x ∧ openS (sealB x c) = c ∧ openE (sealB x c) = 0 := by
  have h := openOk_seal hf hc
  unfold openX openS openE
  rw [if_pos h, if_pos h, if_pos h, stOf_seal hf, bodyOf_seal x c hc]
  exact ⟨rfl, rfl, rfl⟩
theorem seal_ok {x : Stp} (hf : x.fit) {c : List UInt8} (hc : c.length ≤ 104) : sealS x c = sealB x c ∧ sealE x c = 0 := by
  unfold sealS sealE; rw [if_pos hf, if_pos hc]; exact ⟨rfl, rfl⟩
theorem seal_unfit {x : Stp} (hf : ¬ x.fit) (c : List UInt8) : sealS x c = [] ∧ sealE x c = 1 := by
  unfold sealS sealE; rw [if_neg hf]; exact ⟨rfl, rfl⟩
theorem zer_not_open : ¬ OpenOk (zer 128) := by decide +kernel
end Go.Proofs.YtoojdknfommpbaaDoor
