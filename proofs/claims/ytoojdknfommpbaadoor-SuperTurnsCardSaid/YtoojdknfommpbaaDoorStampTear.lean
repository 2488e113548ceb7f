/- A sector that is torn: what is left of a sealed one opens as that sealed one, or not at all. No program in sight. -/
import Derived.Test.YtoojdknfommpbaaDoorStampPure
namespace Go.Proofs.YtoojdknfommpbaaDoor

/-! ### four neighbouring octets that leave the sum -/
theorem stepB_even (x : BitVec 32) (h : x.getLsbD 0 = false) : stepB x = x >>> 1 := by unfold stepB; rw [if_neg (by rw [h]; decide)]
theorem foldl_inj (l : List UInt8) {x y : BitVec 32} (h : l.foldl comeB x = l.foldl comeB y) : x = y := by
  induction l generalizing x y with
  | nil => exact h
  | cons b l ih =>
    simp only [List.foldl_cons] at h
    have h2 := ih h
    unfold comeB at h2
    have h3 := stepsB_inj 8 h2
    have h4 := congrArg (fun z => z ^^^ octB b) h3
    simpa [BitVec.xor_assoc] using h4
/-- A word whose low j bits are 0, behind j steps: shifted. -/
theorem steps_shl (j : Nat) (x : BitVec 32) (h : x.toNat * 2 ^ j < 2 ^ 32) : stepsB j (x <<< j) = x := by
  induction j with
  | zero => simp [stepsB]
  | succ j ih =>
    have h0 : (x <<< (j + 1)).getLsbD 0 = false := by simp
    have hs : stepB (x <<< (j + 1)) = x <<< j := by
      rw [stepB_even _ h0]
      apply BitVec.eq_of_toNat_eq
      rw [BitVec.toNat_ushiftRight, BitVec.toNat_shiftLeft, BitVec.toNat_shiftLeft, Nat.shiftRight_eq_div_pow, Nat.shiftLeft_eq, Nat.shiftLeft_eq]
      have h' : x.toNat * 2 ^ j * 2 < 2 ^ 32 := by rw [Nat.mul_assoc, ← Nat.pow_succ]; exact h
      rw [Nat.mod_eq_of_lt h, Nat.mod_eq_of_lt (by omega), Nat.pow_succ, ← Nat.mul_assoc]; omega
    simp only [stepsB]
    rw [hs]; exact ih (by have h' : x.toNat * 2 ^ j * 2 < 2 ^ 32 := by rw [Nat.mul_assoc, ← Nat.pow_succ]; exact h
                          omega)
def wordB (a b c d : UInt8) : BitVec 32 := octB a ^^^ (octB b <<< 8) ^^^ (octB c <<< 16) ^^^ (octB d <<< 24)
theorem oct_lt (b : UInt8) : (octB b).toNat < 256 := by
  have := b.toNat_lt
  unfold octB; rw [BitVec.toNat_ofNat]; omega
theorem oct_steps (b : UInt8) (j : Nat) (hj : j ≤ 24) : stepsB j (octB b <<< j) = octB b := by
  apply steps_shl
  have h1 := oct_lt b
  have h2 : 2 ^ j ≤ 2 ^ 24 := Nat.pow_le_pow_right (by decide) hj
  calc (octB b).toNat * 2 ^ j ≤ 255 * 2 ^ 24 := Nat.mul_le_mul (by omega) h2
    _ < 2 ^ 32 := by decide
theorem four_steps (x : BitVec 32) (a b c d : UInt8) : [a, b, c, d].foldl comeB x = stepsB 32 (x ^^^ wordB a b c d) := by
  have e1 : stepsB 32 (x ^^^ wordB a b c d) = stepsB 8 (stepsB 8 (stepsB 8 (stepsB 8 (x ^^^ octB a) ^^^ octB b) ^^^ octB c) ^^^ octB d) := by
    have f (z : UInt8) (i : Nat) (hi : i ≤ 16) : stepsB 8 (octB z <<< (i + 8)) = octB z <<< i := by
      rw [show octB z <<< (i + 8) = (octB z <<< i) <<< 8 by rw [BitVec.shiftLeft_add]]
      apply steps_shl
      have h1 := oct_lt z
      have h2 : 2 ^ i ≤ 2 ^ 16 := Nat.pow_le_pow_right (by decide) hi
      have h3 : (octB z).toNat * 2 ^ i ≤ 255 * 2 ^ 16 := Nat.mul_le_mul (by omega) h2
      rw [BitVec.toNat_shiftLeft, Nat.shiftLeft_eq, Nat.mod_eq_of_lt (by omega)]
      omega
    have g1 : stepsB 8 (x ^^^ wordB a b c d) = stepsB 8 (x ^^^ octB a) ^^^ octB b ^^^ (octB c <<< 8) ^^^ (octB d <<< 16) := by
      unfold wordB
      rw [← BitVec.xor_assoc, ← BitVec.xor_assoc, ← BitVec.xor_assoc, stepsB_xor, stepsB_xor, stepsB_xor, oct_steps b 8 (by omega)]
      rw [show stepsB 8 (octB c <<< 16) = octB c <<< 8 from f c 8 (by omega), show stepsB 8 (octB d <<< 24) = octB d <<< 16 from f d 16 (by omega)]
    have g2 : stepsB 8 (stepsB 8 (x ^^^ octB a) ^^^ octB b ^^^ (octB c <<< 8) ^^^ (octB d <<< 16)) = stepsB 8 (stepsB 8 (x ^^^ octB a) ^^^ octB b) ^^^ octB c ^^^ (octB d <<< 8) := by
      rw [stepsB_xor, stepsB_xor, oct_steps c 8 (by omega), show stepsB 8 (octB d <<< 16) = octB d <<< 8 from f d 8 (by omega)]
    have g3 : stepsB 8 (stepsB 8 (stepsB 8 (x ^^^ octB a) ^^^ octB b) ^^^ octB c ^^^ (octB d <<< 8)) = stepsB 8 (stepsB 8 (stepsB 8 (x ^^^ octB a) ^^^ octB b) ^^^ octB c) ^^^ octB d := by
      rw [stepsB_xor, oct_steps d 8 (by omega)]
    have g0 : ∀ y, stepsB 32 y = stepsB 8 (stepsB 8 (stepsB 8 (stepsB 8 y))) := fun y => by rw [← stepsB_add, ← stepsB_add, ← stepsB_add]
    rw [g0, g1, g2, g3]
  rw [e1]; rfl
theorem oct_bit (b : UInt8) (i : Nat) (hi : i < 32) : (octB b).getLsbD i = b.toNat.testBit i := by unfold octB; rw [BitVec.getLsbD_ofNat]; simp [hi]
theorem oct_hi (b : UInt8) (i : Nat) (h : 8 ≤ i) : b.toNat.testBit i = false := Nat.testBit_lt_two_pow (Nat.lt_of_lt_of_le b.toNat_lt (by
  have : (2 : Nat) ^ 8 ≤ 2 ^ i := Nat.pow_le_pow_right (by decide) h
  exact this))
theorem word_bit (a b c d : UInt8) (i : Nat) (hi : i < 32) : (wordB a b c d).getLsbD i = if i < 8 then a.toNat.testBit i else if i < 16 then b.toNat.testBit (i - 8) else if i < 24 then c.toNat.testBit (i - 16) else d.toNat.testBit (i - 24) := by
  unfold wordB
  simp only [BitVec.getLsbD_xor, BitVec.getLsbD_shiftLeft, hi, decide_true, Bool.true_and]
  rw [oct_bit a i hi, oct_bit b (i - 8) (by omega), oct_bit c (i - 16) (by omega), oct_bit d (i - 24) (by omega)]
  by_cases h1 : i < 8
  · rw [if_pos h1]; simp [h1, show i < 16 by omega, show i < 24 by omega]
  · rw [if_neg h1, oct_hi a i (by omega)]
    by_cases h2 : i < 16
    · rw [if_pos h2]; simp [h1, h2, show i < 24 by omega]
    · rw [if_neg h2, oct_hi b (i - 8) (by omega)]
      by_cases h3 : i < 24
      · rw [if_pos h3]; simp [h2, h3]
      · rw [if_neg h3, oct_hi c (i - 16) (by omega)]; simp [h3]
theorem byte_ext {a b : UInt8} (h : ∀ i, i < 8 → a.toNat.testBit i = b.toNat.testBit i) : a = b := by
  apply UInt8.toNat_inj.1
  apply Nat.eq_of_testBit_eq
  intro i
  by_cases hi : i < 8
  · exact h i hi
  · rw [oct_hi a i (by omega), oct_hi b i (by omega)]
theorem word_inj {a b c d a' b' c' d' : UInt8} (h : wordB a b c d = wordB a' b' c' d') : a = a' ∧ b = b' ∧ c = c' ∧ d = d' := by
  have g : ∀ i, i < 32 → (wordB a b c d).getLsbD i = (wordB a' b' c' d').getLsbD i := fun i _ => by rw [h]
  refine ⟨byte_ext fun i hi => ?_, byte_ext fun i hi => ?_, byte_ext fun i hi => ?_, byte_ext fun i hi => ?_⟩
  · have := g i (by omega)
    rw [word_bit _ _ _ _ i (by omega), word_bit _ _ _ _ i (by omega), if_pos hi, if_pos hi] at this; exact this
  · have := g (i + 8) (by omega)
    rw [word_bit _ _ _ _ _ (by omega), word_bit _ _ _ _ _ (by omega)] at this
    simpa [show ¬ i + 8 < 8 by omega, show i + 8 < 16 by omega] using this
  · have := g (i + 16) (by omega)
    rw [word_bit _ _ _ _ _ (by omega), word_bit _ _ _ _ _ (by omega)] at this
    simpa [show ¬ i + 16 < 8 by omega, show ¬ i + 16 < 16 by omega, show i + 16 < 24 by omega] using this
  · have := g (i + 24) (by omega)
    rw [word_bit _ _ _ _ _ (by omega), word_bit _ _ _ _ _ (by omega)] at this
    simpa [show ¬ i + 24 < 8 by omega, show ¬ i + 24 < 16 by omega, show ¬ i + 24 < 24 by omega] using this
theorem sum_four (p q : List UInt8) (a b c d a' b' c' d' : UInt8) (h : sumB (p ++ [a, b, c, d] ++ q) = sumB (p ++ [a', b', c', d'] ++ q)) : a = a' ∧ b = b' ∧ c = c' ∧ d = d' := by
  unfold sumB moreB at h
  have h2 := congrArg (fun z => ~~~ z) h
  simp only [BitVec.not_not, List.foldl_append] at h2
  have h3 := foldl_inj q h2
  rw [four_steps, four_steps] at h3
  have h4 := stepsB_inj 32 h3
  apply word_inj
  have h5 := congrArg (fun z => List.foldl comeB (~~~ 0#32) p ^^^ z) h4
  simpa [← BitVec.xor_assoc] using h5
/-! ### the tear -/
theorem agree {a b : List UInt8} (ha : a.length = 128) (hb : b.length = 128) (lo hi : Nat) (hh : hi ≤ 128) (h : ∀ j, lo ≤ j → j < hi → b.getD j 0 = a.getD j 0) : (b.take hi).drop lo = (a.take hi).drop lo := by
  apply List.ext_getElem
  · simp [ha, hb]
  · intro i h1 h2
    have hi1 : i + lo < hi := by simp at h1; omega
    have := h (lo + i) (by omega) (by omega)
    rw [List.getD_eq_getElem?_getD, List.getD_eq_getElem?_getD, List.getElem?_eq_getElem (by omega), List.getElem?_eq_getElem (by omega)] at this
    simpa using this
theorem first_five (l : List UInt8) (h : 12 ≤ l.length) : l.take 12 = [l.getD 0 0] ++ [l.getD 1 0, l.getD 2 0, l.getD 3 0, l.getD 4 0] ++ (l.take 12).drop 5 := by
  match l, h with
  | b0 :: b1 :: b2 :: b3 :: b4 :: t, _ => simp
  | [], h => simp at h
  | [_], h => simp at h
  | [_, _], h => simp at h
  | [_, _, _], h => simp at h
  | [_, _, _, _], h => simp at h
def tornB (a : List UInt8) (q p : Nat) : List UInt8 := zer p ++ (a.take q ++ zer (128 - q)).drop p
theorem tornB_length {a : List UInt8} (ha : a.length = 128) (q p : Nat) (hq : q ≤ 128) (hp : p ≤ 128) : (tornB a q p).length = 128 := by
  unfold tornB; simp [zer_length, ha]; omega
theorem tornB_get {a : List UInt8} (ha : a.length = 128) (q p : Nat) (hq : q ≤ 128) (j : Nat) : (tornB a q p).getD j 0 = if p ≤ j ∧ j < q then a.getD j 0 else 0 := by
  unfold tornB
  rw [List.getD_eq_getElem?_getD]
  by_cases h1 : j < p
  · rw [List.getElem?_append_left (by rw [zer_length]; exact h1), if_neg (by omega)]
    unfold zer; rw [List.getElem?_replicate]; simp [h1]
  · rw [List.getElem?_append_right (by rw [zer_length]; omega), zer_length, List.getElem?_drop, show p + (j - p) = j by omega]
    by_cases h2 : j < q
    · rw [if_pos ⟨by omega, h2⟩, List.getElem?_append_left (by rw [List.length_take, ha]; omega), List.getElem?_take_of_lt h2, List.getD_eq_getElem?_getD]
    · rw [if_neg (by omega), List.getElem?_append_right (by rw [List.length_take, ha]; omega)]
      unfold zer; rw [List.getElem?_replicate]; split <;> rfl
theorem getD_take {l : List UInt8} {n j : Nat} (h : j < n) : (l.take n).getD j 0 = l.getD j 0 := by
  rw [List.getD_eq_getElem?_getD, List.getD_eq_getElem?_getD, List.getElem?_take_of_lt h]
theorem getD_drop {l : List UInt8} {n j : Nat} : (l.drop n).getD j 0 = l.getD (n + j) 0 := by
  rw [List.getD_eq_getElem?_getD, List.getD_eq_getElem?_getD, List.getElem?_drop]
theorem all_zer {l : List UInt8} {n : Nat} (h : l.length = n) (hz : ∀ j, j < n → l.getD j 0 = 0) : l = zer n := by
  apply List.ext_getElem
  · rw [h, zer_length]
  · intro i h1 h2
    have := hz i (by omega)
    rw [List.getD_eq_getElem?_getD, List.getElem?_eq_getElem h1] at this
    simpa [zer] using this
theorem tear_open {a : List UInt8} (hA : OpenOk a) (q p : Nat) (hq : q ≤ 128) (hp : p ≤ 128) (hB : OpenOk (tornB a q p)) : tornB a q p = a := by
  have ha := hA.1
  have hb := tornB_length ha q p hq hp
  have gB := tornB_get ha q p hq
  generalize tornB a q p = b at *
  obtain ⟨a1, a2, a3, a4, a5⟩ := (openOk_iff ha).1 hA
  obtain ⟨b1, b2, b3, b4, b5⟩ := (openOk_iff hb).1 hB
  have mk : ∀ (l : List UInt8), l.take 8 = l.drop 120 → ∀ j, j < 8 → l.getD j 0 = l.getD (120 + j) 0 := fun l h j hj => by
    rw [← getD_take hj, h, getD_drop]
  have ma := mk a a1
  have mb := mk b b1
  have hnz : ∃ j, j < 6 ∧ b.getD j 0 ≠ 0 := by
    apply Classical.byContradiction
    intro hno
    have hz : b.take 6 = zer 6 := all_zer (by rw [List.length_take, hb]; rfl) (fun j hj => by
      rw [getD_take hj]
      apply Classical.byContradiction
      intro h; exact hno ⟨j, hj, h⟩)
    have h1 := b2.1
    unfold stOf at h1
    simp only at h1
    rw [hz, ← beB_zero, rdT_beB 6 0 (by decide)] at h1
    omega
  obtain ⟨j0, hj0, hj0n⟩ := hnz
  have hp5 : p ≤ 5 := by
    have := gB j0
    by_cases h : p ≤ j0 ∧ j0 < q
    · omega
    · rw [if_neg h] at this; exact absurd this hj0n
  have hq120 : 120 < q := by
    have h1 := mb j0 (by omega)
    have := gB (120 + j0)
    by_cases h : p ≤ 120 + j0 ∧ 120 + j0 < q
    · omega
    · rw [if_neg h, ← h1] at this; exact absurd this hj0n
  have mid : ∀ j, 5 ≤ j → j < 121 → b.getD j 0 = a.getD j 0 := fun j h1 h2 => by rw [gB, if_pos ⟨by omega, by omega⟩]
  have z0 : b.getD 0 0 = a.getD 0 0 := by
    rw [mb 0 (by omega), ma 0 (by omega)]; exact mid 120 (by omega) (by omega)
  have hlen : lenOf b = lenOf a := by
    unfold lenOf
    rw [agree ha hb 10 12 (by omega) (fun j h1 h2 => mid j (by omega) (by omega))]
  have hbody : bodyOf b = bodyOf a := by
    unfold bodyOf
    rw [hlen, agree ha hb 16 (16 + lenOf a) (by omega) (fun j h1 h2 => mid j (by omega) (by omega))]
  have hsum : sumB (b.take 12 ++ bodyOf a) = sumB (a.take 12 ++ bodyOf a) := by
    have e1 : octetsB (moreB (sumB (b.take 12)) (bodyOf b)) = octetsB (moreB (sumB (a.take 12)) (bodyOf a)) := by
      rw [b5, a5]; exact agree ha hb 12 16 (by omega) (fun j h1 h2 => mid j (by omega) (by omega))
    have e2 := octetsB_inj e1
    rw [hbody] at e2
    unfold sumB at *
    rw [moreB_append, moreB_append]; exact e2
  have key : ∀ l : List UInt8, 12 ≤ l.length → l.take 12 ++ bodyOf a = [l.getD 0 0] ++ [l.getD 1 0, l.getD 2 0, l.getD 3 0, l.getD 4 0] ++ ((l.take 12).drop 5 ++ bodyOf a) := fun l h => by
    rw [← List.append_assoc, ← first_five l h]
  rw [key b (by omega), key a (by omega), z0, agree ha hb 5 12 (by omega) (fun j h1 h2 => mid j (by omega) (by omega))] at hsum
  obtain ⟨f1, f2, f3, f4⟩ := sum_four _ _ _ _ _ _ _ _ _ _ hsum
  have low : ∀ j, j < 121 → b.getD j 0 = a.getD j 0 := fun j hj => by
    rcases (show j = 0 ∨ j = 1 ∨ j = 2 ∨ j = 3 ∨ j = 4 ∨ 5 ≤ j by omega) with rfl | rfl | rfl | rfl | rfl | h
    · exact z0
    · exact f1
    · exact f2
    · exact f3
    · exact f4
    · exact mid j h hj
  apply List.ext_getElem
  · rw [hb, ha]
  · intro j h1 h2
    have e : b.getD j 0 = a.getD j 0 := by
      by_cases hj : j < 121
      · exact low j hj
      · have := mb (j - 120) (by omega)
        rw [show 120 + (j - 120) = j by omega] at this
        rw [← this, low _ (by omega), ma (j - 120) (by omega), show 120 + (j - 120) = j by omega]
    rw [List.getD_eq_getElem?_getD, List.getD_eq_getElem?_getD, List.getElem?_eq_getElem h1, List.getElem?_eq_getElem h2] at e
    exact e
end Go.Proofs.YtoojdknfommpbaaDoor
