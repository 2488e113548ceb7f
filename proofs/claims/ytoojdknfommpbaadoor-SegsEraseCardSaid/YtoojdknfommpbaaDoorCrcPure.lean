/- The sums of octets as plain functions on 32-bit words: what they are, and their laws. No program in sight. -/
import Derived.Laws.BitsLemmas
namespace Go.Proofs.YtoojdknfommpbaaDoor

/-- A 32-bit word as the model's number. -/
def W (x : BitVec 32) : Int := (x.toNat : Int)
theorem W_nonneg (x : BitVec 32) : 0 ≤ W x := Int.natCast_nonneg _
theorem W_lt (x : BitVec 32) : W x < 4294967296 := by
  have := x.isLt; unfold W; omega
theorem W_of (n : Int) (h0 : 0 ≤ n) (h1 : n < 4294967296) : ∃ x : BitVec 32, n = W x := by
  refine ⟨BitVec.ofInt 32 n, ?_⟩
  unfold W; rw [BitVec.toNat_ofInt]; omega
theorem W_inj {x y : BitVec 32} (h : W x = W y) : x = y := by
  unfold W at h; exact BitVec.eq_of_toNat_eq (by omega)
theorem ofInt_W (x : BitVec 32) : BitVec.ofInt IntKind.u32.bits (W x) = x := by
  show BitVec.ofInt 32 ((x.toNat : Nat) : Int) = x
  simp
theorem wrap_W (x : BitVec 32) : IntKind.u32.wrap (x.toNat : Int) = W x := by
  have := x.isLt
  rw [IntKind.wrap_u32]; unfold W; omega
theorem bits_xor_W (x y : BitVec 32) : bits .xor .u32 (W x) (W y) = W (x ^^^ y) := by
  show IntKind.u32.wrap ((BitVec.ofInt IntKind.u32.bits (W x) ^^^ BitVec.ofInt IntKind.u32.bits (W y)).toNat : Int) = _
  rw [ofInt_W, ofInt_W]; exact wrap_W _
theorem bits_and_W (x y : BitVec 32) : bits .and .u32 (W x) (W y) = W (x &&& y) := by
  show IntKind.u32.wrap ((BitVec.ofInt IntKind.u32.bits (W x) &&& BitVec.ofInt IntKind.u32.bits (W y)).toNat : Int) = _
  rw [ofInt_W, ofInt_W]; exact wrap_W _
theorem bits_or_W (x y : BitVec 32) : bits .or .u32 (W x) (W y) = W (x ||| y) := by
  show IntKind.u32.wrap ((BitVec.ofInt IntKind.u32.bits (W x) ||| BitVec.ofInt IntKind.u32.bits (W y)).toNat : Int) = _
  rw [ofInt_W, ofInt_W]; exact wrap_W _
theorem W_shr1 (x : BitVec 32) : W x / (2 : Int) = W (x >>> (1 : Nat)) := by
  unfold W; rw [BitVec.toNat_ushiftRight, Nat.shiftRight_eq_div_pow]; omega
theorem W_one : (1 : Int) = W 1#32 := rfl
theorem W_low (x : BitVec 32) : (bits .and .u32 (W x) 1 == 1) = x.getLsbD 0 := by
  rw [W_one, bits_and_W]
  have h1 : (x &&& 1#32).toNat = x.toNat % 2 := by
    rw [BitVec.toNat_and]; exact Nat.and_one_is_mod _
  have h2 : x.getLsbD 0 = decide (x.toNat % 2 = 1) := by
    unfold BitVec.getLsbD; rw [Nat.testBit_zero]
  rw [h2]
  have h3 : W (x &&& 1#32) = ((x.toNat % 2 : Nat) : Int) := by unfold W; rw [h1]
  rw [h3]
  by_cases h : x.toNat % 2 = 1
  · rw [h]; rfl
  · have h0 : x.toNat % 2 = 0 := by omega
    rw [h0]; rfl
theorem W_mod2 (x : BitVec 32) : (W x % 2 == 1) = x.getLsbD 0 := by
  have h2 : x.getLsbD 0 = decide (x.toNat % 2 = 1) := by
    unfold BitVec.getLsbD; rw [Nat.testBit_zero]
  rw [h2]; unfold W
  by_cases h : x.toNat % 2 = 1
  · have : ((x.toNat : Int) % 2) = 1 := by omega
    rw [this]; simp [h]
  · have : ((x.toNat : Int) % 2) = 0 := by omega
    rw [this]; simp [h]

/-! ### one step, an octet, octets -/
def polyB : BitVec 32 := 0xedb88320#32
def stepB (x : BitVec 32) : BitVec 32 := if x.getLsbD 0 = true then (x >>> 1) ^^^ polyB else x >>> 1
def stepsB : Nat → BitVec 32 → BitVec 32
  | 0, x => x
  | k + 1, x => stepsB k (stepB x)
def octB (b : UInt8) : BitVec 32 := BitVec.ofNat 32 b.toNat
def comeB (x : BitVec 32) (b : UInt8) : BitVec 32 := stepsB 8 (x ^^^ octB b)
def moreB (x : BitVec 32) (l : List UInt8) : BitVec 32 := ~~~ (l.foldl comeB (~~~ x))
def sumB (l : List UInt8) : BitVec 32 := moreB 0#32 l

theorem W_oct (b : UInt8) : (b.toNat : Int) = W (octB b) := by
  have := b.toNat_lt
  unfold W octB; rw [BitVec.toNat_ofNat]; omega
theorem W_poly : (3988292384 : Int) = W polyB := rfl
theorem W_full : IntKind.u32.max = W (BitVec.allOnes 32) := by decide
theorem W_not (x : BitVec 32) : bits .xor .u32 IntKind.u32.max (W x) = W (~~~ x) := by
  rw [W_full, bits_xor_W, BitVec.xor_comm, BitVec.xor_allOnes]
theorem stepsB_add (j k : Nat) (x : BitVec 32) : stepsB (j + k) x = stepsB k (stepsB j x) := by
  induction j generalizing x with
  | zero => simp [stepsB]
  | succ j ih => rw [show j + 1 + k = (j + k) + 1 by omega]; simp only [stepsB]; exact ih _
theorem stepsB_succ (k : Nat) (x : BitVec 32) : stepsB (k + 1) x = stepB (stepsB k x) := by
  rw [stepsB_add]; rfl
theorem step_true (x : BitVec 32) (h : x.getLsbD 0 = true) : bits .xor .u32 (W x / 2) 3988292384 = W (stepB x) := by
  rw [W_shr1, W_poly, bits_xor_W, stepB, if_pos h]
theorem step_false (x : BitVec 32) (h : x.getLsbD 0 = false) : W x / 2 = W (stepB x) := by
  rw [W_shr1, stepB, if_neg (by rw [h]; decide)]

/-! ### the octets of a sum -/
def octetsB (x : BitVec 32) : List UInt8 := [UInt8.ofNat (x.toNat / 16777216), UInt8.ofNat (x.toNat / 65536), UInt8.ofNat (x.toNat / 256), UInt8.ofNat x.toNat]
theorem octetsB_length (x : BitVec 32) : (octetsB x).length = 4 := rfl
def readB (a b c d : UInt8) : BitVec 32 := BitVec.ofNat 32 (((a.toNat * 256 + b.toNat) * 256 + c.toNat) * 256 + d.toNat)
theorem readB_octetsB (x : BitVec 32) : ∀ a b c d, octetsB x = [a, b, c, d] → readB a b c d = x := by
  intro a b c d h
  unfold octetsB at h
  simp only [List.cons.injEq, and_true] at h
  obtain ⟨rfl, rfl, rfl, rfl⟩ := h
  have := x.isLt
  apply BitVec.eq_of_toNat_eq
  unfold readB
  simp only [BitVec.toNat_ofNat, UInt8.toNat_ofNat']
  omega
theorem octetsB_inj {x y : BitVec 32} (h : octetsB x = octetsB y) : x = y := by
  rw [← readB_octetsB x _ _ _ _ rfl]; exact readB_octetsB y _ _ _ _ h.symm

/-! ### parts -/
theorem moreB_append (x : BitVec 32) (l m : List UInt8) : moreB x (l ++ m) = moreB (moreB x l) m := by
  unfold moreB; rw [List.foldl_append, BitVec.not_not]
theorem moreB_nil (x : BitVec 32) : moreB x [] = x := by unfold moreB; simp

/-! ### turned bits -/
theorem stepB_xor (x y : BitVec 32) : stepB (x ^^^ y) = stepB x ^^^ stepB y := by
  unfold stepB
  rw [BitVec.getLsbD_xor]
  have hs : (x ^^^ y) >>> 1 = (x >>> 1) ^^^ (y >>> 1) := BitVec.ushiftRight_xor_distrib _ _ _
  rw [hs]
  cases x.getLsbD 0 <;> cases y.getLsbD 0 <;> simp
  · rw [BitVec.xor_assoc]
  · rw [BitVec.xor_assoc, BitVec.xor_assoc, BitVec.xor_comm polyB]
  · rw [BitVec.xor_assoc, ← BitVec.xor_assoc polyB, BitVec.xor_comm polyB, BitVec.xor_assoc, BitVec.xor_self, BitVec.xor_zero]
theorem stepB_top (x : BitVec 32) : (stepB x).getLsbD 31 = x.getLsbD 0 := by
  unfold stepB
  cases h : x.getLsbD 0 <;> simp [polyB]
theorem stepB_inj {x y : BitVec 32} (h : stepB x = stepB y) : x = y := by
  have h0 : x.getLsbD 0 = y.getLsbD 0 := by rw [← stepB_top x, h, stepB_top]
  have hs : x >>> 1 = y >>> 1 := by
    unfold stepB at h
    rw [h0] at h
    cases hy : y.getLsbD 0 with
    | false => rw [hy] at h; simpa using h
    | true =>
      rw [hy, if_pos rfl, if_pos rfl] at h
      have h2 := congrArg (fun z => z ^^^ polyB) h
      simpa [BitVec.xor_assoc] using h2
  apply BitVec.eq_of_getLsbD_eq
  intro i hi
  cases i with
  | zero => exact h0
  | succ i =>
    have := congrArg (fun z => z.getLsbD i) hs
    simpa [BitVec.getLsbD_ushiftRight, Nat.add_comm] using this
theorem stepsB_xor (k : Nat) (x y : BitVec 32) : stepsB k (x ^^^ y) = stepsB k x ^^^ stepsB k y := by
  induction k generalizing x y with
  | zero => rfl
  | succ k ih => simp only [stepsB]; rw [stepB_xor, ih]
theorem stepB_zero : stepB 0#32 = 0#32 := by decide
theorem stepsB_zero (k : Nat) : stepsB k 0#32 = 0#32 := by
  induction k with
  | zero => rfl
  | succ k ih => simp only [stepsB]; rw [stepB_zero]; exact ih
theorem stepsB_inj (k : Nat) {x y : BitVec 32} (h : stepsB k x = stepsB k y) : x = y := by
  induction k generalizing x y with
  | zero => exact h
  | succ k ih => exact stepB_inj (ih h)
theorem comeB_xor (x y : BitVec 32) (b : UInt8) : comeB (x ^^^ y) b = comeB x b ^^^ stepsB 8 y := by
  unfold comeB
  rw [← stepsB_xor]; congr 1
  rw [BitVec.xor_assoc, BitVec.xor_assoc, BitVec.xor_comm y]

theorem octB_xor (b c : UInt8) : octB (b ^^^ c) = octB b ^^^ octB c := by
  apply BitVec.eq_of_toNat_eq
  have h1 := b.toNat_lt; have h2 := c.toNat_lt; have h3 := (b ^^^ c).toNat_lt
  unfold octB
  simp only [BitVec.toNat_ofNat, BitVec.toNat_xor, UInt8.toNat_xor]
  rw [Nat.mod_eq_of_lt (a := b.toNat) (by omega), Nat.mod_eq_of_lt (a := c.toNat) (by omega)]
  exact Nat.mod_eq_of_lt (by rw [UInt8.toNat_xor] at h3; omega)
theorem comeB_byte (x : BitVec 32) (b c : UInt8) : comeB x (b ^^^ c) = comeB x b ^^^ stepsB 8 (octB c) := by
  unfold comeB
  rw [octB_xor, ← BitVec.xor_assoc, stepsB_xor]
theorem foldl_xor (l : List UInt8) (x y : BitVec 32) : l.foldl comeB (x ^^^ y) = l.foldl comeB x ^^^ stepsB (8 * l.length) y := by
  induction l generalizing x y with
  | nil => rfl
  | cons b l ih =>
    simp only [List.foldl_cons]
    rw [comeB_xor, ih, ← stepsB_add, List.length_cons, show 8 + 8 * l.length = 8 * (l.length + 1) by omega]
theorem foldl_set (l : List UInt8) (i : Nat) (h : i < l.length) (c : UInt8) (x : BitVec 32) :
    (l.set i (l[i] ^^^ c)).foldl comeB x = l.foldl comeB x ^^^ stepsB (8 * (l.length - i)) (octB c) := by
  induction l generalizing i x with
  | nil => simp at h
  | cons b l ih =>
    cases i with
    | zero =>
      simp only [List.getElem_cons_zero, List.set_cons_zero, List.foldl_cons, List.length_cons, Nat.sub_zero]
      rw [comeB_byte, foldl_xor, ← stepsB_add, show 8 + 8 * l.length = 8 * (l.length + 1) by omega]
    | succ i =>
      simp only [List.getElem_cons_succ, List.set_cons_succ, List.foldl_cons, List.length_cons]
      rw [ih, show l.length + 1 - (i + 1) = l.length - i by omega]
theorem sumB_set (l : List UInt8) (i : Nat) (h : i < l.length) (c : UInt8) :
    sumB (l.set i (l[i] ^^^ c)) = sumB l ^^^ stepsB (8 * (l.length - i)) (octB c) := by
  unfold sumB moreB
  rw [foldl_set, BitVec.not_xor_left]
theorem step_shift : ∀ k : Fin 31, stepB (1#32 <<< (k.val + 1)) = 1#32 <<< k.val := by decide
theorem steps_shift (k r : Nat) (hk : k < 32) : stepsB (k + r) (1#32 <<< k) = stepsB r 1#32 := by
  induction k with
  | zero => simp
  | succ k ih =>
    rw [show k + 1 + r = (k + r) + 1 by omega]
    simp only [stepsB]
    rw [step_shift ⟨k, by omega⟩]
    exact ih (by omega)
theorem octB_bit : ∀ j : Fin 8, octB ((1 : UInt8) <<< UInt8.ofNat j.val) = 1#32 <<< j.val := by decide
/-- One bit turned: the sum turns by what that bit alone comes to. -/
theorem sumB_flip (l : List UInt8) (p f k : Nat) (hp : p = f + k) (hk : k < 32) (h : p < 8 * l.length) :
    sumB (l.set (p / 8) (l[p / 8]'(by omega) ^^^ ((1 : UInt8) <<< UInt8.ofNat (p % 8)))) = sumB l ^^^ stepsB (8 * l.length - f) (1#32 <<< k) := by
  rw [sumB_set l (p / 8) (by omega), octB_bit ⟨p % 8, by omega⟩]
  congr 1
  rw [show 8 * (l.length - p / 8) = p % 8 + (8 * l.length - p) by omega, steps_shift _ _ (by omega),
    show 8 * l.length - f = k + (8 * l.length - p) by omega, steps_shift _ _ hk]
/-- The turned bits so far: the word below place k. -/
def Below32 (w : BitVec 32) (k : Nat) : Prop := ∀ i, k ≤ i → w.getLsbD i = false
theorem Below32.zero (k : Nat) : Below32 0#32 k := fun i _ => by simp
theorem Below32.next {w : BitVec 32} {k : Nat} (h : Below32 w k) : Below32 w (k + 1) := fun i hi => h i (by omega)
theorem Below32.flip {w : BitVec 32} {k : Nat} (h : Below32 w k) : Below32 (w ^^^ (1#32 <<< k)) (k + 1) := fun i hi => by
  rw [BitVec.getLsbD_xor, h i (by omega), BitVec.getLsbD_shiftLeft]
  have : ¬ i - k = 0 := by omega
  simp [this]
theorem Below32.flip_ne {w : BitVec 32} {k : Nat} (h : Below32 w k) (hk : k < 32) : w ^^^ (1#32 <<< k) ≠ 0#32 := by
  intro e
  have := congrArg (fun z => z.getLsbD k) e
  simp only [BitVec.getLsbD_xor, h k (Nat.le_refl _), BitVec.getLsbD_shiftLeft] at this
  simp [hk] at this
theorem turned_iff (r : Nat) (s w : BitVec 32) : (s ^^^ stepsB r w = s) ↔ w = 0#32 := by
  constructor
  · intro h
    have h1 : stepsB r w = 0#32 := by
      have := congrArg (fun z => s ^^^ z) h
      simpa [← BitVec.xor_assoc] using this
    exact stepsB_inj r (h1.trans (stepsB_zero r).symm)
  · rintro rfl
    rw [stepsB_zero]; simp
end Go.Proofs.YtoojdknfommpbaaDoor
