/- Sealed sectors as plain functions on lists of octets: numbers, the seal, what opens, what is torn. No program in sight. -/
import Derived.Test.YtoojdknfommpbaaDoorCrcPure
namespace Go.Proofs.YtoojdknfommpbaaDoor

/-! ### numbers as octets, the highest first -/
def beB : Nat → Nat → List UInt8
  | 0, _ => []
  | k + 1, n => beB k (n / 256) ++ [UInt8.ofNat n]
def rdT (l : List UInt8) : Nat := l.foldl (fun n b => n * 256 + b.toNat) 0
theorem beB_length (k n : Nat) : (beB k n).length = k := by
  induction k generalizing n with
  | zero => rfl
  | succ k ih => simp [beB, ih]
theorem rdT_snoc (l : List UInt8) (b : UInt8) : rdT (l ++ [b]) = rdT l * 256 + b.toNat := by
  unfold rdT; rw [List.foldl_append]; rfl
theorem rdT_nil : rdT [] = 0 := rfl
theorem rdT_lt (l : List UInt8) : rdT l < 256 ^ l.length := by
  rw [← List.reverse_reverse l]
  generalize l.reverse = m
  induction m with
  | nil => decide
  | cons b m ih =>
    have hb := b.toNat_lt
    rw [List.reverse_cons, rdT_snoc, List.length_append, List.length_singleton, Nat.pow_succ]
    omega
theorem rdT_beB (k n : Nat) (h : n < 256 ^ k) : rdT (beB k n) = n := by
  induction k generalizing n with
  | zero => simp at h; subst h; rfl
  | succ k ih =>
    have h2 : n < 256 ^ k * 256 := by rw [← Nat.pow_succ]; exact h
    rw [beB, rdT_snoc, ih _ (by rw [Nat.div_lt_iff_lt_mul (by decide)]; exact h2), UInt8.toNat_ofNat']
    omega
theorem beB_rdT (l : List UInt8) : beB l.length (rdT l) = l := by
  rw [← List.reverse_reverse l]
  generalize l.reverse = m
  induction m with
  | nil => rfl
  | cons b m ih =>
    have hb := b.toNat_lt
    rw [List.reverse_cons, rdT_snoc, List.length_append, List.length_singleton, beB]
    rw [show (rdT m.reverse * 256 + b.toNat) / 256 = rdT m.reverse by omega, ih]
    congr 2
    apply UInt8.toNat_inj.1; rw [UInt8.toNat_ofNat']; omega
theorem beB_rdT' {l : List UInt8} {k : Nat} (h : l.length = k) : beB k (rdT l) = l := by subst h; exact beB_rdT l
def zer (k : Nat) : List UInt8 := List.replicate k 0
theorem zer_length (k : Nat) : (zer k).length = k := by simp [zer]
theorem beB_zero (k : Nat) : beB k 0 = zer k := by
  induction k with
  | zero => rfl
  | succ k ih => rw [beB, Nat.zero_div, ih]; unfold zer; rw [List.replicate_succ']; rfl

/-! ### stamps -/
structure Stp where
  num : Int
  idx : Int
  cnt : Int
def Stp.fit (x : Stp) : Prop := 1 ≤ x.num ∧ x.num ≤ 1099511627776 ∧ 1 ≤ x.cnt ∧ x.cnt ≤ 512 ∧ 0 ≤ x.idx ∧ x.idx < x.cnt
instance (x : Stp) : Decidable x.fit := by unfold Stp.fit; exact inferInstance
def Stp.zero : Stp := ⟨0, 0, 0⟩
def markB (x : Stp) : List UInt8 := beB 6 x.num.toNat ++ beB 2 x.idx.toNat
def headB (x : Stp) (n : Nat) : List UInt8 := markB x ++ beB 2 x.cnt.toNat ++ beB 2 n
def sealB (x : Stp) (l : List UInt8) : List UInt8 := headB x l.length ++ octetsB (sumB (headB x l.length ++ l)) ++ l ++ zer (104 - l.length) ++ markB x
theorem markB_length (x : Stp) : (markB x).length = 8 := by simp [markB, beB_length]
theorem headB_length (x : Stp) (n : Nat) : (headB x n).length = 12 := by simp [headB, markB_length, beB_length]
theorem sealB_length (x : Stp) (l : List UInt8) (h : l.length ≤ 104) : (sealB x l).length = 128 := by
  simp [sealB, markB_length, headB_length, octetsB_length, zer_length]; omega
def stOf (l : List UInt8) : Stp := ⟨(rdT (l.take 6) : Int), (rdT ((l.take 8).drop 6) : Int), (rdT ((l.take 10).drop 8) : Int)⟩
def lenOf (l : List UInt8) : Nat := rdT ((l.take 12).drop 10)
def bodyOf (l : List UInt8) : List UInt8 := (l.take (16 + lenOf l)).drop 16
def OpenOk (l : List UInt8) : Prop := l.length = 128 ∧ lenOf l ≤ 104 ∧ (stOf l).fit ∧ sealB (stOf l) (bodyOf l) = l
instance (l : List UInt8) : Decidable (OpenOk l) := by unfold OpenOk; exact inferInstance

theorem len_mid {l : List UInt8} (h : l.length = 128) (a b : Nat) (hb : b ≤ 128) : ((l.take b).drop a).length = b - a := by
  rw [List.length_drop, List.length_take, h]; omega
theorem bodyOf_length {l : List UInt8} (h : l.length = 128) (hn : lenOf l ≤ 104) : (bodyOf l).length = lenOf l := by
  unfold bodyOf; rw [len_mid h _ _ (by omega)]; omega
theorem mark_of {l : List UInt8} (h : l.length = 128) : markB (stOf l) = l.take 8 := by
  unfold markB stOf
  simp only [Int.toNat_natCast]
  rw [beB_rdT' (by rw [List.length_take, h]; rfl), beB_rdT' (by rw [len_mid h _ _ (by omega)])]
  have := List.take_append_drop 6 (l.take 8)
  rw [List.take_take] at this; exact this
theorem head_of {l : List UInt8} (h : l.length = 128) : headB (stOf l) (lenOf l) = l.take 12 := by
  unfold headB
  rw [mark_of h]
  unfold stOf lenOf
  simp only [Int.toNat_natCast]
  rw [beB_rdT' (l := (l.take 10).drop 8) (by rw [len_mid h _ _ (by omega)]), beB_rdT' (l := (l.take 12).drop 10) (by rw [len_mid h _ _ (by omega)])]
  have h1 := List.take_append_drop 8 (l.take 10)
  rw [List.take_take] at h1
  have h2 := List.take_append_drop 10 (l.take 12)
  rw [List.take_take] at h2
  rw [show min 8 10 = 8 from rfl] at h1
  rw [show min 10 12 = 10 from rfl] at h2
  rw [h1, h2]
/-- What opens: the parts are as they should be. -/
theorem openOk_iff {l : List UInt8} (h : l.length = 128) : OpenOk l ↔
    l.take 8 = l.drop 120 ∧ (stOf l).fit ∧ lenOf l ≤ 104 ∧ (l.take 120).drop (16 + lenOf l) = zer (104 - lenOf l) ∧ octetsB (moreB (sumB (l.take 12)) (bodyOf l)) = (l.take 16).drop 12 := by
  have key : ∀ (hn : lenOf l ≤ 104), sealB (stOf l) (bodyOf l) = l ↔ (l.take 8 = l.drop 120 ∧ (l.take 120).drop (16 + lenOf l) = zer (104 - lenOf l) ∧ octetsB (moreB (sumB (l.take 12)) (bodyOf l)) = (l.take 16).drop 12) := by
    intro hn
    have hb := bodyOf_length h hn
    unfold sealB
    rw [hb, head_of h, mark_of h, show sumB (l.take 12 ++ bodyOf l) = moreB (sumB (l.take 12)) (bodyOf l) by unfold sumB; exact moreB_append _ _ _]
    have hl : l.take 12 ++ (l.take 16).drop 12 ++ bodyOf l ++ (l.take 120).drop (16 + lenOf l) ++ l.drop 120 = l := by
      have cut : ∀ (a b : Nat), a ≤ b → l.take a ++ (l.take b).drop a = l.take b := fun a b hab => by
        have := List.take_append_drop a (l.take b)
        rw [List.take_take, Nat.min_eq_left hab] at this; exact this
      unfold bodyOf
      rw [cut 12 16 (by omega), cut 16 (16 + lenOf l) (by omega), cut (16 + lenOf l) 120 (by omega), List.take_append_drop]
    constructor
    · intro e
      have e2 := e.trans hl.symm
      simp only [List.append_assoc, List.append_cancel_left_eq] at e2
      obtain ⟨r1, r2⟩ := List.append_inj e2 (by rw [len_mid h _ _ (by omega)]; rfl)
      rw [List.append_cancel_left_eq] at r2
      obtain ⟨r3, r4⟩ := List.append_inj r2 (by rw [zer_length, len_mid h _ _ (by omega)]; omega)
      exact ⟨r4, r3.symm, r1⟩
    · rintro ⟨e1, e2, e3⟩
      rw [e1, ← e2, e3]; exact hl
  constructor
  · rintro ⟨_, hn, hf, hs⟩
    obtain ⟨a, b, c⟩ := (key hn).1 hs
    exact ⟨a, hf, hn, b, c⟩
  · rintro ⟨a, hf, hn, b, c⟩
    exact ⟨h, hn, hf, (key hn).2 ⟨a, b, c⟩⟩

/-! ### there and back -/
theorem fit_num {x : Stp} (h : x.fit) : x.num.toNat < 256 ^ 6 ∧ 1 ≤ x.num.toNat ∧ x.idx.toNat < 256 ^ 2 ∧ x.cnt.toNat < 256 ^ 2 ∧ ((x.num.toNat : Int) = x.num) ∧ ((x.idx.toNat : Int) = x.idx) ∧ ((x.cnt.toNat : Int) = x.cnt) := by
  obtain ⟨h1, h2, h3, h4, h5, h6⟩ := h
  have : (256 : Nat) ^ 6 = 281474976710656 := by decide
  have : (256 : Nat) ^ 2 = 65536 := by decide
  refine ⟨?_, ?_, ?_, ?_, ?_, ?_, ?_⟩ <;> omega
theorem seal_take (x : Stp) (l : List UInt8) (k : Nat) (hk : k ≤ 12) : (sealB x l).take k = (headB x l.length).take k := by
  unfold sealB
  simp only [List.append_assoc]
  rw [List.take_append_of_le_length (by rw [headB_length]; exact hk)]
theorem stOf_seal {x : Stp} (h : x.fit) (l : List UInt8) : stOf (sealB x l) = x := by
  obtain ⟨a, _, b, c, ha, hb, hc⟩ := fit_num h
  have h6 : (headB x l.length).take 6 = beB 6 x.num.toNat := by
    unfold headB markB; simp only [List.append_assoc]; exact List.take_left' (beB_length _ _)
  have h8 : ((headB x l.length).take 8).drop 6 = beB 2 x.idx.toNat := by
    unfold headB; simp only [List.append_assoc]; rw [List.take_left' (markB_length _)]; unfold markB; exact List.drop_left' (beB_length _ _)
  have h10 : ((headB x l.length).take 10).drop 8 = beB 2 x.cnt.toNat := by
    unfold headB
    rw [List.take_left' (by simp [markB_length, beB_length])]; exact List.drop_left' (markB_length _)
  unfold stOf
  rw [seal_take _ _ _ (by omega), seal_take _ _ _ (by omega), seal_take _ _ _ (by omega), h6, h8, h10, rdT_beB _ _ a, rdT_beB _ _ b, rdT_beB _ _ c, ha, hb, hc]
theorem lenOf_seal (x : Stp) (l : List UInt8) (hl : l.length ≤ 104) : lenOf (sealB x l) = l.length := by
  unfold lenOf
  rw [seal_take _ _ _ (by omega), List.take_of_length_le (by rw [headB_length]; exact Nat.le_refl _)]
  unfold headB
  rw [List.drop_left' (by simp [markB_length, beB_length]), rdT_beB _ _ (by have : (256 : Nat) ^ 2 = 65536 := by decide
                                                                            omega)]
theorem bodyOf_seal (x : Stp) (l : List UInt8) (hl : l.length ≤ 104) : bodyOf (sealB x l) = l := by
  unfold bodyOf
  rw [lenOf_seal x l hl]
  unfold sealB
  rw [List.append_assoc, List.take_left' (by simp [headB_length, octetsB_length]; omega), List.drop_left' (by simp [headB_length, octetsB_length])]
theorem openOk_seal {x : Stp} (h : x.fit) {l : List UInt8} (hl : l.length ≤ 104) : OpenOk (sealB x l) :=
  ⟨sealB_length x l hl, by rw [lenOf_seal x l hl]; exact hl, by rw [stOf_seal h]; exact h, by rw [stOf_seal h, bodyOf_seal x l hl]⟩
theorem beB_ne_zer {k n : Nat} (h : n < 256 ^ k) (h1 : 1 ≤ n) : beB k n ≠ zer k := by
  intro e
  have h2 := rdT_beB k n h
  rw [e, ← beB_zero, rdT_beB k 0 (by omega)] at h2
  omega
theorem seal_ne_zer {x : Stp} (h : x.fit) (l : List UInt8) : sealB x l ≠ zer 128 := by
  intro e
  have h2 := congrArg (List.take 6) e
  obtain ⟨a, b, _⟩ := fit_num h
  rw [seal_take _ _ _ (by omega)] at h2
  apply beB_ne_zer a b
  have h6 : (headB x l.length).take 6 = beB 6 x.num.toNat := by
    unfold headB markB; simp only [List.append_assoc]; exact List.take_left' (beB_length _ _)
  rw [← h6, h2]; unfold zer; rw [List.take_replicate]; rfl
end Go.Proofs.YtoojdknfommpbaaDoor
