/- Numbers and texts as octets, what is read of them; supers as octets: plain functions on lists of octets. No program in sight. -/
import Derived.Test.YtoojdknfommpbaaDoorStampPure
namespace Go.Proofs.YtoojdknfommpbaaDoor

/-! ### the octets of a number, the highest first, none too many -/
def bigB (p : Nat) : List UInt8 := if p = 0 then [] else bigB (p / 256) ++ [UInt8.ofNat p]
termination_by p
decreasing_by omega
theorem bigB_zero : bigB 0 = [] := by rw [bigB]; simp
theorem bigB_pos {p : Nat} (h : p ≠ 0) : bigB p = bigB (p / 256) ++ [UInt8.ofNat p] := by rw [bigB]; simp [h]
theorem rdT_bigB (n : Nat) : ∀ p, p ≤ n → rdT (bigB p) = p := by
  induction n with
  | zero => intro p hp; obtain rfl : p = 0 := by omega
            rw [bigB_zero]; rfl
  | succ n ih =>
    intro p hp
    by_cases h : p = 0
    · subst h; rw [bigB_zero]; rfl
    · rw [bigB_pos h, rdT_snoc, ih _ (by omega), UInt8.toNat_ofNat']; omega
theorem bigB_rd (p : Nat) : rdT (bigB p) = p := rdT_bigB p p (Nat.le_refl _)
theorem bigB_len (k : Nat) : ∀ p, p < 256 ^ k → (bigB p).length ≤ k := by
  induction k with
  | zero => intro p hp; obtain rfl : p = 0 := by simpa using hp
            rw [bigB_zero]; simp
  | succ k ih =>
    intro p hp
    by_cases h : p = 0
    · subst h; rw [bigB_zero]; simp
    · rw [bigB_pos h, List.length_append, List.length_singleton]
      have := ih (p / 256) (by rw [Nat.div_lt_iff_lt_mul (by decide), ← Nat.pow_succ]; exact hp)
      omega
theorem bigB_back (l : List UInt8) (h : l.length = 0 ∨ l.getD 0 0 ≠ 0) : bigB (rdT l) = l := by
  rw [← List.reverse_reverse l] at h ⊢
  generalize l.reverse = m at *
  induction m with
  | nil => rw [List.reverse_nil, rdT_nil, bigB_zero]
  | cons b m ih =>
    have hb := b.toNat_lt
    rw [List.reverse_cons] at h ⊢
    rw [rdT_snoc]
    by_cases hm : m = []
    · subst hm
      simp at h
      have hb0 : b.toNat ≠ 0 := fun e => h (UInt8.toNat_inj.1 (by rw [e]; rfl))
      simp only [List.reverse_nil, rdT_nil, Nat.zero_mul, Nat.zero_add, List.nil_append]
      rw [bigB_pos hb0, show b.toNat / 256 = 0 by omega, bigB_zero]
      simp
    · have hl : 0 < m.reverse.length := by rw [List.length_reverse]; exact List.length_pos_iff.2 hm
      have h2 : m.reverse.getD 0 0 ≠ 0 := by
        rcases h with h | h
        · simp at h
        · rw [List.getD_eq_getElem?_getD, List.getElem?_append_left hl, ← List.getD_eq_getElem?_getD] at h; exact h
      have e := ih (.inr h2)
      have hp : rdT m.reverse ≠ 0 := fun h0 => by
        rw [h0, bigB_zero] at e
        rw [← e] at hl; simp at hl
      rw [bigB_pos (by omega), show (rdT m.reverse * 256 + b.toNat) / 256 = rdT m.reverse by omega, e]
      congr 2
      apply UInt8.toNat_inj.1; rw [UInt8.toNat_ofNat']; omega
theorem bigB_head {p : Nat} : (bigB p).length = 0 ∨ (bigB p).getD 0 0 ≠ 0 := by
  suffices ∀ n p, p ≤ n → (bigB p).length = 0 ∨ (bigB p).getD 0 0 ≠ 0 from this p p (Nat.le_refl _)
  intro n
  induction n with
  | zero => intro p hp; obtain rfl : p = 0 := by omega
            exact .inl (by rw [bigB_zero]; rfl)
  | succ n ih =>
    intro p hp
    by_cases h : p = 0
    · subst h; exact .inl (by rw [bigB_zero]; rfl)
    · right
      rw [bigB_pos h]
      rcases ih (p / 256) (by omega) with h2 | h2
      · have hl := List.eq_nil_of_length_eq_zero h2
        have hq := bigB_rd (p / 256)
        rw [hl, rdT_nil] at hq
        rw [hl]
        simp
        intro e
        have := congrArg UInt8.toNat e
        rw [UInt8.toNat_ofNat'] at this
        simp at this; omega
      · have hl : 0 < (bigB (p / 256)).length := by
          rcases Nat.eq_zero_or_pos (bigB (p / 256)).length with h3 | h3
          · have := List.eq_nil_of_length_eq_zero h3
            rw [this] at h2; simp at h2
          · exact h3
        rw [List.getD_eq_getElem?_getD, List.getElem?_append_left hl, ← List.getD_eq_getElem?_getD]; exact h2

/-! ### a number, read and written -/
/-- What stands behind a number's place: its octets, and how many they are ahead. -/
def numW (p : Nat) : List UInt8 := UInt8.ofNat (bigB p).length :: bigB p
def cnt0 (s : List UInt8) : Nat := (s.getD 0 0).toNat
def numBad (s : List UInt8) : Prop := s.length = 0 ∨ 8 < cnt0 s ∨ s.length ≤ cnt0 s ∨ (0 < cnt0 s ∧ s.getD 1 0 = 0)
instance (s : List UInt8) : Decidable (numBad s) := by unfold numBad; exact inferInstance
def numP (s : List UInt8) : Nat := rdT ((s.take (1 + cnt0 s)).drop 1)
theorem getD_drop1 (s : List UInt8) (j n : Nat) (h : j + 1 < n) : ((s.take n).drop 1).getD j 0 = s.getD (j + 1) 0 := by
  rw [List.getD_eq_getElem?_getD, List.getD_eq_getElem?_getD, List.getElem?_drop, List.getElem?_take_of_lt (by omega), Nat.add_comm 1 j]
theorem numP_take {s : List UInt8} (h : ¬ numBad s) : s.take (1 + cnt0 s) = numW (numP s) := by
  unfold numBad at h
  simp only [not_or, not_and] at h
  obtain ⟨h1, h2, h3, h4⟩ := h
  have hlen : ((s.take (1 + cnt0 s)).drop 1).length = cnt0 s := by simp; omega
  have hb : bigB (numP s) = (s.take (1 + cnt0 s)).drop 1 := by
    unfold numP
    apply bigB_back
    rw [hlen]
    rcases Nat.eq_zero_or_pos (cnt0 s) with h0 | h0
    · exact .inl h0
    · right; rw [getD_drop1 _ _ _ (by omega)]; exact h4 h0
  unfold numW
  rw [hb, hlen]
  rcases s with _ | ⟨c, t⟩
  · simp at h1
  · rw [show UInt8.ofNat (cnt0 (c :: t)) = c by unfold cnt0; simp]
    rw [Nat.add_comm 1, List.take_succ_cons, List.drop_one, List.tail_cons]
theorem numW_read (p : Nat) (t : List UInt8) (h : (bigB p).length ≤ 8) : ¬ numBad (numW p ++ t) ∧ numP (numW p ++ t) = p ∧ 1 + cnt0 (numW p ++ t) = (numW p).length := by
  have hc : cnt0 (numW p ++ t) = (bigB p).length := by
    unfold cnt0 numW
    simp
    omega
  refine ⟨?_, ?_, ?_⟩
  · unfold numBad
    rw [hc]
    simp only [not_or, not_and]
    refine ⟨by unfold numW; simp, by omega, by unfold numW; simp; omega, fun h0 => ?_⟩
    rcases bigB_head (p := p) with h1 | h1
    · omega
    · unfold numW
      rw [List.cons_append, List.getD_eq_getElem?_getD, List.getElem?_cons_succ, List.getElem?_append_left h0, ← List.getD_eq_getElem?_getD]; exact h1
  · unfold numP
    rw [hc]
    have : (numW p ++ t).take (1 + (bigB p).length) = numW p := List.take_left' (by unfold numW; simp; omega)
    rw [this]
    unfold numW
    rw [List.drop_one, List.tail_cons, bigB_rd]
  · rw [hc]; unfold numW; simp; omega

/-! ### readers: what stands there; none: it is bad -/
def intB (n : Nat) : List UInt8 := numW (2 * n)
def textB (b : List UInt8) : List UInt8 := intB b.length ++ b
def rdInt (r : Option (List UInt8)) (high : Nat) : Nat × Option (List UInt8) :=
  match r with
  | none => (0, none)
  | some s => if numBad s ∨ numP s % 2 = 1 ∨ high < numP s / 2 then (0, none) else (numP s / 2, some (s.drop (1 + cnt0 s)))
def rdText (r : Option (List UInt8)) (most : Nat) : List UInt8 × Option (List UInt8) :=
  match (rdInt r most).2 with
  | none => ([], none)
  | some s => if s.length < (rdInt r most).1 then ([], none) else (s.take (rdInt r most).1, some (s.drop (rdInt r most).1))
theorem rdInt_none (high : Nat) : rdInt none high = (0, none) := rfl
theorem rdText_none (m : Nat) : rdText none m = ([], none) := rfl
theorem rdInt_some {r : Option (List UInt8)} {high n : Nat} {t : List UInt8} (h : rdInt r high = (n, some t)) : r = some (intB n ++ t) ∧ n ≤ high := by
  rcases r with _ | s
  · simp [rdInt] at h
  · unfold rdInt at h
    simp only at h
    split at h
    · simp at h
    · rename_i hb
      simp only [not_or] at hb
      obtain ⟨hb1, hb2, hb3⟩ := hb
      simp only [Prod.mk.injEq, Option.some.injEq] at h
      obtain ⟨rfl, rfl⟩ := h
      refine ⟨?_, by omega⟩
      congr 1
      unfold intB
      rw [show 2 * (numP s / 2) = numP s by omega, ← numP_take hb1, List.take_append_drop]
theorem rdInt_back {n high : Nat} (h : n ≤ high) (hn : 2 * n < 256 ^ 8) (t : List UInt8) : rdInt (some (intB n ++ t)) high = (n, some t) := by
  obtain ⟨h1, h2, h3⟩ := numW_read (2 * n) t (bigB_len 8 _ hn)
  unfold rdInt intB
  simp only
  rw [if_neg (by simp only [not_or]; exact ⟨h1, by rw [h2]; omega, by rw [h2]; omega⟩), h2, h3, List.drop_left]
  congr 1; omega
theorem rdText_some {r : Option (List UInt8)} {m : Nat} {b t : List UInt8} (h : rdText r m = (b, some t)) : r = some (textB b ++ t) ∧ b.length ≤ m := by
  unfold rdText at h
  rcases hr : rdInt r m with ⟨n, _ | s⟩
  · rw [hr] at h; simp at h
  · obtain ⟨h1, h2⟩ := rdInt_some hr
    rw [hr] at h
    simp only at h
    split at h
    · simp at h
    · simp only [Prod.mk.injEq, Option.some.injEq] at h
      obtain ⟨rfl, rfl⟩ := h
      have hl : (s.take n).length = n := by rw [List.length_take]; omega
      refine ⟨?_, by rw [hl]; exact h2⟩
      unfold textB
      rw [h1, hl, List.append_assoc, List.take_append_drop]
theorem rdText_back {b : List UInt8} {m : Nat} (h : b.length ≤ m) (hb : 2 * b.length < 256 ^ 8) (t : List UInt8) : rdText (some (textB b ++ t)) m = (b, some t) := by
  unfold rdText textB
  rw [List.append_assoc, rdInt_back h hb]
  simp

/-! ### supers -/
structure Sup where
  gen : Int
  base : Int
  size : Int
  cgen : Int
  check : List Int
  log : List Int
def apartL (l : List Int) : Prop := (∀ x ∈ l, 0 ≤ x ∧ x < 63) ∧ l.Nodup
instance (l : List Int) : Decidable (apartL l) := by unfold apartL; exact inferInstance
def Sup.fit (x : Sup) : Prop := x.log ≠ [] ∧ apartL (x.check ++ x.log) ∧ 1 ≤ x.gen ∧ x.gen ≤ 1099511627776 ∧ 0 ≤ x.base ∧ x.base ≤ 1099511627776 ∧ 0 ≤ x.cgen ∧ x.cgen ≤ x.gen ∧ (x.check = [] ↔ x.cgen = 0) ∧ 0 ≤ x.size ∧ x.size ≤ x.check.length * 832
instance (x : Sup) : Decidable x.fit := by unfold Sup.fit; exact inferInstance
def Sup.zero : Sup := ⟨0, 0, 0, 0, [], []⟩
def octs (l : List Int) : List UInt8 := l.map fun n => UInt8.ofNat (n % 256).toNat
def nums (l : List UInt8) : List Int := l.map fun b => (b.toNat : Int)
def encB (x : Sup) : List UInt8 := intB x.gen.toNat ++ intB x.base.toNat ++ intB x.size.toNat ++ intB x.cgen.toNat ++ textB (octs x.check) ++ textB (octs x.log)
def stampB (x : Sup) : Stp := ⟨x.gen, 0, 1⟩
/-- The sector of a super. -/
def supB (x : Sup) : List UInt8 := sealB (stampB x) (encB x)
/-- What is read of a sector's own octets: numbers, segments, what is left. -/
def readS (s : List UInt8) : Sup × Option (List UInt8) :=
  let a := rdInt (some s) 1099511627776
  let b := rdInt a.2 1099511627776
  let c := rdInt b.2 1099511627776
  let d := rdInt c.2 1099511627776
  let e := rdText d.2 63
  let f := rdText e.2 63
  (⟨a.1, b.1, c.1, d.1, nums e.1, nums f.1⟩, f.2)
theorem apart_length {n : Nat} : ∀ l : List Int, (∀ x ∈ l, 0 ≤ x ∧ x < (n : Int)) → l.Nodup → l.length ≤ n := by
  induction n with
  | zero =>
    intro l h _
    rcases l with _ | ⟨x, l⟩
    · simp
    · have := h x (by simp); omega
  | succ n ih =>
    intro l h hd
    have h1 := ih (l.erase (n : Int)) (fun x hx => by
      have h2 := h x (List.mem_of_mem_erase hx)
      have h3 : x ≠ (n : Int) := fun e => by subst e; exact (List.Nodup.not_mem_erase hd) hx
      omega) (hd.erase _)
    rw [List.length_erase] at h1
    split at h1 <;> omega
theorem fit_lengths {x : Sup} (h : x.fit) : x.check.length + x.log.length ≤ 63 := by
  have := apart_length (n := 63) _ h.2.1.1 h.2.1.2
  rw [List.length_append] at this; exact this
theorem octs_nums (l : List UInt8) : octs (nums l) = l := by
  unfold octs nums
  rw [List.map_map]
  conv => rhs; rw [← List.map_id l]
  apply List.map_congr_left
  intro b _
  have := b.toNat_lt
  apply UInt8.toNat_inj.1
  simp only [Function.comp, id]
  rw [UInt8.toNat_ofNat']; omega
theorem nums_octs {l : List Int} (h : ∀ x ∈ l, 0 ≤ x ∧ x < 63) : nums (octs l) = l := by
  unfold octs nums
  rw [List.map_map]
  conv => rhs; rw [← List.map_id l]
  apply List.map_congr_left
  intro b hb
  have := h b hb
  simp only [Function.comp, id]
  rw [UInt8.toNat_ofNat']; omega
theorem octs_length (l : List Int) : (octs l).length = l.length := by simp [octs]
theorem readS_some {s : List UInt8} (h : (readS s).2 = some []) : s = encB (readS s).1 := by
  unfold readS at *
  simp only at *
  rcases ha : rdInt (some s) 1099511627776 with ⟨a, _ | sa⟩
  · rw [ha] at h; simp [rdInt, rdText] at h
  rcases hb : rdInt (some sa) 1099511627776 with ⟨b, _ | sb⟩
  · rw [ha] at h; simp only [hb] at h; simp [rdInt, rdText] at h
  rcases hc : rdInt (some sb) 1099511627776 with ⟨c, _ | sc⟩
  · rw [ha] at h; simp only [hb, hc] at h; simp [rdInt, rdText] at h
  rcases hd : rdInt (some sc) 1099511627776 with ⟨d, _ | sd⟩
  · rw [ha] at h; simp only [hb, hc, hd] at h; simp [rdText, rdInt] at h
  rcases he : rdText (some sd) 63 with ⟨e, _ | se⟩
  · rw [ha] at h; simp only [hb, hc, hd, he] at h; simp [rdText, rdInt] at h
  rcases hf : rdText (some se) 63 with ⟨f, _ | sf⟩
  · rw [ha] at h; simp only [hb, hc, hd, he, hf] at h; simp at h
  rw [ha] at h
  simp only [hb, hc, hd, he, hf] at h
  simp only [Option.some.injEq] at h
  subst h
  show s = encB ⟨a, b, c, d, nums e, nums f⟩
  have e1 := Option.some.inj (rdInt_some ha).1
  have e2 := Option.some.inj (rdInt_some hb).1
  have e3 := Option.some.inj (rdInt_some hc).1
  have e4 := Option.some.inj (rdInt_some hd).1
  have e5 := Option.some.inj (rdText_some he).1
  have e6 := Option.some.inj (rdText_some hf).1
  rw [e1, e2, e3, e4, e5, e6]
  unfold encB
  simp only [Int.toNat_natCast, octs_nums, List.append_assoc, List.append_nil]
theorem readS_back {x : Sup} (h : x.fit) : readS (encB x) = (x, some []) := by
  have hl := fit_lengths h
  obtain ⟨h1, h2, h3, h4, h5, h6, h7, h8, h9, h10, h11⟩ := h
  have p8 : (256 : Nat) ^ 8 = 18446744073709551616 := by decide
  have g : ∀ n : Int, 0 ≤ n → n ≤ 1099511627776 → ∀ t, rdInt (some (intB n.toNat ++ t)) 1099511627776 = (n.toNat, some t) := fun n hn1 hn2 t => rdInt_back (by omega) (by omega) t
  have hsz : x.size ≤ 1099511627776 := by omega
  have ht : ∀ l : List Int, l.length ≤ 63 → ∀ t, rdText (some (textB (octs l) ++ t)) 63 = (octs l, some t) := fun l hl t => rdText_back (by rw [octs_length]; exact hl) (by rw [octs_length]; omega) t
  have hc1 : nums (octs x.check) = x.check := nums_octs fun y hy => h2.1 y (List.mem_append_left _ hy)
  have hc2 : nums (octs x.log) = x.log := nums_octs fun y hy => h2.1 y (List.mem_append_right _ hy)
  unfold readS encB
  simp only [List.append_assoc]
  rw [g _ (by omega) h4]
  simp only
  rw [g _ h5 h6]
  simp only
  rw [g _ h10 hsz]
  simp only
  rw [g _ h7 (by omega)]
  simp only
  rw [ht _ (by omega)]
  simp only
  have := ht x.log (by omega) []
  rw [List.append_nil] at this
  rw [this]
  simp only [hc1, hc2]
  congr 1
  cases x
  simp at *
  omega
theorem intB_length (n k : Nat) (h : 2 * n < 256 ^ k) : (intB n).length ≤ 1 + k := by
  have := bigB_len k _ h
  unfold intB numW; simp; omega
theorem encB_length {x : Sup} (h : x.fit) : (encB x).length ≤ 104 := by
  have hl := fit_lengths h
  obtain ⟨h1, h2, h3, h4, h5, h6, h7, h8, h9, h10, h11⟩ := h
  have p6 : (256 : Nat) ^ 6 = 281474976710656 := by decide
  have a1 := intB_length x.gen.toNat 6 (by omega)
  have a2 := intB_length x.base.toNat 6 (by omega)
  have a3 := intB_length x.size.toNat 6 (by omega)
  have a4 := intB_length x.cgen.toNat 6 (by omega)
  have a5 := intB_length (octs x.check).length 1 (by rw [octs_length]; omega)
  have a6 := intB_length (octs x.log).length 1 (by rw [octs_length]; omega)
  unfold encB textB
  simp only [List.length_append, octs_length] at *
  omega
/-! ### what is told of a sector -/
def decOk (l : List UInt8) : Prop := OpenOk l ∧ (readS (bodyOf l)).2 = some [] ∧ (readS (bodyOf l)).1.fit ∧ stOf l = stampB (readS (bodyOf l)).1
theorem stamp_fit {x : Sup} (h : x.fit) : (stampB x).fit := by
  obtain ⟨h1, h2, h3, h4, _⟩ := h
  exact ⟨h3, h4, by show (1 : Int) ≤ 1; omega, by show (1 : Int) ≤ 512; omega, by show (0 : Int) ≤ 0; omega, by show (0 : Int) < 1; omega⟩
/-- A sector that is told is its super's. -/
theorem dec_is {l : List UInt8} (h : decOk l) : supB (readS (bodyOf l)).1 = l := by
  obtain ⟨h1, h2, h3, h4⟩ := h
  unfold supB
  rw [← h4, ← readS_some h2]; exact h1.2.2.2
/-- A super's sector is told as it. -/
theorem dec_sup {x : Sup} (h : x.fit) : decOk (supB x) ∧ (readS (bodyOf (supB x))).1 = x := by
  have hl := encB_length h
  have hb : bodyOf (supB x) = encB x := bodyOf_seal _ _ hl
  have hs : stOf (supB x) = stampB x := stOf_seal (stamp_fit h) _
  unfold decOk
  rw [hb, hs, readS_back h]
  exact ⟨⟨openOk_seal (stamp_fit h) hl, rfl, h, rfl⟩, rfl⟩
/-- The document's way: what is told must be written so. -/
theorem dec_ref {l : List UInt8} (h : OpenOk l) : decOk l ↔ ((readS (bodyOf l)).2 = some [] ∧ (readS (bodyOf l)).1.fit ∧ supB (readS (bodyOf l)).1 = l) := by
  constructor
  · intro h2; exact ⟨h2.2.1, h2.2.2.1, dec_is h2⟩
  · rintro ⟨a, b, c⟩
    refine ⟨h, a, b, ?_⟩
    have := stOf_seal (stamp_fit b) (encB (readS (bodyOf l)).1)
    unfold supB at c
    rw [c] at this; exact this
end Go.Proofs.YtoojdknfommpbaaDoor
