/- There and back: the frames of records are taken again, and a beginning is too short. No program in sight. -/
import Derived.Test.YtmmajdkngboecaaTakePure
import Derived.Test.YtmmajdkngboecaaCrcLaws
namespace Go.Proofs.Ytmmajdkngboecaa

theorem frameB_head (s : List UInt8) (hs : s.length ≤ 4096) : (UInt8.ofNat (s.length / 256)).toNat * 256 + (UInt8.ofNat s.length).toNat = s.length := by
  rw [UInt8.toNat_ofNat', UInt8.toNat_ofNat']; omega
theorem takeT_frame (s : ByteArray) (r : List UInt8) (h1 : 1 ≤ s.size) (h2 : s.size ≤ 4096) : takeT (frameB (bl s) ++ r) = joinT [s] (takeT r) := by
  have hl : (bl s).length = s.size := bl_length s
  unfold frameB
  rw [List.append_assoc, List.cons_append, List.cons_append, List.nil_append, takeT_two, frameB_head _ (by omega), if_neg (by omega), if_neg (by simp only [List.length_append, octetsB_length]; omega)]
  have e1 : ((octetsB (sumB (bl s)) ++ bl s) ++ r).take 4 = octetsB (sumB (bl s)) := by rw [List.append_assoc, List.take_left' (octetsB_length _)]
  have e2 : ((octetsB (sumB (bl s)) ++ bl s) ++ r).drop 4 = bl s ++ r := by rw [List.append_assoc, List.drop_left' (octetsB_length _)]
  have e3 : ((octetsB (sumB (bl s)) ++ bl s) ++ r).drop (4 + (bl s).length) = r := by rw [← List.drop_drop, e2, List.drop_left' rfl]
  rw [e1, e2, e3, List.take_left' rfl, if_pos rfl]
  rfl
theorem takeT_part (s : List UInt8) (j : Nat) (h1 : 1 ≤ s.length) (h2 : s.length ≤ 4096) (hj0 : 0 < j) (hj : j < 6 + s.length) : takeT ((frameB s).take j) = (8, []) := by
  unfold frameB
  match j with
  | 1 => rw [List.cons_append, List.take_succ_cons, List.take_zero, takeT_one]
  | j + 2 =>
    rw [List.cons_append, List.cons_append, List.nil_append, List.take_succ_cons, List.take_succ_cons, takeT_two, frameB_head _ h2, if_neg (by omega), if_pos (by rw [List.length_take, List.length_append, octetsB_length]; omega)]
theorem takeT_frames (l : List ByteArray) (r : List UInt8) (h : l.all okRec = true) : takeT (framesB l ++ r) = joinT l (takeT r) := by
  induction l with
  | nil => show takeT ([] ++ r) = _; rw [List.nil_append]; unfold takeT; rw [joinT_nil]
  | cons s l ih =>
    have hs := okRec_mem h List.mem_cons_self
    have hl : l.all okRec = true := by rw [List.all_cons] at h; exact (Bool.and_eq_true _ _ ▸ h).2
    have : framesB (s :: l) = frameB (bl s) ++ framesB l := by unfold framesB; rw [List.flatMap_cons]
    rw [this, List.append_assoc, takeT_frame s _ hs.1 hs.2, ih hl, joinT_joinT]; rfl
theorem takeT_all (l : List ByteArray) (h : l.all okRec = true) : takeT (framesB l) = (0, l) := by
  have := takeT_frames l [] h
  rw [List.append_nil, takeT_nil, joinT_done] at this; simpa using this
theorem joinT_ok {o m : List ByteArray} {p : Int × List ByteArray} (h : joinT o p = (0, m)) : p.1 = 0 ∧ m = o ++ p.2 := by
  unfold joinT at h
  split at h
  · next h0 => exact ⟨h0, (Prod.mk.inj h).2.symm⟩
  · next h0 => exact absurd (Prod.mk.inj h).1 h0
theorem takeT_back : ∀ (n : Nat) (r : List UInt8) (m : List ByteArray), r.length ≤ n → takeT r = (0, m) → m.all okRec = true ∧ framesB m = r
  | n, [], m, _, h => by rw [takeT_nil] at h; have := (Prod.mk.inj h).2; subst this; exact ⟨rfl, rfl⟩
  | n, [_], m, _, h => by rw [takeT_one] at h; exact absurd (Prod.mk.inj h).1 (by decide)
  | 0, _ :: _ :: _, _, hn, _ => by simp at hn
  | n + 1, a :: b :: r, m, hn, h => by
    simp only [List.length_cons] at hn
    rw [takeT_two] at h
    split at h
    · exact absurd (Prod.mk.inj h).1 (by decide)
    · next hz =>
      split at h
      · exact absurd (Prod.mk.inj h).1 (by decide)
      · next hl =>
        split at h
        · next hc =>
          obtain ⟨h0, hm⟩ := joinT_ok h
          obtain ⟨k1, k2⟩ := takeT_back n _ _ (by rw [List.length_drop]; omega) (show takeT (r.drop (4 + (a.toNat * 256 + b.toNat))) = (0, (takeT (r.drop (4 + (a.toNat * 256 + b.toNat)))).2) by rw [← h0])
          have ha := a.toNat_lt; have hb := b.toNat_lt
          generalize hN : a.toNat * 256 + b.toNat = N at *
          have hbl : bl (⟨((r.drop 4).take N).toArray⟩ : ByteArray) = (r.drop 4).take N := by unfold bl; simp
          have hsz : (⟨((r.drop 4).take N).toArray⟩ : ByteArray).size = N := by rw [← bl_length, hbl, List.length_take, List.length_drop]; omega
          subst hm
          rw [List.singleton_append]
          refine ⟨?_, ?_⟩
          · rw [List.all_cons, k1, Bool.and_true]; unfold okRec; rw [hsz]; simp; omega
          · unfold framesB at k2 ⊢
            rw [List.flatMap_cons, k2, hbl]
            unfold frameB
            have hlen : ((r.drop 4).take N).length = N := by rw [← hbl, bl_length, hsz]
            rw [hlen, ← hc, show UInt8.ofNat (N / 256) = a from UInt8.toNat_inj.1 (by rw [UInt8.toNat_ofNat']; omega), show UInt8.ofNat N = b from UInt8.toNat_inj.1 (by rw [UInt8.toNat_ofNat']; omega)]
            simp only [List.cons_append, List.nil_append, List.append_assoc]
            rw [← List.drop_drop, List.take_append_drop, List.take_append_drop]
        · exact absurd (Prod.mk.inj h).1 (by decide)
theorem takeT_short (r : List UInt8) : (takeT r).2.length ≤ r.length := by
  by_cases h : (takeT r).1 = 0
  · obtain ⟨_, h2⟩ := takeT_back _ r (takeT r).2 (Nat.le_refl _) (by rw [← h])
    have := length_le_sizeL (takeT r).2
    rw [← framesB_length, h2] at this; omega
  · have : (takeT r).2 = [] := by
      match r with
      | [] => rfl
      | [_] => rfl
      | a :: b :: r =>
        rw [takeT_two] at h ⊢
        split <;> rename_i h0
        · rfl
        · rw [if_neg h0] at h
          split <;> rename_i h1
          · rfl
          · rw [if_neg h1] at h
            split <;> rename_i h2
            · rw [if_pos h2] at h
              unfold joinT at h ⊢
              split <;> rename_i h3
              · rw [if_pos h3] at h; exact absurd rfl h
              · rfl
            · rfl
    rw [this]; simp
/-- A beginning of frames: with n records whole and more of the next one. -/
theorem takeT_begin (l : List ByteArray) (k n : Nat) (h : l.all okRec = true) (hn : n < l.length) (h1 : sizeL (l.take n) < k) (h2 : k < sizeL (l.take (n + 1))) : takeT ((framesB l).take k) = (8, []) := by
  have hs := okRec_mem h (List.getElem_mem hn)
  have e : framesB l = framesB (l.take n) ++ (frameB (bl l[n]) ++ framesB (l.drop (n + 1))) := by
    conv => lhs; rw [← List.take_append_drop n l, List.drop_eq_getElem_cons hn]
    unfold framesB; rw [List.flatMap_append, List.flatMap_cons]
  have hf : (framesB (l.take n)).length = sizeL (l.take n) := framesB_length _
  have hb : (frameB (bl l[n])).length = 6 + l[n].size := by rw [frameB_length, bl_length]
  rw [sizeL_take l n hn] at h2
  rw [e, List.take_append, hf, List.take_of_length_le (by omega), List.take_append, hb, show k - sizeL (l.take n) - (6 + l[n].size) = 0 by omega, List.take_zero, List.append_nil,
    takeT_frames _ _ (List.all_eq_true.2 fun x hx => List.all_eq_true.1 h x (List.mem_of_mem_take hx)), takeT_part _ _ (by rw [bl_length]; omega) (by rw [bl_length]; omega) (by omega) (by rw [bl_length]; omega), joinT_err _ _ (by decide)]
theorem takeT_upto (l : List ByteArray) (n : Nat) (h : l.all okRec = true) : takeT ((framesB l).take (sizeL (l.take n))) = (0, l.take n) := by
  have e : framesB l = framesB (l.take n) ++ framesB (l.drop n) := by
    conv => lhs; rw [← List.take_append_drop n l]
    unfold framesB; rw [List.flatMap_append]
  rw [e, List.take_left' (framesB_length _)]
  exact takeT_all _ (List.all_eq_true.2 fun x hx => List.all_eq_true.1 h x (List.mem_of_mem_take hx))
/-- How far n came: the loop stands behind all that is whole. -/
theorem putE_zero {l : List ByteArray} (h : putE l = 0) : l.all okRec = true ∧ sizeL l ≤ 16384 := by
  unfold putE at h
  split at h
  · next h0 => split at h
               · exact absurd h (by decide)
               · exact ⟨h0, by omega⟩
  · exact absurd h (by decide)
theorem putS_zero {l : List ByteArray} (h : putE l = 0) : bl (putS l) = framesB l := by unfold putS; rw [if_pos h]; unfold bl; simp
theorem putS_err {l : List ByteArray} (h : putE l ≠ 0) : putS l = ByteArray.empty := by unfold putS; rw [if_neg h]
theorem putE_back {r : List UInt8} {m : List ByteArray} (hr : r.length ≤ 16384) (h : takeT r = (0, m)) : putE m = 0 ∧ bl (putS m) = r := by
  obtain ⟨h1, h2⟩ := takeT_back _ r m (Nat.le_refl _) h
  have h3 : sizeL m = r.length := by rw [← h2, framesB_length]
  have h4 : putE m = 0 := by unfold putE; rw [if_pos h1, if_neg (by omega)]
  exact ⟨h4, by rw [putS_zero h4, h2]⟩
end Go.Proofs.Ytmmajdkngboecaa
