/- What records octets are the frames of: a plain function. No program in sight. -/
import Derived.Test.YtmmajdkngboecaaFramePure
namespace Go.Proofs.Ytmmajdkngboecaa

/-- The records of octets, or why there are none: the number of rounds first. -/
def takeL : Nat → List UInt8 → Int × List ByteArray
  | 0, _ => (0, [])
  | _ + 1, [] => (0, [])
  | _ + 1, [_] => (8, [])
  | f + 1, a :: b :: r =>
    if a.toNat * 256 + b.toNat = 0 ∨ 4096 < a.toNat * 256 + b.toNat then (7, [])
    else if r.length < 4 + (a.toNat * 256 + b.toNat) then (8, [])
    else if r.take 4 = octetsB (sumB ((r.drop 4).take (a.toNat * 256 + b.toNat))) then
      (if (takeL f (r.drop (4 + (a.toNat * 256 + b.toNat)))).1 = 0 then (0, ⟨((r.drop 4).take (a.toNat * 256 + b.toNat)).toArray⟩ :: (takeL f (r.drop (4 + (a.toNat * 256 + b.toNat)))).2)
      else ((takeL f (r.drop (4 + (a.toNat * 256 + b.toNat)))).1, []))
    else (12, [])
theorem takeL_fuel : ∀ (f g : Nat) (r : List UInt8), r.length ≤ f → r.length ≤ g → takeL f r = takeL g r
  | 0, g, r, hf, _ => by
    have : r = [] := List.eq_nil_of_length_eq_zero (by omega)
    subst this; cases g <;> rfl
  | f + 1, 0, r, _, hg => by
    have : r = [] := List.eq_nil_of_length_eq_zero (by omega)
    subst this; rfl
  | f + 1, g + 1, [], _, _ => rfl
  | f + 1, g + 1, [_], _, _ => rfl
  | f + 1, g + 1, a :: b :: r, hf, hg => by
    simp only [List.length_cons] at hf hg
    have := takeL_fuel f g (r.drop (4 + (a.toNat * 256 + b.toNat))) (by rw [List.length_drop]; omega) (by rw [List.length_drop]; omega)
    simp only [takeL, this]
def takeT (r : List UInt8) : Int × List ByteArray := takeL r.length r
theorem takeT_nil : takeT [] = (0, []) := rfl
theorem takeT_one (a : UInt8) : takeT [a] = (8, []) := rfl
/-- Behind records that are taken already. -/
def joinT (out : List ByteArray) (p : Int × List ByteArray) : Int × List ByteArray := if p.1 = 0 then (0, out ++ p.2) else (p.1, [])
theorem joinT_nil (r : List UInt8) : ∀ (f : Nat), joinT [] (takeL f r) = takeL f r
  | 0 => rfl
  | f + 1 => by
    match r with
    | [] => rfl
    | [_] => rfl
    | a :: b :: r =>
      unfold joinT takeL
      split
      · rfl
      · split
        · rfl
        · split
          · split <;> simp_all
          · rfl
theorem takeT_two (a b : UInt8) (r : List UInt8) : takeT (a :: b :: r) =
    if a.toNat * 256 + b.toNat = 0 ∨ 4096 < a.toNat * 256 + b.toNat then (7, [])
    else if r.length < 4 + (a.toNat * 256 + b.toNat) then (8, [])
    else if r.take 4 = octetsB (sumB ((r.drop 4).take (a.toNat * 256 + b.toNat))) then joinT [⟨((r.drop 4).take (a.toNat * 256 + b.toNat)).toArray⟩] (takeT (r.drop (4 + (a.toNat * 256 + b.toNat))))
    else (12, []) := by
  have := takeL_fuel (r.length + 1) (r.drop (4 + (a.toNat * 256 + b.toNat))).length (r.drop (4 + (a.toNat * 256 + b.toNat))) (by rw [List.length_drop]; omega) (Nat.le_refl _)
  unfold takeT
  simp only [List.length_cons]
  rw [takeL]
  rw [this]
  unfold joinT
  simp
theorem joinT_joinT (o p : List ByteArray) (x : Int × List ByteArray) : joinT o (joinT p x) = joinT (o ++ p) x := by
  unfold joinT
  by_cases h : x.1 = 0
  · rw [if_pos h]; simp [h]
  · rw [if_neg h]; simp [h]
theorem joinT_err (o : List ByteArray) (e : Int) (h : e ≠ 0) : joinT o (e, []) = (e, []) := by unfold joinT; rw [if_neg h]
theorem joinT_done (o : List ByteArray) : joinT o (0, []) = (0, o) := by unfold joinT; simp
end Go.Proofs.Ytmmajdkngboecaa
