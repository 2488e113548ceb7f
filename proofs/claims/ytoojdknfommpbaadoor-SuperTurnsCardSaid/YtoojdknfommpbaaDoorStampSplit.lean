/- The walks of stamp.Split and draymanref06.Split. -/
import Derived.Test.YtoojdknfommpbaaDoorStampAux
namespace Go.Proofs.YtoojdknfommpbaaDoor
open Go.RowKit
set_option maxRecDepth 10000

def chunks (l : List UInt8) : List (List UInt8) := if l.length ≤ 104 then [l] else l.take 104 :: chunks (l.drop 104)
termination_by l.length
decreasing_by simp; omega
theorem chunks_small {l : List UInt8} (h : l.length ≤ 104) : chunks l = [l] := by rw [chunks, if_pos h]
theorem chunks_big {l : List UInt8} (h : ¬ l.length ≤ 104) : chunks l = l.take 104 :: chunks (l.drop 104) := by rw [chunks, if_neg h]
theorem chunks_ne (l : List UInt8) : chunks l ≠ [] := by rw [chunks]; split <;> simp
def splitL (l : List UInt8) : List ByteArray := (chunks l).map mkS
theorem splitL_small {l : List UInt8} (h : l.length ≤ 104) : splitL l = [mkS l] := by unfold splitL; rw [chunks_small h]; rfl
theorem splitL_big {l : List UInt8} (h : ¬ l.length ≤ 104) : splitL l = mkS (l.take 104) :: splitL (l.drop 104) := by unfold splitL; rw [chunks_big h]; rfl
theorem info_string : (Tryd.prog.info? 9).map (fun i => (i.zero, i.size, i.bytes)) = some (some (.string ByteArray.empty), 1, 16) := by kernel_rfl

theorem split_any (l0 : List UInt8) (w : World) (hs : l0.length ≤ 1000) :
    Calls Tryd.prog 18 #[.string (mkS l0)] w fun e w' => ∃ v, e = .returned v ∧ Own Value.string 9 w.heap.size w' v (splitL l0) ∧ Below w.heap.size w w' := by
  obtain ⟨S0, hS0⟩ : ∃ S0, mkS l0 = S0 := ⟨_, rfl⟩
  have HS0 := Lib.hid hS0
  rw [hS0]; clear hS0
  go_enter Tryd.func18, Tryd.ntmps18
  go_wp2
  go_loopw [0, 3] (fun x v W => ∃ l : List UInt8, l.length ≤ 1000 ∧ x = .string (mkS l) ∧ ∃ out : List ByteArray, out.length + l.length ≤ 1000 ∧ Hid (splitL l0 = out ++ splitL l ∧ Own Value.string 9 w.heap.size W v out ∧ Below w.heap.size w W)) (fun x _ _ => (match x with | .string s => s.size | _ => 0))
  case atStart => exact ⟨l0, hs, by rw [HS0.out], [], by simpa using hs, Lib.hid ⟨rfl, Own.nil _ _ _ _, Below.refl _ _⟩⟩
  case round =>
    obtain ⟨l, hl, rfl, out, hol, HR⟩ := hrel
    obtain ⟨T, hT⟩ : ∃ T, mkS l = T := ⟨_, rfl⟩
    have hz : T.size = l.length := by rw [← hT, mkS_size]
    by_cases hsm : l.length ≤ 104
    · have hzI : (T.size : Int) ≤ 104 := by omega
      have HSp : Hid (splitL l0 = out ++ [T]) := Lib.hid (by rw [HR.out.1, splitL_small hsm, hT])
      rw [hT]
      clear hT hz
      go_wp2_with (at_builtin; refine append_one Value.string w.heap.size rfl (.tmp 14) (.tmp 16) 30 9 (.string ByteArray.empty) 16 rfl Tryd.underlying30 info_string rfl (by decide) _ _ _ rfl rfl rfl HR.out.2.1 HR.out.2.2 HR.out.2.2.size (by omega) ?_; intro v1 w2 hown1 hbel1)
      go_ret
      exact ⟨_, rfl, by rw [HSp.out]; exact hown1, hbel1⟩
    · have hzI : 104 < (T.size : Int) := by omega
      have hzI2 : (T.size : Int) ≤ 1000 := by omega
      have h1 : T.extract 0 104 = mkS (l.take 104) := by rw [← hT, mkS_extract]; simp
      have h2 : T.extract 104 T.size = mkS (l.drop 104) := by rw [← hT, mkS_extract, mkS_size, List.take_length]
      have HSp : Hid (splitL l0 = (out ++ [T.extract 0 104]) ++ splitL (l.drop 104)) := Lib.hid (by rw [HR.out.1, splitL_big hsm, h1]; simp)
      have H2 := Lib.hid h2
      have h3 : (T.extract 104 T.size).size < T.size := by rw [h2, mkS_size]; simp; omega
      rw [hT]
      clear hT hz h1 h2
      go_wp2_with (at_builtin; refine append_one Value.string w.heap.size rfl (.tmp 7) (.tmp 10) 30 9 (.string ByteArray.empty) 16 rfl Tryd.underlying30 info_string rfl (by decide) _ _ _ rfl rfl rfl HR.out.2.1 HR.out.2.2 HR.out.2.2.size (by omega) ?_; intro v1 w2 hown1 hbel1)
      go_roundw
      case measure => exact h3
      case rel => exact ⟨l.drop 104, by simp; omega, by rw [H2.out], _, by simp; omega, Lib.hid ⟨HSp.out, hown1, hbel1⟩⟩

/-- What is still to be told from place a on. -/
def restL (l : List UInt8) (a : Nat) : List ByteArray := if a = 0 ∨ a < l.length then splitL (l.drop a) else []
theorem restL_step (l : List UInt8) (a : Nat) (h : a = 0 ∨ a < l.length) : restL l a = mkS ((l.take (min (a + 104) l.length)).drop a) :: restL l (a + 104) := by
  unfold restL
  rw [if_pos h]
  have hd : (l.take (min (a + 104) l.length)).drop a = (l.drop a).take 104 := by
    rcases Nat.le_total (a + 104) l.length with h1 | h1
    · rw [Nat.min_eq_left h1, List.drop_take]; congr 1; omega
    · rw [Nat.min_eq_right h1, List.take_length, List.take_of_length_le (by simp; omega)]
  rw [hd]
  by_cases hs : (l.drop a).length ≤ 104
  · rw [splitL_small hs, if_neg (by simp at hs; omega), List.take_of_length_le hs]
  · rw [splitL_big hs, if_pos (by simp at hs; omega), List.drop_drop]
theorem split_ref (l0 : List UInt8) (w : World) (hs : l0.length ≤ 1000) :
    Calls Tryd.prog 19 #[.string (mkS l0)] w fun e w' => ∃ v, e = .returned v ∧ Own Value.string 9 w.heap.size w' v (splitL l0) ∧ Below w.heap.size w w' := by
  obtain ⟨S0, hS0⟩ : ∃ S0, mkS l0 = S0 := ⟨_, rfl⟩
  have HS0 := Lib.hid hS0
  have hz : S0.size = l0.length := by rw [← hS0, mkS_size]
  have HX : Hid (∀ a b, S0.extract a b = mkS ((l0.take b).drop a)) := Lib.hid fun a b => by rw [← hS0, mkS_extract]
  rw [hS0]; clear hS0
  obtain ⟨N, hN⟩ : ∃ N, l0.length = N := ⟨_, rfl⟩
  rw [hN] at hs hz
  have HN := Lib.hid hN
  clear hN
  go_enter Tryd.func19, Tryd.ntmps19
  go_wp2
  go_loopw [3, 4] (fun v i W => ∃ a : Nat, a ≤ N + 104 ∧ i = .int .i64 a ∧ ∃ out : List ByteArray, out.length ≤ a ∧ Hid (splitL l0 = out ++ restL l0 a ∧ Own Value.string 9 w.heap.size W v out ∧ Below w.heap.size w W)) (fun _ i _ => N + 104 - (intOf i).toNat)
  case atStart => exact ⟨0, by omega, rfl, [], by simp, Lib.hid ⟨by unfold restL; simp, Own.nil _ _ _ _, Below.refl _ _⟩⟩
  case round =>
    obtain ⟨a, ha, rfl, out, hol, HR⟩ := hrel
    have hzI : (S0.size : Int) = (N : Int) := by omega
    have hNI : (N : Int) ≤ 1000 := by omega
    clear hz
    by_cases h0 : a = 0
    · subst h0
      have HSp : Hid (splitL l0 = (out ++ [S0.extract 0 (min 104 N)]) ++ restL l0 104) := Lib.hid (by
        rw [HR.out.1, restL_step l0 0 (.inl rfl), HX.out, HN.out]; simp)
      by_cases hm : 104 ≤ N
      · rw [Nat.min_eq_left hm] at HSp
        have hmI : 104 ≤ (N : Int) := by omega
        go_wp2_with (at_builtin; refine append_one Value.string w.heap.size rfl (.tmp 15) (.tmp 24) 30 9 (.string ByteArray.empty) 16 rfl Tryd.underlying30 info_string rfl (by decide) _ _ _ rfl rfl rfl HR.out.2.1 HR.out.2.2 HR.out.2.2.size (by omega) ?_; intro v1 w2 hown1 hbel1)
        go_roundw
        case measure => simp [intOf]
        case rel => exact ⟨104, by omega, by go_num, _, by simp; omega, Lib.hid ⟨HSp.out, hown1, hbel1⟩⟩
      · rw [Nat.min_eq_right (by omega)] at HSp
        have hmI : (N : Int) < 104 := by omega
        go_wp2_with (at_builtin; refine append_one Value.string w.heap.size rfl (.tmp 15) (.tmp 24) 30 9 (.string ByteArray.empty) 16 rfl Tryd.underlying30 info_string rfl (by decide) _ _ _ rfl rfl rfl HR.out.2.1 HR.out.2.2 HR.out.2.2.size (by omega) ?_; intro v1 w2 hown1 hbel1)
        go_roundw
        case measure => simp [intOf]
        case rel => exact ⟨104, by omega, by go_num, _, by simp; omega, Lib.hid ⟨HSp.out, hown1, hbel1⟩⟩
    · have h0I : ¬ (a : Int) = 0 := by omega
      by_cases hlt : a < N
      · have HSp : Hid (splitL l0 = (out ++ [S0.extract a (min (a + 104) N)]) ++ restL l0 (a + 104)) := Lib.hid (by
          rw [HR.out.1, restL_step l0 a (by rw [HN.out]; exact .inr hlt), HX.out, HN.out]; simp)
        have haI : (a : Int) < (N : Int) := by omega
        by_cases hm : a + 104 ≤ N
        · rw [Nat.min_eq_left hm] at HSp
          have hmI : (a : Int) + 104 ≤ (N : Int) := by omega
          go_wp2_with (at_builtin; refine append_one Value.string w.heap.size rfl (.tmp 15) (.tmp 24) 30 9 (.string ByteArray.empty) 16 rfl Tryd.underlying30 info_string rfl (by decide) _ _ _ rfl rfl rfl HR.out.2.1 HR.out.2.2 HR.out.2.2.size (by omega) ?_; intro v1 w2 hown1 hbel1)
          go_roundw
          case measure => simp [intOf]; omega
          case rel => exact ⟨a + 104, by omega, by go_num, _, by simp; omega, Lib.hid ⟨HSp.out, hown1, hbel1⟩⟩
        · rw [Nat.min_eq_right (by omega)] at HSp
          have hmI : (N : Int) < (a : Int) + 104 := by omega
          go_wp2_with (at_builtin; refine append_one Value.string w.heap.size rfl (.tmp 15) (.tmp 24) 30 9 (.string ByteArray.empty) 16 rfl Tryd.underlying30 info_string rfl (by decide) _ _ _ rfl rfl rfl HR.out.2.1 HR.out.2.2 HR.out.2.2.size (by omega) ?_; intro v1 w2 hown1 hbel1)
          go_roundw
          case measure => simp [intOf]; omega
          case rel => exact ⟨a + 104, by omega, by go_num, _, by simp; omega, Lib.hid ⟨HSp.out, hown1, hbel1⟩⟩
      · have haI : (N : Int) ≤ (a : Int) := by omega
        have HSp : Hid (splitL l0 = out) := Lib.hid (by
          rw [HR.out.1]; unfold restL; rw [if_neg (by rw [HN.out]; omega)]; simp)
        go_wp2
        go_ret
        exact ⟨_, rfl, by rw [HSp.out]; exact HR.out.2.1, HR.out.2.2⟩
end Go.Proofs.YtoojdknfommpbaaDoor
