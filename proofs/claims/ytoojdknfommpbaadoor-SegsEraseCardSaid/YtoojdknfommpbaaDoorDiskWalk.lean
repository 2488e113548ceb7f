/- The small functions of the disk and of the document's disk. -/
import Derived.Test.YtoojdknfommpbaaDoorDiskPure
import Derived.Test.YtoojdknfommpbaaDoorDiskHeap
namespace Go.Proofs.YtoojdknfommpbaaDoor
open Go.RowKit
set_option maxRecDepth 10000

theorem burns_any (t : TypeId) (w : World) (b : Nat) (left done : Nat) (sv wv : Value) (h : Five t w b (.int .i64 left) (.int .i64 done) (.bool false) sv wv) (hl : left ≤ 9223372036854775807) (hd : done ≤ 1000000) :
    Calls Tryd.prog 91 #[.pointer (some ⟨b, 0, none⟩)] w fun e w' => e = .returned (.bool (!decide (left = 1))) ∧
      Five t w' b (.int .i64 ((left - 1 : Nat) : Int)) (.int .i64 ((done + 1 : Nat) : Int)) (.bool (decide (left = 1))) sv wv ∧ Tou (fun k => k = b) w w' := by
  have c0 := h.c0
  have c1 := h.c1
  have c2 := h.c2
  have f0 := h.fz 0
  have f1 := h.fz 1
  have f2 := h.fz 2
  have H1 := Lib.hid (h.s1 (.int .i64 ((done : Int) + 1)))
  have T1 := Lib.hid ((Tou.refl (fun k => k = b) w).set (.inl rfl) 1 (.int .i64 ((done : Int) + 1)))
  clear h
  rcases (show left = 0 ∨ left = 1 ∨ 2 ≤ left by omega) with rfl | rfl | hl2
  · go_enter Tryd.func91, Tryd.ntmps91
    go_wp2
    go_ret
    exact ⟨rfl, H1.out, T1.out⟩
  · have H2 := Lib.hid ((H1.out.s0 (.int .i64 0)).s2 (.bool true))
    have T2 := Lib.hid ((T1.out.set (.inl rfl) 0 (.int .i64 0)).set (.inl rfl) 2 (.bool true))
    go_enter Tryd.func91, Tryd.ntmps91
    go_wp2
    go_ret
    exact ⟨rfl, H2.out, T2.out⟩
  · have H2 := Lib.hid ((H1.out.s0 (.int .i64 ((left : Int) - 1))).s2 (.bool false))
    have T2 := Lib.hid ((T1.out.set (.inl rfl) 0 (.int .i64 ((left : Int) - 1))).set (.inl rfl) 2 (.bool false))
    have hl3 : 2 ≤ (left : Int) := by omega
    have hl4 : (left : Int) ≤ 9223372036854775807 := by omega
    have hl5 : ((left : Int) - 1 == 0) = false := by simp; omega
    have hl6 : ¬ ((left : Int) - 1 = 0) := by omega
    have E1 : Hid (decide (left = 1) = false) := Lib.hid (by simp; omega)
    have E2 : Hid (((left - 1 : Nat) : Int) = (left : Int) - 1) := Lib.hid (by omega)
    go_enter Tryd.func91, Tryd.ntmps91
    go_wp2
    go_ret
    exact ⟨by rw [E1.out]; rfl, by rw [E1.out, E2.out]; exact H2.out, T2.out⟩
theorem fuseFuse_any (t : TypeId) (w : World) (b : Nat) (x0 x1 x2 x3 x4 : Value) (n : Int) (h : Five t w b x0 x1 x2 x3 x4) (hn0 : -9223372036854775808 ≤ n) (hn1 : n ≤ 9223372036854775807) :
    Calls Tryd.prog 98 #[.pointer (some ⟨b, 0, none⟩), .int .i64 n] w fun e w' => e = .returned (.tuple #[]) ∧ Five t w' b (.int .i64 (n.toNat : Int)) x1 x2 x3 x4 ∧ Tou (fun k => k = b) w w' := by
  have c0 := h.c0
  have f0 := h.fz 0
  have H1 := Lib.hid (h.s0 (.int .i64 (n.toNat : Int)))
  have T1 := Lib.hid ((Tou.refl (fun k => k = b) w).set (.inl rfl) 0 (.int .i64 (n.toNat : Int)))
  clear h
  rcases (show n < 0 ∨ 0 ≤ n by omega) with hn | hn
  · have e : (n.toNat : Int) = 0 := by omega
    rw [e] at H1 T1
    go_enter Tryd.func98, Tryd.ntmps98
    go_wp2
    go_end0
    exact ⟨rfl, by rw [e]; exact H1.out, T1.out⟩
  · have e : (n.toNat : Int) = n := by omega
    rw [e] at H1 T1
    go_enter Tryd.func98, Tryd.ntmps98
    go_wp2
    go_end0
    exact ⟨rfl, by rw [e]; exact H1.out, T1.out⟩

theorem given_nil (w : World) : Calls Tryd.prog 97 #[.pointer none] w fun e w' => e = .returned (.bool false) ∧ w = w' := by
  go_enter Tryd.func97, Tryd.ntmps97
  go_wp2
  go_ret
  exact ⟨rfl, rfl⟩
theorem given_any (t : TypeId) (w : World) (b : Nat) (x0 x1 x2 x4 : Value) (A : Option Addr) (n c : Nat) (h : Five t w b x0 x1 x2 (.slice A n c) x4) (hn : n ≤ 1000000) :
    Calls Tryd.prog 97 #[.pointer (some ⟨b, 0, none⟩)] w fun e w' => e = .returned (.bool (decide (0 < n))) ∧ w = w' := by
  have c3 := h.c3
  clear h
  rcases Nat.eq_zero_or_pos n with rfl | h0
  · go_enter Tryd.func97, Tryd.ntmps97
    go_wp2
    go_ret
    exact ⟨rfl, rfl⟩
  · have h0I : 0 < (n : Int) := by omega
    have E := Lib.hid (decide_eq_true h0)
    go_enter Tryd.func97, Tryd.ntmps97
    go_wp2
    go_ret
    exact ⟨by rw [E.out]; rfl, rfl⟩
/-- What a disk tells of whether it goes. -/
def goesE (n : Nat) (dead : Bool) : Int := if n = 0 then 1 else if dead = true then 13 else 0
theorem goes_nil (w : World) : Calls Tryd.prog 90 #[.pointer none] w fun e w' => e = .returned (.int .i64 1) ∧ w = w' := by
  go_enter Tryd.func90, Tryd.ntmps90
  go_wp2_with (go_at_call 97; (with_reducible refine (given_nil _).mono ?_); rintro e w' ⟨rfl, rfl⟩)
  go_ret
  exact ⟨rfl, rfl⟩
theorem goes_any (t : TypeId) (w : World) (b : Nat) (x0 x1 x4 : Value) (dead : Bool) (A : Option Addr) (n c : Nat) (h : Five t w b x0 x1 (.bool dead) (.slice A n c) x4) (hn : n ≤ 1000000) :
    Calls Tryd.prog 90 #[.pointer (some ⟨b, 0, none⟩)] w fun e w' => e = .returned (.int .i64 (goesE n dead)) ∧ w = w' := by
  have c2 := h.c2
  have G := Lib.hid (given_any t w b _ _ _ _ A n c h hn)
  clear h
  rcases Nat.eq_zero_or_pos n with rfl | h0
  · have E : Hid (decide (0 < 0) = false) := Lib.hid rfl
    rw [E.out] at G
    go_enter Tryd.func90, Tryd.ntmps90
    go_wp2_with (go_at_call 97; (with_reducible refine G.out.mono ?_); rintro e w' ⟨rfl, rfl⟩)
    go_ret
    exact ⟨rfl, rfl⟩
  · rw [decide_eq_true h0] at G
    have E : Hid (goesE n dead = if dead = true then 13 else 0) := Lib.hid (by unfold goesE; rw [if_neg (by omega)])
    rw [E.out]
    cases dead
    all_goals
      go_enter Tryd.func90, Tryd.ntmps90
      go_wp2_with (go_at_call 97; (with_reducible refine G.out.mono ?_); rintro e w' ⟨rfl, rfl⟩)
      go_ret
      exact ⟨rfl, rfl⟩
theorem ops_nil (w : World) : Calls Tryd.prog 55 #[.pointer none] w fun e w' => e = .returned (.int .i64 0) ∧ w = w' := by
  go_enter Tryd.func55, Tryd.ntmps55
  go_wp2_with (go_at_call 97; (with_reducible refine (given_nil _).mono ?_); rintro e w' ⟨rfl, rfl⟩)
  go_ret
  exact ⟨rfl, rfl⟩
theorem ops_any (t : TypeId) (w : World) (b : Nat) (x0 x2 x4 : Value) (done : Int) (A : Option Addr) (n c : Nat) (h : Five t w b x0 (.int .i64 done) x2 (.slice A n c) x4) (hn : n ≤ 1000000) :
    Calls Tryd.prog 55 #[.pointer (some ⟨b, 0, none⟩)] w fun e w' => e = .returned (.int .i64 (if n = 0 then 0 else done)) ∧ w = w' := by
  have c1 := h.c1
  have G := Lib.hid (given_any t w b _ _ _ _ A n c h hn)
  clear h
  rcases Nat.eq_zero_or_pos n with rfl | h0
  · have E : Hid (decide (0 < 0) = false) := Lib.hid rfl
    rw [E.out] at G
    go_enter Tryd.func55, Tryd.ntmps55
    go_wp2_with (go_at_call 97; (with_reducible refine G.out.mono ?_); rintro e w' ⟨rfl, rfl⟩)
    go_ret
    exact ⟨rfl, rfl⟩
  · rw [decide_eq_true h0] at G
    rw [if_neg (by omega)]
    go_enter Tryd.func55, Tryd.ntmps55
    go_wp2_with (go_at_call 97; (with_reducible refine G.out.mono ?_); rintro e w' ⟨rfl, rfl⟩)
    go_ret
    exact ⟨rfl, rfl⟩
theorem dfuse_nil (n : Int) (w : World) : Calls Tryd.prog 48 #[.pointer none, .int .i64 n] w fun e w' => e = .returned (.tuple #[]) ∧ w = w' := by
  go_enter Tryd.func48, Tryd.ntmps48
  go_wp2_with (go_at_call 97; (with_reducible refine (given_nil _).mono ?_); rintro e w' ⟨rfl, rfl⟩)
  go_end0
  exact ⟨rfl, rfl⟩
def FusePost (t : TypeId) (w : World) (b : Nat) (x0 x1 x2 x4 : Value) (A : Option Addr) (m c : Nat) (n : Int) (e : Ending) (w' : World) : Prop :=
  e = .returned (.tuple #[]) ∧ (if m = 0 then w' = w else Five t w' b (.int .i64 (n.toNat : Int)) x1 x2 (.slice A m c) x4) ∧ Tou (fun k => k = b) w w' ∧ x0 = x0
theorem dfuse_any (t : TypeId) (w : World) (b : Nat) (x0 x1 x2 x4 : Value) (A : Option Addr) (m c : Nat) (n : Int) (h : Five t w b x0 x1 x2 (.slice A m c) x4) (hm : m ≤ 1000000) (hn0 : -9223372036854775808 ≤ n) (hn1 : n ≤ 9223372036854775807) :
    Calls Tryd.prog 48 #[.pointer (some ⟨b, 0, none⟩), .int .i64 n] w (FusePost t w b x0 x1 x2 x4 A m c n) := by
  have G := Lib.hid (given_any t w b _ _ _ _ A m c h hm)
  have G2 := Lib.hid (fuseFuse_any t w b _ _ _ _ _ n h hn0 hn1)
  clear h
  rcases Nat.eq_zero_or_pos m with rfl | h0
  · have E : Hid (decide (0 < 0) = false) := Lib.hid rfl
    rw [E.out] at G
    go_enter Tryd.func48, Tryd.ntmps48
    go_wp2_with (go_at_call 97; (with_reducible refine G.out.mono ?_); rintro e w' ⟨rfl, rfl⟩)
    go_end0
    exact ⟨rfl, by rw [if_pos rfl], Tou.refl _ _, rfl⟩
  · rw [decide_eq_true h0] at G
    have E : Hid (¬ m = 0) := Lib.hid (by omega)
    go_enter Tryd.func48, Tryd.ntmps48
    go_wp2_with (first | (go_at_call 97; (with_reducible refine G.out.mono ?_); rintro e w' ⟨rfl, rfl⟩) | (go_at_call 98; (with_reducible refine G2.out.mono ?_); rintro e w' ⟨rfl, hf, ht⟩))
    go_end0
    exact ⟨rfl, by rw [if_neg E.out]; exact hf, ht, rfl⟩
end Go.Proofs.YtoojdknfommpbaaDoor
