/- The walks of the disk's Sectors and Waits: copies. -/
import Derived.Test.YtoojdknfommpbaaDoorDiskCrash
namespace Go.Proofs.YtoojdknfommpbaaDoor
open Go.RowKit
set_option maxRecDepth 10000

theorem grown_below {w w1 w2 : World} {v : Value} (hb : Below w.heap.size w w1) (hg : w1.grownBy w2 v.ownBlock) (hv : ∀ k, v.ownBlock = some k → w.heap.size ≤ k) : Below w.heap.size w w2 :=
  hb.trans ⟨hg.os, hg.tape, hg.output, hg.size, fun k hk => hg.block k (Nat.lt_of_lt_of_le hk hb.size) fun e => by have := hv k e.symm; omega⟩
section
variable {P : Program} {ops : Array Oper} {rest : List Oper} {o : Oper} {a : Act} {Q : Exit → Act → World → Prop}
/-- append([]E{}, x...): a copy in memory of its own. -/
theorem append_clone {w : World} (hgd : o.guard = none) (s x : Operand) (t e : TypeId) (z : Value) (size bytes : Nat)
    (ho : o.op = .call { callee := .builtin .append, args := #[s, x], argTypes := #[t, t] })
    (ht : P.underlying t = some (.slice e)) (hinfo : (P.info? e).map (fun i => (i.zero, i.size, i.bytes)) = some (some z, size, bytes)) (hz : z.cells.size = size) (hsz : 0 < size)
    (hs : a.eval s = .slice (some ⟨w.heap.size, 0, none⟩) 0 0) (ad : Addr) (m c : Nat) (news : List Value) (hx : a.eval x = .slice (some ad) m c) (hl : news.length = m * size)
    (hnews : ∀ j u, news[j]? = some u → w.cell? (ad.add j) = some u) (h1 : ∀ u ∈ news, u.oneCell' = true) (hm : m ≤ maxLen) (hby : m * bytes ≤ 140737488355328)
    (h : ∀ v1 w1, w1.ownsRow w.heap.size e size v1 m news → Below w.heap.size w w1 → wpList P ops Q rest (a.put o.dst v1) w1) :
    wpList P ops Q (o :: rest) a (w.alloc (.cells #[] e)) := by
  obtain ⟨i0, hi, hzz⟩ := Option.map_eq_some_iff.1 hinfo
  simp only [Prod.mk.injEq] at hzz
  obtain ⟨hz0, hz1, hz2⟩ := hzz
  have hown := World.ownsRow_lit (base := w.heap.size) (e := e) (size := size) w #[] 0 (Nat.le_refl _) (Nat.zero_le _) (by simp)
  refine wpList_append_own_at (w.alloc (.cells #[] e)) hgd s x t ho w.heap.size e i0 z size bytes ht hi hz0 hz1 hz2 hz hsz _ 0 [] hs (by simpa using hown) ad m c news hx hl
    (fun j u hj => cell_below (below_new w _) (hnews j u hj)) h1 (by simpa using hm) (by simpa using hby) (by simp) ?_
  intro v1 w1 h2 h3 _ _
  refine h v1 w1 (by simpa using h2) (grown_below (below_new w _) h3 fun k hk => ?_)
  simp [Value.ownBlock] at hk; omega
end
theorem info_str : (Tryd.prog.info? 9).map (fun i => (i.zero, i.size, i.bytes)) = some (some (.string ByteArray.empty), 1, 16) := by kernel_rfl
theorem clone_str (w : World) (a : Addr) (n c : Nat) (xs : List ByteArray) (hn : n = xs.length) (hm : n ≤ 1000000) (hc : ∀ j u, (xs.map Value.string)[j]? = some u → w.cell? (a.add j) = some u) :
    Calls Tryd.prog 99 #[.slice (some a) n c] w fun e w' => ∃ v', e = .returned v' ∧ w'.ownsRow w.heap.size 9 1 v' n (xs.map Value.string) ∧ Below w.heap.size w w' := by
  have HC := Lib.hid hc
  have HN := Lib.hid hn
  clear hc hn
  have hnil : ∀ W, (binOp .eql 30 (.slice (some a) n c) (.slice none 0 0)).run Tryd.prog W = .ok (.bool false) W := fun W => Lib.run_eql_slice_some_nil W _ _ _ Tryd.underlying30
  go_enter Tryd.func99, Tryd.ntmps99
  go_wp2_with (at_builtin; (refine append_clone rfl (.tmp 5) (.tmp 6) 30 9 _ 1 16 rfl Tryd.underlying30 info_str rfl (by decide) rfl a n c (xs.map Value.string) rfl (by simp [HN.out]) HC.out (by intro u hu; obtain ⟨y, _, rfl⟩ := List.mem_map.1 hu; rfl) (by simp only [maxLen]; omega) (by omega) ?_; intro v1 w1 hown1 hbel1))
  go_ret
  exact ⟨_, rfl, hown1, hbel1⟩
theorem clone_wr (w : World) (a : Addr) (n c : Nat) (xs : List (Nat × ByteArray)) (hn : n = xs.length) (hm : n ≤ 1000000) (hc : ∀ j u, (wcells xs)[j]? = some u → w.cell? (a.add j) = some u) :
    Calls Tryd.prog 100 #[.slice (some a) n c] w fun e w' => ∃ v', e = .returned v' ∧ w'.ownsRow w.heap.size 119 2 v' n (wcells xs) ∧ Below w.heap.size w w' := by
  have HC := Lib.hid hc
  have HN := Lib.hid hn
  clear hc hn
  have hnil : ∀ W, (binOp .eql 75 (.slice (some a) n c) (.slice none 0 0)).run Tryd.prog W = .ok (.bool false) W := fun W => Lib.run_eql_slice_some_nil W _ _ _ Tryd.underlying75
  go_enter Tryd.func100, Tryd.ntmps100
  go_wp2_with (at_builtin; (refine append_clone rfl (.tmp 5) (.tmp 6) 75 119 _ 2 24 rfl Tryd.underlying75 info_write rfl (by decide) rfl a n c (wcells xs) rfl (by rw [wcells_length, HN.out]) HC.out (by intro u hu; obtain ⟨y, _, hy⟩ := List.mem_flatMap.1 hu; simp at hy; rcases hy with rfl | rfl <;> rfl) (by simp only [maxLen]; omega) (by omega) ?_; intro v1 w1 hown1 hbel1))
  go_ret
  exact ⟨_, rfl, hown1, hbel1⟩
theorem clone_str_nil (w : World) : Calls Tryd.prog 99 #[.slice none 0 0] w fun e w' => e = .returned (.slice none 0 0) ∧ w = w' := by
  have hnil : ∀ W, (binOp .eql 30 (.slice none 0 0) (.slice none 0 0)).run Tryd.prog W = .ok (.bool true) W := fun W => Lib.run_eql_slice_nil_nil W _ _ Tryd.underlying30
  go_enter Tryd.func99, Tryd.ntmps99
  go_wp2
  go_ret
  exact ⟨rfl, rfl⟩
theorem clone_wr_nil (w : World) : Calls Tryd.prog 100 #[.slice none 0 0] w fun e w' => e = .returned (.slice none 0 0) ∧ w = w' := by
  have hnil : ∀ W, (binOp .eql 75 (.slice none 0 0) (.slice none 0 0)).run Tryd.prog W = .ok (.bool true) W := fun W => Lib.run_eql_slice_nil_nil W _ _ Tryd.underlying75
  go_enter Tryd.func100, Tryd.ntmps100
  go_wp2
  go_ret
  exact ⟨rfl, rfl⟩
/-- Whatever row is owned is copied. -/
theorem clone_row (w : World) (v : Value) (xs : List (Nat × ByteArray)) (h : w.ownsRow 0 119 2 v xs.length (wcells xs)) (hm : xs.length ≤ 1000000) :
    Calls Tryd.prog 100 #[v] w fun e w' => ∃ v', e = .returned v' ∧ w'.ownsRow w.heap.size 119 2 v' xs.length (wcells xs) ∧ Below w.heap.size w w' := by
  rcases h.2 with ⟨rfl, hn⟩ | ⟨g, cap, cur, rfl, _⟩
  · obtain rfl : xs = [] := List.eq_nil_of_length_eq_zero hn
    exact (clone_wr_nil w).mono fun e w' ⟨he, hw⟩ => ⟨_, he, World.ownsRow_nil _ _ _ _, by rw [← hw]; exact Below.refl _ _⟩
  · exact clone_wr w _ _ cap xs rfl hm (h.cells rfl)
theorem sectors_nil (w : World) : Calls Tryd.prog 52 #[.pointer none] w fun e w' => e = .returned (.slice none 0 0) ∧ w = w' := by
  go_enter Tryd.func52, Tryd.ntmps52
  go_wp2_with (go_at_call 97; (with_reducible refine (given_nil _).mono ?_); rintro e w' ⟨rfl, rfl⟩)
  go_ret
  exact ⟨rfl, rfl⟩
theorem waits_nil (w : World) : Calls Tryd.prog 54 #[.pointer none] w fun e w' => e = .returned (.slice none 0 0) ∧ w = w' := by
  go_enter Tryd.func54, Tryd.ntmps54
  go_wp2_with (go_at_call 97; (with_reducible refine (given_nil _).mono ?_); rintro e w' ⟨rfl, rfl⟩)
  go_ret
  exact ⟨rfl, rfl⟩
theorem sectors_no (t : TypeId) (w : World) (b : Nat) (x0 x1 x2 x4 : Value) (A : Option Addr) (c : Nat) (h : Five t w b x0 x1 x2 (.slice A 0 c) x4) : Calls Tryd.prog 52 #[.pointer (some ⟨b, 0, none⟩)] w fun e w' => e = .returned (.slice none 0 0) ∧ w = w' := by
  have G := Lib.hid (given_any t w b _ _ _ _ A 0 c h (by omega))
  rw [show decide (0 < 0) = false from rfl] at G
  go_enter Tryd.func52, Tryd.ntmps52
  go_wp2_with (go_at_call 97; (with_reducible refine G.out.mono ?_); rintro e w' ⟨rfl, rfl⟩)
  go_ret
  exact ⟨rfl, rfl⟩
theorem waits_no (t : TypeId) (w : World) (b : Nat) (x0 x1 x2 x4 : Value) (A : Option Addr) (c : Nat) (h : Five t w b x0 x1 x2 (.slice A 0 c) x4) : Calls Tryd.prog 54 #[.pointer (some ⟨b, 0, none⟩)] w fun e w' => e = .returned (.slice none 0 0) ∧ w = w' := by
  have G := Lib.hid (given_any t w b _ _ _ _ A 0 c h (by omega))
  rw [show decide (0 < 0) = false from rfl] at G
  go_enter Tryd.func54, Tryd.ntmps54
  go_wp2_with (go_at_call 97; (with_reducible refine G.out.mono ?_); rintro e w' ⟨rfl, rfl⟩)
  go_ret
  exact ⟨rfl, rfl⟩
theorem sectors_any (w : World) (b : Nat) (s : St) (sv wv : Value) (h : DiskAt w b s sv wv) (hok : s.ok 1000000) :
    Calls Tryd.prog 52 #[.pointer (some ⟨b, 0, none⟩)] w fun e w' => ∃ v', e = .returned v' ∧ w'.ownsRow w.heap.size 9 1 v' s.sec.length (s.sec.map Value.string) ∧ Below w.heap.size w w' := by
  have hlen : s.sec.length ≤ 512 := hok.most
  have hlen2 : 2 ≤ s.sec.length := hok.two
  obtain ⟨g1, c1, rfl, _, hg1⟩ := World.ownsRow.form h.rows.sec (by omega)
  have G := Lib.hid (given_any _ w b _ _ _ _ _ s.sec.length c1 h.five (by omega))
  rw [decide_eq_true (show 0 < s.sec.length by omega)] at G
  have C := Lib.hid (clone_str w _ s.sec.length c1 s.sec rfl (by omega) (h.rows.sec.cells rfl))
  have c3 := h.five.c3
  clear h
  go_enter Tryd.func52, Tryd.ntmps52
  go_wp2_with (first | (go_at_call 97; (with_reducible refine G.out.mono ?_); rintro e w' ⟨rfl, rfl⟩) | (go_at_call 99; (with_reducible refine C.out.mono ?_); rintro e w2 ⟨v2, rfl, h1, h2⟩))
  go_ret
  exact ⟨_, rfl, h1, h2⟩
theorem waits_any (w : World) (b : Nat) (s : St) (sv wv : Value) (h : DiskAt w b s sv wv) (hok : s.ok 1000000) :
    Calls Tryd.prog 54 #[.pointer (some ⟨b, 0, none⟩)] w fun e w' => ∃ v', e = .returned v' ∧ w'.ownsRow w.heap.size 119 2 v' s.waits.length (wcells s.waits) ∧ Below w.heap.size w w' := by
  have hlen : s.sec.length ≤ 512 := hok.most
  have hlen2 : 2 ≤ s.sec.length := hok.two
  obtain ⟨g1, c1, rfl, _, hg1⟩ := World.ownsRow.form h.rows.sec (by omega)
  have G := Lib.hid (given_any _ w b _ _ _ _ _ s.sec.length c1 h.five (by omega))
  rw [decide_eq_true (show 0 < s.sec.length by omega)] at G
  have C := Lib.hid (clone_row w wv s.waits h.rows.wai hok.few)
  obtain ⟨A2, c2, rfl, _⟩ := sl_form h.rows.wai
  have c4 := h.five.c4
  clear h
  go_enter Tryd.func54, Tryd.ntmps54
  go_wp2_with (first | (go_at_call 97; (with_reducible refine G.out.mono ?_); rintro e w' ⟨rfl, rfl⟩) | (go_at_call 100; (with_reducible refine C.out.mono ?_); rintro e w2 ⟨v2, rfl, h1, h2⟩))
  go_ret
  exact ⟨_, rfl, h1, h2⟩
end Go.Proofs.YtoojdknfommpbaaDoor
